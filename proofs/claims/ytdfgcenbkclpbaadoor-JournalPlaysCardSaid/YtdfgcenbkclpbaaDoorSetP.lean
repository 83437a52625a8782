/- What set asks of a journal: plain laws. -/
import Derived.Test.YtdfgcenbkclpbaaDoorSetM
namespace Go.Proofs.YtdfgcenbkclpbaaDoor
open Go.RowKit
set_option linter.unusedSimpArgs false
set_option linter.unusedVariables false
theorem liveWords_append (l m : List Slot) : liveWords (l ++ m) = liveWords l + liveWords m := by
  induction l with
  | nil => simp [liveWords]
  | cons x l ih => rw [List.cons_append, liveWords, liveWords, ih]; omega
theorem liveWords_set_dead {x : Slot} (hx : x.live = false) : ∀ (l : List Slot) (i : Nat), liveWords (l.set i x) ≤ liveWords l
  | [], _ => by simp
  | y :: l, 0 => by rw [List.set_cons_zero, liveWords, liveWords, hx]; simp
  | y :: l, i + 1 => by rw [List.set_cons_succ, liveWords, liveWords]; have := liveWords_set_dead hx l i; omega
theorem live_words_room (n : Nat) : 4 * (2 + (n + 3) / 4) ≤ room n := by unfold room; omega
theorem liveWords_one (y : Slot) : liveWords [y] = if y.live then 2 + (y.b.length + 3) / 4 else 0 := by simp [liveWords]
theorem live_le_room (y : Slot) : 4 * (if y.live then 2 + (y.b.length + 3) / 4 else 0) ≤ (if y.live then room y.b.length else 0) := by
  have := live_words_room y.b.length
  cases y.live <;> simp; omega
theorem usedUpto_succ {l : List Slot} {i k : Nat} (hk : k < l.length) : usedUpto l i (k + 1) = usedUpto l i k + (if (l[k]).counts k i then room (l[k]).b.length else 0) := by
  rw [usedUpto, List.getElem?_eq_getElem hk]
theorem liveWords_used {x : Slot} {i : Nat} (l : List Slot) : ∀ k, k ≤ l.length → 4 * liveWords ((l.set i x).take k) ≤ usedUpto l i k + (if i < k then room x.b.length else 0)
  | 0, _ => by simp [liveWords]
  | k + 1, hk => by
    have ih := liveWords_used (x := x) (i := i) l k (by omega)
    have hk' : k < l.length := by omega
    have hkl : k < (l.set i x).length := by rw [List.length_set]; omega
    rw [List.take_succ_eq_append_getElem hkl, liveWords_append, usedUpto_succ hk', liveWords_one, List.getElem_set]
    by_cases e : i = k
    · subst e
      have h1 := live_le_room x
      have h2 : (if x.live = true then room x.b.length else 0) ≤ room x.b.length := by split <;> omega
      have h3 : (if i < i then room x.b.length else 0) = 0 := if_neg (Nat.lt_irrefl _)
      have h4 : (if i < i + 1 then room x.b.length else 0) = room x.b.length := if_pos (by omega)
      rw [h3] at ih
      rw [h4, if_pos rfl]
      omega
    · have h1 : (if i < k + 1 then room x.b.length else 0) = (if i < k then room x.b.length else 0) := by
        by_cases h : i < k
        · rw [if_pos h, if_pos (by omega)]
        · rw [if_neg h, if_neg (by omega)]
      have h2 : (l[k]).counts k i = (l[k]).live := by
        unfold Slot.counts Slot.live
        rw [show (k != i) = true from bne_iff_ne.2 (fun h => e h.symm), Bool.true_and]
      have h3 := live_le_room l[k]
      rw [h1, h2, if_neg e]
      omega
theorem liveWords_fits {J : Jn} {i : Nat} {x : Slot} (hs : J.slots.length = 16) (hi : i < 16) (hf : J.fits i x.b.length = true) : 2 + liveWords (J.slots.set i x) ≤ 256 * J.count := by
  have h := liveWords_used (x := x) (i := i) J.slots 16 (by omega)
  rw [List.take_of_length_le (by simp; omega), if_pos hi] at h
  unfold Jn.fits at hf
  simp only [decide_eq_true_eq] at hf
  omega
/-- what a journal keeps -/
structure Jn.Ok (J : Jn) (F : Fl) : Prop where
  first : J.first + J.count ≤ F.count
  other : J.other + J.count ≤ F.count
  pos : 0 < J.count
  next : J.next ≤ 256 * J.count
  room : 2 + liveWords J.slots ≤ 256 * J.count
theorem liveWords_set {J : Jn} {F : Fl} {i : Nat} {x : Slot} (h : J.Ok F) (hs : J.slots.length = 16) (hi : i < 16) (hf : x.live = true → J.fits i x.b.length = true) : 2 + liveWords (J.slots.set i x) ≤ 256 * J.count := by
  by_cases hx : x.live = true
  · exact liveWords_fits hs hi (hf hx)
  · have := liveWords_set_dead (by simpa using hx) J.slots i
    have := h.room
    omega
theorem set_any (w : World) (j f s : Nat) (J : Jn) (F : Fl) (i : Nat) (m : Bool) (b : List UInt8) (a : Option Addr) (c : Nat) (h : JnAt w j f s J) (hF : FlashAt w f s F) (hi : i < 16) (ho : J.cut = false → F.off = false)
    (hx : SliceAt w a (b.map u8v) ∧ b.length ≤ 4096 ∧ (a = none → b.length = 0 ∧ c = 0) ∧ ∀ y, a = some y → y.block ≠ j ∧ y.block ≠ f ∧ y.block ≠ s) (hk : J.Ok F) :
    Calls Tryd.prog 41 #[ptr j, .int .u8 i, groupV true m a b.length c] w fun e w' =>
      e = .returned (.int .i64 (J.set F i ⟨true, m, b, a, c⟩).1) ∧ FlashAt w' f s (J.set F i ⟨true, m, b, a, c⟩).2.1 ∧ JnAt w' j f s (J.set F i ⟨true, m, b, a, c⟩).2.2 ∧ Touch [f, s, j] w w' := by
  cases hc : J.cut with
  | true =>
    refine (set_cut w j f s J F i ⟨true, m, b, a, c⟩ h hF hi hc).mono ?_
    rintro e w1 ⟨rfl, h1, h2⟩
    have e1 : J.set F i ⟨true, m, b, a, c⟩ = (7, F, { J with cut := true }) := by unfold Jn.set; rw [if_pos (by simp [hc])]
    rw [e1]
    exact ⟨rfl, hF.touch h2 (by simpa using fun e => h.apart.1 e.symm) (by simpa using fun e => h.apart.2 e.symm), h1, h2.mono (by simp)⟩
  | false =>
    have ho := ho hc
    cases m with
    | true => exact set_marked w j f s J F i b a c h hF hi hc ho hx hk.first hk.other hk.pos hk.next (liveWords_set hk h.sixteen hi (fun e => by simp [Slot.live] at e))
    | false =>
      cases hf : J.fits i b.length with
      | true => exact set_kept w j f s J F i b a c h hF hi hc ho hx hf hk.first hk.other hk.pos hk.next (liveWords_set hk h.sixteen hi (fun _ => hf))
      | false =>
        refine (set_full w j f s J F i ⟨true, false, b, a, c⟩ h hF hi hc ho hx.2.1 rfl hf).mono ?_
        rintro e w1 ⟨rfl, h2⟩
        have e1 : J.set F i ⟨true, false, b, a, c⟩ = (60, F, J) := by unfold Jn.set; rw [if_neg (by simp [hc, ho]), if_pos (by simp [Slot.live, hf])]
        rw [e1]
        exact ⟨rfl, hF.to h2, h.to h2, h2.mono (by simp)⟩
end Go.Proofs.YtdfgcenbkclpbaaDoor
