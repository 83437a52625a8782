/- What a journal is asked for and answers: plain. -/
import Derived.Test.YtdfgcenbkclpbaaDoorOpens
namespace Go.Proofs.YtdfgcenbkclpbaaDoor
open Go.RowKit
set_option linter.unusedSimpArgs false
set_option linter.unusedVariables false
/-- does the group k count, where i is written anew? -/
def PSlot.counts (x : PSlot) (k i : Nat) : Bool := k != i && x.there && !x.marked
def usedP (l : List PSlot) (i : Nat) : Nat → Nat
  | 0 => 0
  | k + 1 => usedP l i k + (match l[k]? with | some x => if x.counts k i then room x.b.length else 0 | none => 0)
def fitsP (M : List PSlot) (h i n : Nat) : Bool := decide (16 + room n + usedP M i 16 ≤ 1024 * h)
def refRoom (M : List PSlot) (count i n : Nat) : Bool := fitsP M (count / 2) i n
theorem usedP_le (l : List PSlot) (i : Nat) (h : ∀ x ∈ l, x.b.length ≤ 4096) : ∀ k, usedP l i k ≤ 4111 * k
  | 0 => by simp [usedP]
  | k + 1 => by
    have := usedP_le l i h k
    unfold usedP
    split
    · rename_i x hx
      have := room_le (h x (List.mem_of_getElem? hx))
      split <;> omega
    · omega
theorem usedUpto_p (l : List Slot) (i : Nat) : ∀ k, usedUpto l i k = usedP (l.map Slot.p) i k
  | 0 => rfl
  | k + 1 => by
    unfold usedUpto usedP
    rw [usedUpto_p l i k, List.getElem?_map]
    cases l[k]? with
    | none => rfl
    | some x => rfl
theorem fits_p {J : Jn} {h : Nat} (hc : J.count = h) (i n : Nat) : J.fits i n = fitsP (J.slots.map Slot.p) h i n := by
  unfold Jn.fits fitsP; rw [usedUpto_p, hc]
/-- what the document's journal does: Store -/
def refStore (P : List PSlot) (h i : Nat) (b : List UInt8) : Int × List PSlot :=
  if 16 ≤ i then (62, P) else if 4096 < b.length then (3, P) else if fitsP P h i b.length = false then (60, P) else (0, P.set i ⟨true, false, b⟩)
/-- Restore -/
def refRestore (P : List PSlot) (i : Nat) : Int × List PSlot :=
  if 16 ≤ i then (62, P) else
  match P[i]? with
  | none => (0, P)
  | some x => if x.there = false then (5, P) else (0, P.set i { x with marked := true })
/-- a call was done: the groups are P then -/
structure Did (F : Fl) (A h : Nat) (P : List PSlot) (G : Fl) (K : Jn) : Prop where
  keeps : Keeps G A h K
  slots : K.slots.map Slot.p = P
  cut : K.cut = false
  off : G.off = false
  out : Out F G A (2 * h)
/-- what a call comes to, where the document's answer is r -/
def Answer (w : World) (j f s : Nat) (F : Fl) (A h : Nat) (J : Jn) (r : Int × List PSlot) (e : Ending) (w' : World) : Prop :=
  ∃ code G K, e = .returned (.int .i64 code) ∧ FlashAt w' f s G ∧ JnAt w' j f s K ∧ Touch [f, s, j] w w' ∧ ((code = r.1 ∧ Did F A h r.2 G K) ∨ (code = 7 ∧ r.1 = 0 ∧ SetCut F A h J G K))
theorem Keeps.did {F : Fl} {A h : Nat} {J : Jn} (K : Keeps F A h J) (hc : J.cut = false) (ho : F.off = false) : Did F A h (J.slots.map Slot.p) F J := ⟨K, rfl, hc, ho, .refl _ _ _⟩
theorem store_does (w : World) (j f s : Nat) (J : Jn) (F : Fl) (A h i : Nat) (b : List UInt8) (a : Option Addr) (c : Nat) (hJ : JnAt w j f s J) (hF : FlashAt w f s F) (hi : i < 256) (hc : J.cut = false) (ho : F.off = false)
    (hb : b.length ≤ 140737488355328) (hA : SliceAt w a (b.map u8v)) (hnil : a = none → b.length = 0 ∧ c = 0) (hk : Keeps F A h J) :
    Calls Tryd.prog 13 #[ptr j, .int .u8 i, .slice a b.length c] w (Answer w j f s F A h J (refStore (J.slots.map Slot.p) h i b)) := by
  refine (store_any w j f s J F i b a c hJ hF hi (fun _ => ho) hb hA hnil hk.ok).mono ?_
  rintro e w' ⟨a', c', rfl, hG, hK, ht⟩
  refine ⟨_, _, _, rfl, hG, hK, ht, ?_⟩
  clear hG hK ht
  unfold Jn.store refStore
  by_cases h1 : 16 ≤ i
  · rw [if_pos h1, if_pos h1]; exact Or.inl ⟨rfl, hk.did hc ho⟩
  · rw [if_neg h1, if_neg h1]
    by_cases h2 : 4096 < b.length
    · rw [if_pos h2, if_pos h2]; exact Or.inl ⟨rfl, hk.did hc ho⟩
    · rw [if_neg h2, if_neg h2]
      have hfp := fits_p hk.count i b.length
      rcases set_does (i := i) (x := ⟨true, false, b, a', c'⟩) hk hc ho (by omega) rfl (by simp only; omega) with ⟨e1, e2, _, e4⟩ | ⟨e1, e2, e3⟩ | ⟨e1, e2, e3⟩
      · have e4 : J.fits i b.length = false := e4
        rw [e1, e2, ← hfp, e4, if_pos rfl]
        exact Or.inl ⟨rfl, hk.did hc ho⟩
      · have e2 : J.fits i b.length = true := e2 rfl
        rw [← hfp, e2, if_neg (by simp)]
        refine Or.inl ⟨e1, e3.keeps, ?_, e3.cut, e3.off, e3.out⟩
        rw [e3.slots, map_p_set]; rfl
      · have e2 : J.fits i b.length = true := e2 rfl
        rw [← hfp, e2, if_neg (by simp)]
        exact Or.inr ⟨e1, rfl, e3⟩
theorem restore_does (w : World) (j f s : Nat) (J : Jn) (F : Fl) (A h i : Nat) (hJ : JnAt w j f s J) (hF : FlashAt w f s F) (hi : i < 256) (hc : J.cut = false) (ho : F.off = false) (hk : Keeps F A h J) :
    Calls Tryd.prog 22 #[ptr j, .int .u8 i] w (Answer w j f s F A h J (refRestore (J.slots.map Slot.p) i)) := by
  refine (restore_any w j f s J F i hJ hF hi (fun _ => ho) hk.ok).mono ?_
  rintro e w' ⟨rfl, hG, hK, ht⟩
  refine ⟨_, _, _, rfl, hG, hK, ht, ?_⟩
  clear hG hK ht
  unfold Jn.restore refRestore
  by_cases h1 : 16 ≤ i
  · rw [if_pos h1, if_pos h1]; exact Or.inl ⟨rfl, hk.did hc ho⟩
  · rw [if_neg h1, if_neg h1, if_neg (by rw [hc]; simp), List.getElem?_map]
    cases hx : J.slots[i]? with
    | none => exact Or.inl ⟨rfl, hk.did hc ho⟩
    | some x =>
      simp only [Option.map_some]
      by_cases h2 : x.there = false
      · rw [if_pos h2, if_pos (show x.p.there = false from h2)]; exact Or.inl ⟨rfl, hk.did hc ho⟩
      · rw [if_neg h2, if_neg (show ¬ x.p.there = false from h2)]
        by_cases h3 : x.marked = true
        · rw [if_pos h3]
          have e : (J.slots.map Slot.p).set i { x.p with marked := true } = J.slots.map Slot.p := by
            have hp : (J.slots.map Slot.p)[i]? = some x.p := by rw [List.getElem?_map, hx]; rfl
            have hi2 := (List.getElem?_eq_some_iff.1 hp).1
            rw [show ({ x.p with marked := true } : PSlot) = (J.slots.map Slot.p)[i] by
              rw [(List.getElem?_eq_some_iff.1 hp).2]; unfold Slot.p; rw [h3]]
            exact List.set_getElem_self hi2
          rw [e]
          exact Or.inl ⟨rfl, hk.did hc ho⟩
        · rw [if_neg h3]
          have hb := hk.small x (List.mem_of_getElem? hx)
          rcases set_does (i := i) (x := { x with marked := true }) hk hc ho (by omega) (by simpa using h2) hb with ⟨_, _, e3, _⟩ | ⟨e1, _, e3⟩ | ⟨e1, _, e3⟩
          · simp [Slot.live] at e3
          · refine Or.inl ⟨e1, e3.keeps, ?_, e3.cut, e3.off, e3.out⟩
            rw [e3.slots, map_p_set]; rfl
          · exact Or.inr ⟨e1, rfl, e3⟩
end Go.Proofs.YtdfgcenbkclpbaaDoor
