/- Open, as a journal and its flash go together. -/
import Derived.Test.YtdfgcenbkclpbaaDoorKeeps
namespace Go.Proofs.YtdfgcenbkclpbaaDoor
open Go.RowKit
set_option linter.unusedSimpArgs false
set_option linter.unusedVariables false
theorem pick_none {F : Fl} {A h : Nat} (hp : (F.pickHalf A h).2.2.2 = false) : genOk (F.word (256 * A)) (F.word (256 * A + 1)) = false ∧ genOk (F.word (256 * (A + h))) (F.word (256 * (A + h) + 1)) = false ∧ (F.pickHalf A h).1 = A + h ∧ (F.pickHalf A h).2.1 = A := by
  unfold Fl.pickHalf at *
  cases h1 : genOk (F.word (256 * A)) (F.word (256 * A + 1)) with
  | false =>
    rw [h1, if_pos (by simp)] at hp
    rw [if_pos (by simp)]
    exact ⟨rfl, hp, rfl, rfl⟩
  | true =>
    rw [h1] at hp
    split at hp
    · rename_i h2
      have h2 : genOk (F.word (256 * (A + h))) (F.word (256 * (A + h) + 1)) = true ∧ newer (F.word (256 * A)).num (F.word (256 * (A + h))).num = true := by simpa using h2
      rw [h2.1] at hp; cases hp
    · cases hp
theorem pick_none' {F : Fl} {A h : Nat} (h1 : genOk (F.word (256 * A)) (F.word (256 * A + 1)) = false) (h2 : genOk (F.word (256 * (A + h))) (F.word (256 * (A + h) + 1)) = false) : (F.pickHalf A h).2.2.2 = false := by
  unfold Fl.pickHalf
  rw [h1, if_pos (by simp)]
  exact h2
/-- a journal was opened -/
structure Opened (w : World) (f s : Nat) (A h : Nat) (j : Nat) (K : Jn) (G : Fl) (w' : World) : Prop where
  fresh : w.heap.size ≤ j
  jn : JnAt w' j f s K
  keeps : Keeps G A h K
  cut : K.cut = false
  flash : FlashAt w' f s G
  off : G.off = false
/-- what Open comes to on any flash that has power -/
def OpenAny (w : World) (f s : Nat) (F : Fl) (A h : Nat) (e : Ending) (w' : World) : Prop :=
  (∃ j K, e = .returned (.tuple #[ptr j, .int .i64 0]) ∧ Opened w f s A h j K F w' ∧ F.pickHalf A h = (K.first, K.other, K.gen, true) ∧ (K.next, K.slots.map Slot.p) = F.readAll K.first h blanks ∧ Touch [] w w') ∨
  (∃ j K G, e = .returned (.tuple #[ptr j, .int .i64 0]) ∧ Opened w f s A h j K G w' ∧ (F.pickHalf A h).2.2.2 = false ∧ K.slots.map Slot.p = blanks ∧ Out F G A (2 * h) ∧ Touch [f, s] w w') ∨
  (∃ G, e = .returned (.tuple #[.pointer none, .int .i64 7]) ∧ FlashAt w' f s G ∧ G.off = true ∧ F.armed = true ∧ Out F G A (2 * h) ∧ (F.pickHalf A h).2.2.2 = false ∧ (G.pickHalf A h).2.2.2 = false ∧ Touch [f, s] w w')
theorem Keeps.of_read {F : Fl} {A h X Y g n : Nat} {K : Jn} (hp : 0 < h) (hc : A + 2 * h ≤ F.count) (hs : F.mem.length = 256 * F.count) (hk : F.pickHalf A h = (K.first, K.other, K.gen, true)) (hr : (K.next, K.slots.map Slot.p) = F.readAll K.first h blanks) (h1 : K.count = h) (h16 : K.slots.length = 16) (hb : ∀ x ∈ K.slots, x.b.length ≤ 4096) : Keeps F A h K := by
  have ho := Fl.readAll_opened hr.symm
  have hx := (pick_facts hk).1
  have hroom := (Fl.readAll_room (F := F) (by omega) hp hr.symm).2
  refine ⟨⟨hp, hc, hs, hk, ?_⟩, h1, h16, hb, ?_⟩
  · rw [ho, hr]
  · rw [liveWords_p]; exact hroom
theorem fresh_p (a b h g : Nat) : (Jn.fresh a b h g).slots.map Slot.p = blanks := rfl
theorem open_reads {w w' : World} {f s : Nat} {F : Fl} {A h : Nat} {e : Ending} (hp : 0 < h) (hfit : A + 2 * h ≤ F.count) (hs : F.mem.length = 256 * F.count) (ho : F.off = false) {a b g : Nat} {c : Bool} (hpk : F.pickHalf A h = (a, b, g, c)) (hok : c = true) (hd : OpenRead w f s F a b h g e w') : OpenAny w f s F A h e w' := by
  obtain ⟨K, j, rfl, hj, hJ, hsame, hr, hF', ht⟩ := hd
  subst hok
  have k1 : K.first = a := hsame.first
  have k2 : K.other = b := hsame.other
  have k3 : K.gen = g := hsame.gen
  have k4 : K.count = h := hsame.count
  have k5 : K.cut = false := hsame.cut
  clear hsame
  refine Or.inl ⟨j, K, rfl, ?_⟩
  rw [← k1, ← k2, ← k3] at hpk
  rw [← k1] at hr
  exact ⟨⟨hj, hJ, .of_read (X := 0) (Y := 0) (g := 0) (n := 0) hp hfit hs hpk hr k4 hJ.sixteen (fun x hx => (hJ.slots x hx).2.1), k5, hF', ho⟩, hpk, hr, ht⟩
theorem liveWords_fresh (a b h g : Nat) : liveWords (Jn.fresh a b h g).slots = 0 := liveWords_blank
theorem fresh_small (a b h g : Nat) : ∀ x ∈ (Jn.fresh a b h g).slots, x.b.length ≤ 4096 := fun x hx => by
  have : x = blankSlot := List.eq_of_mem_replicate hx
  subst this; simp [blankSlot]
theorem open_turns {w w' : World} {f s : Nat} {F : Fl} {A h : Nat} {e : Ending} (hp : 0 < h) (hfit : A + 2 * h ≤ F.count) (hs : F.mem.length = 256 * F.count) (ho : F.off = false) (hok : (F.pickHalf A h).2.2.2 = false) (n1 : genOk (F.word (256 * A)) (F.word (256 * A + 1)) = false) {B : Nat} (hB : B = A + h)
    (n2 : genOk (F.word (256 * B)) (F.word (256 * B + 1)) = false) (hd : OpenTurn w f s F A B h e w') : OpenAny w f s F A h e w' := by
  have hlw := liveWords_fresh A B h 0
  have hsm := fresh_small A B h 0
  have k1 : (Jn.fresh A B h 0).first = A := rfl
  have k2 : (Jn.fresh A B h 0).other = B := rfl
  have k3 : (Jn.fresh A B h 0).gen = 0 := rfl
  have k4 : (Jn.fresh A B h 0).count = h := rfl
  have k5 : (Jn.fresh A B h 0).cut = false := rfl
  have k6 : (Jn.fresh A B h 0).slots.length = 16 := rfl
  have k7 := fresh_p A B h 0
  unfold OpenTurn at hd
  generalize Jn.fresh A B h 0 = J at *
  have hT := turn_does (J := J) (F := F) hs (by rw [k2, k4]; omega) (by rw [k4]; exact hp) k6 hsm (by rw [hlw, k4]; omega) ho
  generalize J.turn F = R at *
  rcases hd with ⟨h0, j, rfl, hj, hJ, hF', ht⟩ | ⟨h0, rfl, hF', ht⟩
  · rcases hT with ⟨_, e2, hT⟩ | ⟨e1, _, _⟩
    · refine Or.inr (Or.inl ⟨j, R.2.2, R.2.1, rfl, ?_⟩)
      have hE := hT.else_
      have hg0 := hT.g0
      have hg1 := hT.g1
      have hrd := hT.read
      have hoff := hT.off
      generalize R.2.1 = G at *
      generalize R.2.2 = K at *
      subst e2
      rw [k2, k4] at hE
      rw [k2] at hg0 hg1
      have hO : Out F G A (2 * h) := hE.wide (by omega) (by omega)
      have hpick : G.pickHalf A h = (B, A, nextGen J.gen, true) := by
        refine pick_swap (Or.inl ⟨rfl, hB⟩) (Or.inl ⟨?_, k3⟩) hg0 hg1
        rw [hE.out (256 * A) (by omega), hE.out (256 * A + 1) (by omega)]
        exact n1
      have hK : Keeps G A h { J with first := J.other, other := J.first, gen := nextGen J.gen, next := 2 + liveWords J.slots } := by
        refine ⟨⟨hp, by rw [hE.count]; exact hfit, by rw [hE.size, hE.count]; exact hs, ?_, ?_⟩, k4, k6, hsm, ?_⟩
        · simp only; rw [k1, k2]; exact hpick
        · rw [k4] at hrd; exact hrd
        · simp only; rw [hlw]; omega
      exact ⟨⟨hj, hJ, hK, k5, hF', hoff⟩, hok, k7, hO, ht⟩
    · rw [h0] at e1; cases e1
  · rcases hT with ⟨e1, _, _⟩ | ⟨e1, _, hT⟩
    · exact absurd e1 h0
    · rw [e1]
      have hE := hT.else_
      have hgen := hT.gen
      have hoff := hT.off
      have harm := hT.armed
      generalize R.2.1 = G at *
      rw [k2, k4] at hE
      rw [k2] at hgen
      have hO : Out F G A (2 * h) := hE.wide (by omega) (by omega)
      have hn : (G.pickHalf A h).2.2.2 = false := by
        refine pick_none' ?_ ?_
        · rw [hE.out (256 * A) (by omega), hE.out (256 * A + 1) (by omega)]
          exact n1
        · rw [← hB]
          rcases hgen with ⟨g0, g1⟩ | g
          · rw [g0, g1]; exact n2
          · exact g
      exact Or.inr (Or.inr ⟨G, rfl, hF', hoff, harm, hO, hok, hn, ht⟩)
theorem eta4 (p : Nat × Nat × Nat × Bool) : p = (p.1, p.2.1, p.2.2.1, p.2.2.2) := rfl
theorem open_any (w : World) (f s : Nat) (F : Fl) (A count : Nat) (hF : FlashAt w f s F) (ho : F.off = false) (hg : w.rangeAt 0 0 W4.free.cells) (hz : f ≠ 0 ∧ s ≠ 0) (h2 : 2 ≤ count) (hc : A + count ≤ F.count) :
    Calls Tryd.prog 11 #[ptr f, .int .i64 A, .int .i64 count] w (OpenAny w f s F A (count / 2)) := by
  refine (open_ok w f s F A count hF ho hg hz h2 hc).mono ?_
  intro e w' hd
  obtain ⟨h, hh⟩ : ∃ h, count / 2 = h := ⟨_, rfl⟩
  rw [hh] at hd ⊢
  have hp : 0 < h := by omega
  have hfit : A + 2 * h ≤ F.count := by omega
  have hs := hF.size
  rcases hd with ⟨hok, hd⟩ | ⟨hok, hd⟩
  · exact open_reads hp hfit hs ho (eta4 _) hok hd
  · obtain ⟨n1, n2, n3, n4⟩ := pick_none hok
    rw [n3, n4] at hd
    exact open_turns hp hfit hs ho hok n1 rfl n2 hd
/-- what is held is opened -/
theorem open_held (w : World) (f s : Nat) (F : Fl) (A count X Y g n : Nat) (P : List PSlot) (H : Holds F A (count / 2) X Y g n P) (hF : FlashAt w f s F) (ho : F.off = false) (hg : w.rangeAt 0 0 W4.free.cells) (hz : f ≠ 0 ∧ s ≠ 0) (h2 : 2 ≤ count) (hc : A + count ≤ F.count) :
    Calls Tryd.prog 11 #[ptr f, .int .i64 A, .int .i64 count] w fun e w' => ∃ j K, e = .returned (.tuple #[ptr j, .int .i64 0]) ∧ Opened w f s A (count / 2) j K F w' ∧ K.slots.map Slot.p = P ∧ Touch [] w w' := by
  refine (open_any w f s F A count hF ho hg hz h2 hc).mono ?_
  rintro e w' (⟨j, K, rfl, hO, hk, hr, ht⟩ | ⟨j, K, G, rfl, hO, hk, _⟩ | ⟨G, rfl, _, _, _, _, hk, _⟩)
  · refine ⟨j, K, rfl, hO, ?_, ht⟩
    have hX : K.first = X := by have := hk.symm.trans H.pick; exact (Prod.mk.inj this).1
    rw [hX, H.read] at hr
    exact (Prod.mk.inj hr).2
  · rw [H.pick] at hk; cases hk
  · rw [H.pick] at hk; cases hk
end Go.Proofs.YtdfgcenbkclpbaaDoor
