/- What turn leaves, whole or cut: plain. -/
import Derived.Test.YtdfgcenbkclpbaaDoorLog
namespace Go.Proofs.YtdfgcenbkclpbaaDoor
open Go.RowKit
set_option linter.unusedSimpArgs false
set_option linter.unusedVariables false
/-- G is F but for n sectors from a on -/
structure Out (F G : Fl) (a n : Nat) : Prop where
  size : G.mem.length = F.mem.length
  count : G.count = F.count
  armed : G.armed = F.armed
  out : ∀ i, i < 256 * a ∨ 256 * (a + n) ≤ i → G.word i = F.word i
theorem Out.trans {F M G : Fl} {a n : Nat} (h1 : Out F M a n) (h2 : Out M G a n) : Out F G a n :=
  ⟨h2.size.trans h1.size, h2.count.trans h1.count, h2.armed.trans h1.armed, fun i hi => (h2.out i hi).trans (h1.out i hi)⟩
theorem Wrote.toOut {F G : Fl} {k a n : Nat} {ws : List W4} (h : Wrote F G k ws) (h1 : 256 * a ≤ k) (h2 : k + ws.length ≤ 256 * (a + n)) : Out F G a n :=
  ⟨h.size, h.count, h.armed, fun i hi => h.out i (by omega)⟩
theorem Out.off {F : Fl} (a n : Nat) (b : Bool) : Out F { F with off := b } a n := ⟨rfl, rfl, rfl, fun _ _ => rfl⟩
theorem genOk_free_left (x : W4) : genOk W4.free x = false := by
  have : W4.free.num = 4294967295 := by decide
  unfold genOk; rw [this]; simp
theorem genOk_free_right (x : W4) : genOk x W4.free = false := by
  have : W4.free.num = 4294967295 := by decide
  have hl := x.num_lt
  unfold genOk; rw [this]
  cases hx : (x.num != 0) with
  | false => simp
  | true =>
    have : x.num ≠ 0 := by simpa using hx
    have : (4294967295 == 4294967295 - x.num) = false := by simp; omega
    rw [this]; simp
theorem nextGen_lt (g : Nat) : nextGen g < 4294967296 := by unfold nextGen; split <;> omega
theorem nextGen_ne (g : Nat) (h : g < 4294967295) : nextGen g ≠ 0 ∧ nextGen g ≠ 4294967295 := by unfold nextGen; split <;> omega
/-- turn did all -/
structure Turned (J : Jn) (F G : Fl) : Prop where
  else_ : Out F G J.other J.count
  off : G.off = false
  g0 : G.word (256 * J.other) = W4.ofNum (nextGen J.gen)
  g1 : G.word (256 * J.other + 1) = W4.ofNum (4294967295 - nextGen J.gen)
  read : G.readAll J.other J.count blanks = (2 + liveWords J.slots, opened (J.slots.map Slot.p))
/-- the power went amid it -/
structure Torn (J : Jn) (F G : Fl) : Prop where
  else_ : Out F G J.other J.count
  off : G.off = true
  armed : F.armed = true
  gen : (G.word (256 * J.other) = F.word (256 * J.other) ∧ G.word (256 * J.other + 1) = F.word (256 * J.other + 1)) ∨ genOk (G.word (256 * J.other)) (G.word (256 * J.other + 1)) = false
theorem turn_does {J : Jn} {F : Fl} (hs : F.mem.length = 256 * F.count) (hc : J.other + J.count ≤ F.count) (hp : 0 < J.count) (h16 : J.slots.length = 16) (hb : ∀ x ∈ J.slots, x.b.length ≤ 4096) (hr : 2 + liveWords J.slots ≤ 256 * J.count) (ho : F.off = false) :
    ((J.turn F).1 = 0 ∧ (J.turn F).2.2 = { J with first := J.other, other := J.first, gen := nextGen J.gen, next := 2 + liveWords J.slots } ∧ Turned J F (J.turn F).2.1) ∨ ((J.turn F).1 = 7 ∧ (J.turn F).2.2 = J ∧ Torn J F (J.turn F).2.1) := by
  unfold Jn.turn
  obtain ⟨m, hm, hE, hd⟩ := Fl.eraseAll_does J.count (F := F) (i := J.other) (by rw [hs]; omega) ho
  generalize F.eraseAll J.other J.count = E at *
  have oE : Out F E.2 J.other J.count := hE.toOut (Nat.le_refl _) (by rw [List.length_replicate]; omega)
  rcases hd with ⟨rfl, h1, h2⟩ | ⟨h1, h2, h3, h4⟩
  · rw [if_neg (by rw [h1]; simp)]
    have fE : ∀ i, i < 256 * J.count → E.2.word (256 * J.other + i) = W4.free := fun i hi => hE.inn i _ (by rw [List.getElem?_replicate, if_pos hi])
    have sE := hE.size
    obtain ⟨m, hm, hL, hd⟩ := Fl.writeLive_does J.slots (F := E.2) (base := 256 * J.other) (at_ := 2) (k := 0) (fun i hi => by rw [Nat.add_assoc]; exact fE _ (by omega)) (by omega) h2
    simp only
    generalize E.2.writeLive (256 * J.other) 2 J.slots 0 = L at *
    have hll := liveRecs_length J.slots 0
    have oL : Out F L.2.1 J.other J.count := oE.trans (hL.toOut (by omega) (by rw [List.length_take]; omega))
    have f0 : L.2.1.word (256 * J.other) = W4.free := by rw [hL.out _ (Or.inl (by omega))]; exact fE 0 (by omega)
    have f1 : L.2.1.word (256 * J.other + 1) = W4.free := by rw [hL.out _ (Or.inl (by omega))]; exact fE 1 (by omega)
    rcases hd with ⟨rfl, g1, g2, g3⟩ | ⟨g1, g2, g3, g4⟩
    · rw [if_neg (by rw [g1]; simp), g3]
      have sL := hL.size
      rcases Fl.write_free (F := L.2.1) (k := 256 * J.other) (W4.ofNum (nextGen J.gen)) f0 (by omega) with ⟨a1, a2, hA⟩ | ⟨a1, a2, a3⟩
      · rw [if_neg (by rw [a1]; simp)]
        generalize L.2.1.write (256 * J.other) (W4.ofNum (nextGen J.gen)) = A at *
        have oA : Out F A.2 J.other J.count := oL.trans (hA.toOut (Nat.le_refl _) (by show _ + 1 ≤ _; omega))
        have sA := hA.size
        have k0 : A.2.word (256 * J.other) = W4.ofNum (nextGen J.gen) := by simpa using hA.inn 0 _ rfl
        have k1 : A.2.word (256 * J.other + 1) = W4.free := by rw [hA.out _ (Or.inr (by show _ + 1 ≤ _; omega))]; exact f1
        rcases Fl.write_free (F := A.2) (k := 256 * J.other + 1) (W4.ofNum (4294967295 - nextGen J.gen)) k1 (by omega) with ⟨b1, b2, hB⟩ | ⟨b1, b2, b3⟩
        · rw [if_neg (by rw [b1]; simp)]
          refine Or.inl ⟨rfl, rfl, ?_⟩
          generalize A.2.write (256 * J.other + 1) (W4.ofNum (4294967295 - nextGen J.gen)) = B at *
          have oB : Out F B.2 J.other J.count := oA.trans (hB.toOut (by omega) (by show _ + 1 ≤ _; omega))
          have wB : ∀ i, 2 ≤ i → B.2.word (256 * J.other + i) = L.2.1.word (256 * J.other + i) := fun i hi => by
            rw [hB.out _ (Or.inr (by show _ + 1 ≤ _; omega)), hA.out _ (Or.inr (by show _ + 1 ≤ _; omega))]
          have sB := hB.size
          rw [List.take_of_length_le (by omega)] at hL
          refine ⟨oB, by simp only at *; rw [b2, a2, g2], ?_, by simpa using hB.inn 0 _ rfl, ?_⟩
          · simp only
            rw [hB.out _ (Or.inl (by omega))]; exact k0
          · have hf : ∀ i, 2 + liveWords J.slots ≤ i → i < 256 * J.count → B.2.word (256 * J.other + i) = W4.free := fun i hi hi2 => by
              rw [wB i (by omega), hL.out _ (Or.inr (by omega))]; exact fE i hi2
            have hsz : 256 * J.other + 256 * J.count ≤ B.2.mem.length := by omega
            refine Fl.readAll_of hsz ?_ hf
            rw [Fl.parse_live hsz J.slots 2 0 blanks hb (fun i y hy => ?_) hr, takeLive_all _ h16 hb, Fl.parse_end]
            · by_cases hz : 256 * J.count ≤ 2 + liveWords J.slots
              · exact Or.inl hz
              · exact Or.inr (hf _ (Nat.le_refl _) (by omega))
            · have := hL.inn i y hy
              rw [Nat.add_assoc, wB _ (by omega), ← Nat.add_assoc]; exact this
        · rw [if_pos (by rw [b1]; simp), b1, b3]
          exact Or.inr ⟨rfl, rfl, oA.trans (.off _ _ _), rfl, by rw [← oA.armed]; exact b2, Or.inr (by rw [show ({ A.2 with off := true } : Fl).word (256 * J.other + 1) = A.2.word (256 * J.other + 1) from rfl, k1]; exact genOk_free_right _)⟩
      · rw [if_pos (by rw [a1]; simp), a1, a3]
        exact Or.inr ⟨rfl, rfl, oL.trans (.off _ _ _), rfl, by rw [← oL.armed]; exact a2, Or.inr (by rw [show ({ L.2.1 with off := true } : Fl).word (256 * J.other) = L.2.1.word (256 * J.other) from rfl, f0]; exact genOk_free_left _)⟩
    · rw [if_pos (by rw [g2]; simp), g2]
      exact Or.inr ⟨rfl, rfl, oL, g3, by rw [← oE.armed]; exact g4, Or.inr (by simp only; rw [f0]; exact genOk_free_left _)⟩
  · rw [if_pos (by rw [h2]; simp), h2]
    refine Or.inr ⟨rfl, rfl, oE, h3, h4, ?_⟩
    simp only
    by_cases hm0 : m = 0
    · subst hm0
      exact Or.inl ⟨hE.out _ (Or.inr (by simp)), hE.out _ (Or.inr (by simp))⟩
    · have : E.2.word (256 * J.other) = W4.free := by simpa using hE.inn 0 W4.free (by rw [List.getElem?_replicate, if_pos (by omega)])
      rw [this]
      exact Or.inr (genOk_free_left _)
/-- the half that counts -/
theorem pick_facts {F : Fl} {A h X Y g : Nat} (hp : F.pickHalf A h = (X, Y, g, true)) : ((X = A ∧ Y = A + h) ∨ (X = A + h ∧ Y = A)) ∧ genOk (F.word (256 * X)) (F.word (256 * X + 1)) = true ∧ (F.word (256 * X)).num = g := by
  unfold Fl.pickHalf at hp
  split at hp
  · obtain ⟨rfl, h2⟩ := Prod.mk.inj hp
    obtain ⟨rfl, h3⟩ := Prod.mk.inj h2
    obtain ⟨rfl, h4⟩ := Prod.mk.inj h3
    exact ⟨Or.inr ⟨rfl, rfl⟩, h4, rfl⟩
  · obtain ⟨rfl, h2⟩ := Prod.mk.inj hp
    obtain ⟨rfl, h3⟩ := Prod.mk.inj h2
    obtain ⟨rfl, h4⟩ := Prod.mk.inj h3
    exact ⟨Or.inl ⟨rfl, rfl⟩, h4, rfl⟩
theorem pick_stay {F G : Fl} {A h X Y g : Nat} (hp : F.pickHalf A h = (X, Y, g, true)) (h0 : G.word (256 * X) = F.word (256 * X)) (h1 : G.word (256 * X + 1) = F.word (256 * X + 1))
    (h2 : (G.word (256 * Y) = F.word (256 * Y) ∧ G.word (256 * Y + 1) = F.word (256 * Y + 1)) ∨ genOk (G.word (256 * Y)) (G.word (256 * Y + 1)) = false) : G.pickHalf A h = (X, Y, g, true) := by
  obtain ⟨hxy, hok, hg⟩ := pick_facts hp
  rcases h2 with ⟨h2, h3⟩ | h2
  · rw [← hp]
    unfold Fl.pickHalf
    rcases hxy with ⟨rfl, rfl⟩ | ⟨rfl, rfl⟩
    · rw [h0, h1, h2, h3]
    · rw [h0, h1, h2, h3]
  · unfold Fl.pickHalf
    rcases hxy with ⟨rfl, rfl⟩ | ⟨rfl, rfl⟩
    · rw [h2, h0, h1, hok, if_neg (by simp), hg]
    · rw [h2, if_pos (by simp), h0, h1, hok, hg]
theorem pick_swap {G : Fl} {A h X Y g : Nat} (hxy : (X = A ∧ Y = A + h) ∨ (X = A + h ∧ Y = A)) (hX : (genOk (G.word (256 * X)) (G.word (256 * X + 1)) = false ∧ g = 0) ∨ (genOk (G.word (256 * X)) (G.word (256 * X + 1)) = true ∧ (G.word (256 * X)).num = g))
    (h0 : G.word (256 * Y) = W4.ofNum (nextGen g)) (h1 : G.word (256 * Y + 1) = W4.ofNum (4294967295 - nextGen g)) : G.pickHalf A h = (Y, X, nextGen g, true) := by
  have hgl : g < 4294967295 := by
    rcases hX with ⟨_, rfl⟩ | ⟨h2, h3⟩
    · omega
    · unfold genOk at h2
      have := (G.word (256 * X)).num_lt
      rw [h3] at h2 this
      simp at h2
      omega
  have hn := nextGen_ne g hgl
  have hl := nextGen_lt g
  have n0 : (G.word (256 * Y)).num = nextGen g := by rw [h0, W4.num_ofNum _ hl]
  have n1 : (G.word (256 * Y + 1)).num = 4294967295 - nextGen g := by rw [h1, W4.num_ofNum _ (by omega)]
  have hY : genOk (G.word (256 * Y)) (G.word (256 * Y + 1)) = true := by
    unfold genOk; rw [n0, n1]; simp [hn.1, hn.2]
  have hnew : newer g (nextGen g) = true := by
    unfold newer nextGen; simp only [decide_eq_true_eq]; split <;> omega
  have hold : newer (nextGen g) g = false := by
    unfold newer nextGen; simp only [decide_eq_false_iff_not]; split <;> omega
  unfold Fl.pickHalf
  rcases hxy with ⟨rfl, rfl⟩ | ⟨rfl, rfl⟩
  · rw [hY, n0]
    rcases hX with ⟨h2, _⟩ | ⟨h2, h3⟩
    · rw [h2, if_pos (by simp)]
    · rw [h2, h3, hnew, if_pos (by simp)]
  · rw [hY, n0]
    rcases hX with ⟨h2, _⟩ | ⟨h2, h3⟩
    · rw [h2, if_neg (by simp)]
    · rw [h2, h3, hold, if_neg (by simp)]
end Go.Proofs.YtdfgcenbkclpbaaDoor
