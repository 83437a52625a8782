/- What is read of a half's records: plain. -/
import Derived.Test.YtdfgcenbkclpbaaDoorWord
namespace Go.Proofs.YtdfgcenbkclpbaaDoor
open Go.RowKit
set_option linter.unusedSimpArgs false
set_option linter.unusedVariables false
theorem recNext_ge (h : W4) (at_ : Nat) : at_ + 2 ≤ recNext h at_ := by unfold recNext; omega
theorem readFrom_fuel (F : Fl) (base size : Nat) : ∀ n m at_ sl, size - at_ ≤ n → size - at_ ≤ m → F.readFrom base size n at_ sl = F.readFrom base size m at_ sl
  | 0, m, at_, sl, hn, _ => by rw [F.readFrom_end base size 0 at_ sl (Or.inl (by omega)), F.readFrom_end base size m at_ sl (Or.inl (by omega))]
  | n + 1, 0, at_, sl, _, hm => by rw [F.readFrom_end base size 0 at_ sl (Or.inl (by omega)), F.readFrom_end base size _ at_ sl (Or.inl (by omega))]
  | n + 1, m + 1, at_, sl, hn, hm => by
    have hg := recNext_ge (F.word (base + at_)) at_
    unfold Fl.readFrom
    split
    · rfl
    · split
      · rfl
      · exact readFrom_fuel F base size n m _ _ (by omega) (by omega)
/-- all records from at_ on -/
def Fl.parse (F : Fl) (base size at_ : Nat) (sl : List PSlot) : Nat × List PSlot := F.readFrom base size size at_ sl
theorem Fl.parse_end {F : Fl} {base size at_ : Nat} (sl : List PSlot) (h : size ≤ at_ ∨ F.word (base + at_) = W4.free) : F.parse base size at_ sl = (at_, sl) := F.readFrom_end _ _ _ _ _ h
theorem Fl.parse_over {F : Fl} {base size at_ : Nat} (sl : List PSlot) (h1 : at_ < size) (h2 : F.word (base + at_) ≠ W4.free) (h3 : size < recNext (F.word (base + at_)) at_) : F.parse base size at_ sl = (size, sl) := by
  unfold Fl.parse
  rw [readFrom_fuel F base size size (size + 1) at_ sl (by omega) (by omega), Fl.readFrom, if_neg (fun h => h.elim (by omega) h2), if_pos h3]
theorem Fl.parse_next {F : Fl} {base size at_ : Nat} (sl : List PSlot) (h1 : at_ < size) (h2 : F.word (base + at_) ≠ W4.free) (h3 : recNext (F.word (base + at_)) at_ ≤ size) :
    F.parse base size at_ sl = F.parse base size (recNext (F.word (base + at_)) at_) (takeRec sl (F.recHead base at_ (F.word (base + at_))) (F.recBytes base at_ (F.word (base + at_)))) := by
  unfold Fl.parse
  rw [readFrom_fuel F base size size (size + 1) at_ sl (by omega) (by omega), Fl.readFrom, if_neg (fun h => h.elim (by omega) h2), if_neg (by omega)]
theorem Fl.readAll_eq (F : Fl) (first count : Nat) (sl : List PSlot) : F.readAll first count sl = (if F.freeFrom (256 * first) (256 * count) (F.parse (256 * first) (256 * count) 2 sl).1 then (F.parse (256 * first) (256 * count) 2 sl).1 else 256 * count, (F.parse (256 * first) (256 * count) 2 sl).2) := rfl
/-- one by one -/
theorem Fl.parse_ind {F : Fl} {base size : Nat} {P : Nat → List PSlot → Prop}
    (hend : ∀ at_ sl, size ≤ at_ ∨ F.word (base + at_) = W4.free → P at_ sl)
    (hover : ∀ at_ sl, at_ < size → F.word (base + at_) ≠ W4.free → size < recNext (F.word (base + at_)) at_ → P at_ sl)
    (hnext : ∀ at_ sl, at_ < size → F.word (base + at_) ≠ W4.free → recNext (F.word (base + at_)) at_ ≤ size → P (recNext (F.word (base + at_)) at_) (takeRec sl (F.recHead base at_ (F.word (base + at_))) (F.recBytes base at_ (F.word (base + at_)))) → P at_ sl) :
    ∀ at_ sl, P at_ sl := by
  intro at_
  induction hd : size - at_ using Nat.strongRecOn generalizing at_ with
  | _ d ih =>
    intro sl
    by_cases h1 : size ≤ at_ ∨ F.word (base + at_) = W4.free
    · exact hend _ _ h1
    · have h2 : at_ < size := by omega
      have h3 : F.word (base + at_) ≠ W4.free := fun e => h1 (Or.inr e)
      by_cases h4 : size < recNext (F.word (base + at_)) at_
      · exact hover _ _ h2 h3 h4
      · have hg := recNext_ge (F.word (base + at_)) at_
        exact hnext _ _ h2 h3 (by omega) (ih (size - recNext (F.word (base + at_)) at_) (by omega) _ rfl _)
theorem Fl.parse_ge {F : Fl} {base size : Nat} : ∀ at_ sl, at_ ≤ size → at_ ≤ (F.parse base size at_ sl).1 ∧ (F.parse base size at_ sl).1 ≤ size := by
  refine Fl.parse_ind (F := F) (base := base) (size := size) (fun at_ sl h h1 => ?_) (fun at_ sl h1 h2 h3 _ => ?_) (fun at_ sl h1 h2 h3 ih _ => ?_)
  · rw [Fl.parse_end sl h]; exact ⟨Nat.le_refl _, h1⟩
  · rw [Fl.parse_over sl h1 h2 h3]; exact ⟨by omega, Nat.le_refl _⟩
  · rw [Fl.parse_next sl h1 h2 h3]
    have hg := recNext_ge (F.word (base + at_)) at_
    have := ih h3
    omega
theorem Fl.bytesAt_congr {F G : Fl} {k : Nat} : ∀ n, (∀ i, i < n → G.word (k + i) = F.word (k + i)) → k + n ≤ F.mem.length → k + n ≤ G.mem.length → G.bytesAt k n = F.bytesAt k n
  | 0, _, _, _ => rfl
  | n + 1, h, h1, h2 => by
    rw [Fl.bytesAt_succ _ _ _ (by omega), Fl.bytesAt_succ _ _ _ (by omega), Fl.bytesAt_congr n (fun i hi => h i (by omega)) (by omega) (by omega), h n (by omega)]
/-- the words of a record stand in both -/
theorem Fl.rec_congr {F G : Fl} {base at_ : Nat} (h : ∀ i, at_ ≤ i → i < recNext (F.word (base + at_)) at_ → G.word (base + i) = F.word (base + i)) (h1 : base + recNext (F.word (base + at_)) at_ ≤ F.mem.length) (h2 : G.mem.length = F.mem.length) :
    G.word (base + at_) = F.word (base + at_) ∧ G.recBytes base at_ (F.word (base + at_)) = F.recBytes base at_ (F.word (base + at_)) ∧ G.recHead base at_ (F.word (base + at_)) = F.recHead base at_ (F.word (base + at_)) := by
  have hg := recNext_ge (F.word (base + at_)) at_
  have hb : G.recBytes base at_ (F.word (base + at_)) = F.recBytes base at_ (F.word (base + at_)) := by
    unfold Fl.recBytes
    have hn : recNext (F.word (base + at_)) at_ = at_ + 2 + (recLen (F.word (base + at_)) + 3) / 4 := rfl
    rw [Fl.bytesAt_congr (F := F) _ (fun i hi => by rw [show base + at_ + 1 + i = base + (at_ + 1 + i) by omega]; exact h _ (by omega) (by omega)) (by omega) (by omega)]
  refine ⟨h at_ (Nat.le_refl _) (by omega), hb, ?_⟩
  unfold Fl.recHead
  rw [hb, show base + recNext (F.word (base + at_)) at_ - 1 = base + (recNext (F.word (base + at_)) at_ - 1) by omega, h _ (by omega) (by omega)]
theorem Fl.parse_keep {F G : Fl} {base size : Nat} (hs : base + size ≤ F.mem.length) (hG : G.mem.length = F.mem.length) {e : Nat} {sl' : List PSlot} (he : e < size) :
    ∀ at_ sl, (∀ i, at_ ≤ i → i < e → G.word (base + i) = F.word (base + i)) → F.parse base size at_ sl = (e, sl') → G.parse base size at_ sl = G.parse base size e sl' := by
  refine Fl.parse_ind (F := F) (base := base) (size := size) (fun at_ sl h hw hp => ?_) (fun at_ sl h1 h2 h3 hw hp => ?_) (fun at_ sl h1 h2 h3 ih hw hp => ?_)
  · rw [Fl.parse_end sl h] at hp
    obtain ⟨rfl, rfl⟩ := Prod.mk.inj hp
    rfl
  · rw [Fl.parse_over sl h1 h2 h3] at hp
    obtain ⟨rfl, rfl⟩ := Prod.mk.inj hp
    omega
  · rw [Fl.parse_next sl h1 h2 h3] at hp
    have hg := recNext_ge (F.word (base + at_)) at_
    have hb := (Fl.parse_ge (F := F) (base := base) _ (takeRec sl (F.recHead base at_ (F.word (base + at_))) (F.recBytes base at_ (F.word (base + at_)))) h3).1
    rw [hp] at hb
    have hb : recNext (F.word (base + at_)) at_ ≤ e := hb
    obtain ⟨c1, c2, c3⟩ := Fl.rec_congr (F := F) (G := G) (base := base) (at_ := at_) (fun i hi hi2 => hw i hi (by omega)) (by omega) hG
    rw [Fl.parse_next (F := G) sl h1 (by rw [c1]; exact h2) (by rw [c1]; exact h3), c1, c2, c3]
    exact ih (fun i hi hi2 => hw i (by omega) hi2) hp
theorem Fl.parse_same {F G : Fl} {base size : Nat} (hs : base + size ≤ F.mem.length) (hG : G.mem.length = F.mem.length) :
    ∀ at_ sl, (∀ i, at_ ≤ i → i < size → G.word (base + i) = F.word (base + i)) → G.parse base size at_ sl = F.parse base size at_ sl := by
  refine Fl.parse_ind (F := F) (base := base) (size := size) (fun at_ sl h hw => ?_) (fun at_ sl h1 h2 h3 hw => ?_) (fun at_ sl h1 h2 h3 ih hw => ?_)
  · rw [Fl.parse_end sl h, Fl.parse_end sl]
    by_cases hz : size ≤ at_
    · exact Or.inl hz
    · exact Or.inr (by rw [hw at_ (Nat.le_refl _) (by omega)]; exact h.resolve_left hz)
  · have c1 := hw at_ (Nat.le_refl _) h1
    rw [Fl.parse_over sl h1 h2 h3, Fl.parse_over sl h1 (by rw [c1]; exact h2) (by rw [c1]; exact h3)]
  · have hg := recNext_ge (F.word (base + at_)) at_
    obtain ⟨c1, c2, c3⟩ := Fl.rec_congr (F := F) (G := G) (base := base) (at_ := at_) (fun i hi hi2 => hw i hi (by omega)) (by omega) hG
    rw [Fl.parse_next sl h1 h2 h3, Fl.parse_next (F := G) sl h1 (by rw [c1]; exact h2) (by rw [c1]; exact h3), c1, c2, c3]
    exact ih fun i hi hi2 => hw i (by omega) hi2
/-- free words from at_ on -/
theorem Fl.freeFrom_iff {F : Fl} {base size : Nat} (hs : base + size ≤ F.mem.length) : ∀ at_, F.freeFrom base size at_ = true ↔ ∀ i, at_ ≤ i → i < size → F.word (base + i) = W4.free := by
  intro at_
  induction size with
  | zero => exact ⟨fun _ i _ h => by omega, fun _ => by simp [Fl.freeFrom]⟩
  | succ n ih =>
    by_cases h : at_ ≤ n
    · rw [Fl.freeFrom_succ _ _ _ _ h (by omega), Bool.and_eq_true, ih (by omega), decide_eq_true_iff]
      constructor
      · rintro ⟨h1, h2⟩ i hi hi2
        by_cases e : i = n
        · subst e; exact h2
        · exact h1 i hi (by omega)
      · exact fun h1 => ⟨fun i hi hi2 => h1 i hi (by omega), h1 n h (by omega)⟩
    · exact ⟨fun _ i _ _ => by omega, fun _ => by simp [Fl.freeFrom, show n + 1 - at_ = 0 by omega]⟩
theorem Fl.readAll_same {F G : Fl} {first count : Nat} (hs : 256 * first + 256 * count ≤ F.mem.length) (hG : G.mem.length = F.mem.length) (h : ∀ i, 2 ≤ i → i < 256 * count → G.word (256 * first + i) = F.word (256 * first + i)) (sl : List PSlot) : G.readAll first count sl = F.readAll first count sl := by
  by_cases hc : count = 0
  · subst hc
    rw [Fl.readAll_eq, Fl.readAll_eq, Fl.parse_end sl (Or.inl (by omega)), Fl.parse_end sl (Or.inl (by omega))]
    simp [Fl.freeFrom]
  · have hp := Fl.parse_same hs hG 2 sl h
    rw [Fl.readAll_eq, Fl.readAll_eq, hp]
    have hge := (Fl.parse_ge (F := F) (base := 256 * first) (size := 256 * count) 2 sl (by omega)).1
    have : G.freeFrom (256 * first) (256 * count) (F.parse (256 * first) (256 * count) 2 sl).1 = F.freeFrom (256 * first) (256 * count) (F.parse (256 * first) (256 * count) 2 sl).1 := by
      rw [Bool.eq_iff_iff, Fl.freeFrom_iff (by omega), Fl.freeFrom_iff hs]
      exact ⟨fun h1 i hi hi2 => by rw [← h i (by omega) hi2]; exact h1 i hi hi2, fun h1 i hi hi2 => by rw [h i (by omega) hi2]; exact h1 i hi hi2⟩
    rw [this]
/-- where less than all is taken, the rest is free -/
theorem Fl.readAll_free {F : Fl} {first count e : Nat} {sl sl' : List PSlot} (hs : 256 * first + 256 * count ≤ F.mem.length) (h : F.readAll first count sl = (e, sl')) (he : e < 256 * count) :
    F.parse (256 * first) (256 * count) 2 sl = (e, sl') ∧ ∀ i, e ≤ i → i < 256 * count → F.word (256 * first + i) = W4.free := by
  rw [Fl.readAll_eq] at h
  obtain ⟨h1, h2⟩ := Prod.mk.inj h
  cases hf : F.freeFrom (256 * first) (256 * count) (F.parse (256 * first) (256 * count) 2 sl).1 with
  | false => rw [hf, if_neg (by simp)] at h1; omega
  | true =>
    rw [hf, if_pos rfl] at h1
    refine ⟨Prod.ext h1 h2, ?_⟩
    rw [Fl.freeFrom_iff hs, h1] at hf
    exact hf
theorem Fl.readAll_of {F : Fl} {first count e : Nat} {sl sl' : List PSlot} (hs : 256 * first + 256 * count ≤ F.mem.length) (h : F.parse (256 * first) (256 * count) 2 sl = (e, sl')) (hf : ∀ i, e ≤ i → i < 256 * count → F.word (256 * first + i) = W4.free) :
    F.readAll first count sl = (e, sl') := by
  rw [Fl.readAll_eq, h, if_pos ((Fl.freeFrom_iff hs _).2 hf)]
end Go.Proofs.YtdfgcenbkclpbaaDoor
