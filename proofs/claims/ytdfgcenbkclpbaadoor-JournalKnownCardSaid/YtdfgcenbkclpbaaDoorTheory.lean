/- What stands in a flash's words behind steps: plain. -/
import Derived.Test.YtdfgcenbkclpbaaDoorFlashR
namespace Go.Proofs.YtdfgcenbkclpbaaDoor
open Go.RowKit
set_option linter.unusedSimpArgs false
set_option linter.unusedVariables false
theorem Fl.word_at (F : Fl) {k : Nat} (hk : k < F.mem.length) : F.mem[k]? = some (F.word k) := by
  unfold Fl.word; rw [List.getD_eq_getElem?_getD, List.getElem?_eq_getElem hk]; rfl
theorem Fl.word_of {F : Fl} {k : Nat} {x : W4} (h : F.mem[k]? = some x) : F.word k = x := by
  unfold Fl.word; rw [List.getD_eq_getElem?_getD, h]; rfl
/-- G is F, where ws is written from word k on -/
structure Wrote (F G : Fl) (k : Nat) (ws : List W4) : Prop where
  size : G.mem.length = F.mem.length
  count : G.count = F.count
  armed : G.armed = F.armed
  inn : ∀ i y, ws[i]? = some y → G.word (k + i) = y
  out : ∀ i, i < k ∨ k + ws.length ≤ i → G.word i = F.word i
theorem Wrote.none {F G : Fl} (k : Nat) (h1 : G.mem = F.mem) (h2 : G.count = F.count) (h3 : G.armed = F.armed) : Wrote F G k [] :=
  ⟨by rw [h1], h2, h3, fun i y h => by simp at h, fun i _ => by unfold Fl.word; rw [h1]⟩
theorem Wrote.trans {F M G : Fl} {k : Nat} {a b : List W4} (h1 : Wrote F M k a) (h2 : Wrote M G (k + a.length) b) : Wrote F G k (a ++ b) := by
  refine ⟨h2.size.trans h1.size, h2.count.trans h1.count, h2.armed.trans h1.armed, fun i y hy => ?_, fun i hi => ?_⟩
  · by_cases h : i < a.length
    · rw [List.getElem?_append_left h] at hy
      rw [h2.out _ (Or.inl (by omega))]; exact h1.inn i y hy
    · rw [List.getElem?_append_right (by omega)] at hy
      have := h2.inn _ y hy
      rwa [show k + a.length + (i - a.length) = k + i by omega] at this
  · rw [List.length_append] at hi
    rw [h2.out i (by omega), h1.out i (by omega)]
theorem u8_and_full (y : UInt8) : (255 : UInt8) &&& y = y := by
  apply UInt8.toNat_inj.1
  rw [UInt8.toNat_and, show (255 : UInt8).toNat = 2 ^ 8 - 1 from rfl, Nat.and_comm, Nat.and_two_pow_sub_one_eq_mod, Nat.mod_eq_of_lt y.toNat_lt]
theorem W4.free_falls (y : W4) : W4.free.falls y = true := by simp [W4.falls, W4.free, u8_and_full]
theorem Fl.stops_armed {F : Fl} (h : F.stops = true) : F.armed = true := by
  unfold Fl.stops at h; simp at h; exact h.1
theorem Wrote.set {F G : Fl} {k : Nat} {y : W4} (hk : k < F.mem.length) (h1 : G.mem = F.mem.set k y) (h2 : G.count = F.count) (h3 : G.armed = F.armed) : Wrote F G k [y] := by
  refine ⟨by rw [h1, List.length_set], h2, h3, fun i x hx => ?_, fun i hi => ?_⟩
  · cases i with
    | zero => simp at hx; subst hx; exact Fl.word_of (by rw [h1, Nat.add_zero, List.getElem?_set_self hk])
    | succ i => simp at hx
  · have hi : i < k ∨ k + 1 ≤ i := hi
    unfold Fl.word
    rw [h1, List.getD_eq_getElem?_getD, List.getD_eq_getElem?_getD, List.getElem?_set_ne (by omega)]
theorem Fl.write_free {F : Fl} {k : Nat} (y : W4) (hf : F.word k = W4.free) (hk : k < F.mem.length) :
    ((F.write k y).1 = 0 ∧ (F.write k y).2.off = F.off ∧ Wrote F (F.write k y).2 k [y]) ∨ ((F.write k y).1 = 7 ∧ F.armed = true ∧ (F.write k y).2 = { F with off := true }) := by
  have hw : F.mem.getD k W4.zero = W4.free := hf
  unfold Fl.write
  rw [hw, W4.free_falls, if_neg (by simp)]
  cases hs : F.stops with
  | true => exact Or.inr ⟨rfl, F.stops_armed hs, rfl⟩
  | false => exact Or.inl ⟨rfl, rfl, .set hk rfl rfl rfl⟩
theorem Fl.writes_free : ∀ (ws : List W4) {F : Fl} {k : Nat}, (∀ i, i < ws.length → F.word (k + i) = W4.free) → k + ws.length ≤ F.mem.length → F.off = false →
    ∃ m, m ≤ ws.length ∧ Wrote F (F.writes k ws).2 k (ws.take m) ∧ ((m = ws.length ∧ (F.writes k ws).1 = 0 ∧ (F.writes k ws).2.off = false) ∨ (m < ws.length ∧ (F.writes k ws).1 = 7 ∧ (F.writes k ws).2.off = true ∧ F.armed = true))
  | [], F, k, _, _, ho => ⟨0, Nat.le_refl _, .none k rfl rfl rfl, Or.inl ⟨rfl, rfl, ho⟩⟩
  | y :: r, F, k, hf, hk, ho => by
    have hk0 : k < F.mem.length := by simp at hk; omega
    rw [Fl.writes]
    rcases Fl.write_free y (by simpa using hf 0 (by simp)) hk0 with ⟨h1, h2, h3⟩ | ⟨h1, h2, h3⟩
    · rw [if_pos h1]
      obtain ⟨m, hm, hW, hd⟩ := Fl.writes_free r (F := (F.write k y).2) (k := k + 1) (fun i hi => by
        rw [h3.out _ (Or.inr (by show k + 1 ≤ _; omega)), show k + 1 + i = k + (i + 1) by omega]; exact hf _ (by simp; omega)) (by rw [h3.size]; simp at hk; omega) (by rw [h2, ho])
      refine ⟨m + 1, by simp; omega, ?_, ?_⟩
      · rw [List.take_succ_cons]
        exact h3.trans hW
      · rcases hd with ⟨rfl, h4, h5⟩ | ⟨h4, h5, h6, h7⟩
        · exact Or.inl ⟨rfl, h4, h5⟩
        · exact Or.inr ⟨by simp; omega, h5, h6, by rw [← h3.armed]; exact h7⟩
    · rw [if_neg (by rw [h1]; decide)]
      refine ⟨0, Nat.zero_le _, ?_, Or.inr ⟨by simp, h1, by rw [h3], h2⟩⟩
      rw [h3]
      exact .none k rfl rfl rfl
set_option maxRecDepth 100000 in
theorem Wrote.clear {F G : Fl} {i : Nat} (hi : 256 * i + 256 ≤ F.mem.length) (h1 : G.mem = clearAt F.mem i) (h2 : G.count = F.count) (h3 : G.armed = F.armed) : Wrote F G (256 * i) (List.replicate 256 W4.free) := by
  have hl : (F.mem.take (256 * i)).length = 256 * i := by rw [List.length_take]; omega
  refine ⟨by rw [h1, clearAt_length _ _ hi], h2, h3, fun j x hx => ?_, fun j hj => ?_⟩
  · have hj := (List.getElem?_eq_some_iff.1 hx).1
    apply Fl.word_of
    rw [h1]; unfold clearAt
    rw [List.append_assoc, List.getElem?_append_right (by omega), hl, List.getElem?_append_left (by rw [List.length_replicate] at hj; rw [blank_length]; omega), show 256 * i + j - 256 * i = j by omega]
    exact hx
  · rw [List.length_replicate] at hj
    unfold Fl.word
    rw [h1, List.getD_eq_getElem?_getD, List.getD_eq_getElem?_getD]
    congr 1
    unfold clearAt
    rw [List.append_assoc]
    rcases hj with hj | hj
    · rw [List.getElem?_append_left (by omega), List.getElem?_take, if_pos hj]
    · rw [List.getElem?_append_right (by omega), hl, List.getElem?_append_right (by rw [blank_length]; omega), blank_length, List.getElem?_drop]
      congr 1; omega
theorem Fl.eraseAll_does : ∀ (n : Nat) {F : Fl} {i : Nat}, 256 * (i + n) ≤ F.mem.length → F.off = false →
    ∃ m, m ≤ n ∧ Wrote F (F.eraseAll i n).2 (256 * i) (List.replicate (256 * m) W4.free) ∧ ((m = n ∧ (F.eraseAll i n).1 = 0 ∧ (F.eraseAll i n).2.off = false) ∨ (m < n ∧ (F.eraseAll i n).1 = 7 ∧ (F.eraseAll i n).2.off = true ∧ F.armed = true))
  | 0, F, i, _, ho => ⟨0, Nat.le_refl _, .none _ rfl rfl rfl, Or.inl ⟨rfl, rfl, ho⟩⟩
  | n + 1, F, i, hk, ho => by
    rw [Fl.eraseAll]
    cases hs : F.stops with
    | true =>
      have e : F.erase i = (7, { F with off := true }) := by unfold Fl.erase; rw [if_pos hs]
      rw [e, if_neg (by simp)]
      exact ⟨0, Nat.zero_le _, .none _ rfl rfl rfl, Or.inr ⟨by omega, rfl, rfl, F.stops_armed hs⟩⟩
    | false =>
      have e : F.erase i = (0, { F.went with mem := clearAt F.mem i }) := by unfold Fl.erase; rw [if_neg (by simp [hs])]
      rw [e, if_pos rfl]
      have hW : Wrote F { F.went with mem := clearAt F.mem i } (256 * i) (List.replicate 256 W4.free) := .clear (by omega) rfl rfl rfl
      obtain ⟨m, hm, hV, hd⟩ := Fl.eraseAll_does n (F := { F.went with mem := clearAt F.mem i }) (i := i + 1) (by rw [hW.size]; omega) ho
      refine ⟨m + 1, by omega, ?_, ?_⟩
      · rw [show 256 * (m + 1) = 256 + 256 * m by omega, ← List.replicate_append_replicate]
        refine hW.trans ?_
        rw [List.length_replicate, show 256 * i + 256 = 256 * (i + 1) by omega]
        exact hV
      · rcases hd with ⟨rfl, h4, h5⟩ | ⟨h4, h5, h6, h7⟩
        · exact Or.inl ⟨rfl, h4, h5⟩
        · exact Or.inr ⟨by omega, h5, h6, h7⟩
/-- the words of all groups that live, one behind the other -/
def liveRecs : List Slot → Nat → List W4
  | [], _ => []
  | x :: r, k => (if x.live then recWords (headOf k 1 x.b.length) x.b else []) ++ liveRecs r (k + 1)
theorem liveRecs_length : ∀ (l : List Slot) (k : Nat), (liveRecs l k).length = liveWords l
  | [], _ => rfl
  | x :: r, k => by
    rw [liveRecs, liveWords, List.length_append, liveRecs_length r]
    cases x.live <;> simp [recWords_length]
theorem Fl.writeLive_does : ∀ (l : List Slot) {F : Fl} {base at_ k : Nat}, (∀ i, i < liveWords l → F.word (base + at_ + i) = W4.free) → base + at_ + liveWords l ≤ F.mem.length → F.off = false →
    ∃ m, m ≤ liveWords l ∧ Wrote F (F.writeLive base at_ l k).2.1 (base + at_) ((liveRecs l k).take m) ∧ ((m = liveWords l ∧ (F.writeLive base at_ l k).1 = 0 ∧ (F.writeLive base at_ l k).2.1.off = false ∧ (F.writeLive base at_ l k).2.2 = at_ + liveWords l) ∨ (m < liveWords l ∧ (F.writeLive base at_ l k).1 = 7 ∧ (F.writeLive base at_ l k).2.1.off = true ∧ F.armed = true))
  | [], F, base, at_, k, _, _, ho => ⟨0, Nat.le_refl _, .none _ rfl rfl rfl, Or.inl ⟨rfl, rfl, ho, rfl⟩⟩
  | x :: r, F, base, at_, k, hf, hk, ho => by
    rw [Fl.writeLive]
    cases hx : x.live with
    | false =>
      have e1 : liveWords (x :: r) = liveWords r := by rw [liveWords, hx]; simp
      have e2 : liveRecs (x :: r) k = liveRecs r (k + 1) := by rw [liveRecs, hx]; simp
      rw [if_neg (by simp), e1, e2]
      rw [e1] at hf hk
      exact Fl.writeLive_does r hf hk ho
    | true =>
      have e1 : liveWords (x :: r) = (2 + (x.b.length + 3) / 4) + liveWords r := by rw [liveWords, hx]; simp
      have e2 : liveRecs (x :: r) k = recWords (headOf k 1 x.b.length) x.b ++ liveRecs r (k + 1) := by rw [liveRecs, hx]; simp
      rw [if_pos rfl, e1, e2]
      rw [e1] at hf hk
      have hl := recWords_length (headOf k 1 x.b.length) x.b
      generalize recWords (headOf k 1 x.b.length) x.b = ws at *
      obtain ⟨m, hm, hW, hd⟩ := Fl.writes_free ws (F := F) (k := base + at_) (fun i hi => hf i (by omega)) (by omega) ho
      rcases hd with ⟨rfl, h4, h5⟩ | ⟨h4, h5, h6, h7⟩
      · rw [if_pos h4]
        rw [List.take_length] at hW
        obtain ⟨m', hm', hV, hd'⟩ := Fl.writeLive_does r (F := (F.writes (base + at_) ws).2) (base := base) (at_ := at_ + (2 + (x.b.length + 3) / 4)) (k := k + 1)
          (fun i hi => by rw [hW.out _ (Or.inr (by omega)), show base + (at_ + (2 + (x.b.length + 3) / 4)) + i = base + at_ + (2 + (x.b.length + 3) / 4 + i) by omega]; exact hf _ (by omega)) (by rw [hW.size]; omega) h5
        refine ⟨ws.length + m', by omega, ?_, ?_⟩
        · rw [List.take_length_add_append]
          refine hW.trans ?_
          rw [hl, Nat.add_assoc]
          exact hV
        · rcases hd' with ⟨rfl, g4, g5, g6⟩ | ⟨g4, g5, g6, g7⟩
          · exact Or.inl ⟨by omega, g4, g5, by rw [g6]; omega⟩
          · exact Or.inr ⟨by omega, g5, g6, by rw [← hW.armed]; exact g7⟩
      · rw [if_neg (by rw [h5]; decide)]
        refine ⟨m, by omega, ?_, Or.inr ⟨by omega, h5, h6, h7⟩⟩
        rw [List.take_append_of_le_length hm]
        exact hW
end Go.Proofs.YtdfgcenbkclpbaaDoor
namespace Go.Proofs.YtdfgcenbkclpbaaDoor
open Go.RowKit
set_option linter.unusedSimpArgs false
set_option linter.unusedVariables false
theorem recNext_ge (h : W4) (at_ : Nat) : at_ + 2 ≤ recNext h at_ := by unfold recNext; omega
theorem readFrom_fuel (F : Fl) (base size : Nat) : ∀ n m at_ sl, size - at_ ≤ n → size - at_ ≤ m → F.readFrom base size n at_ sl = F.readFrom base size m at_ sl
  | 0, m, at_, sl, hn, _ => by rw [F.readFrom_end base size 0 at_ sl (Or.inl (by omega)), F.readFrom_end base size m at_ sl (Or.inl (by omega))]
  | n + 1, 0, at_, sl, _, hm => by rw [F.readFrom_end base size 0 at_ sl (Or.inl (by omega)), F.readFrom_end base size _ at_ sl (Or.inl (by omega))]
  | n + 1, m + 1, at_, sl, hn, hm => by
    have hg := recNext_ge (F.word (base + at_)) at_
    unfold Fl.readFrom
    split
    · rfl
    · split
      · rfl
      · exact readFrom_fuel F base size n m _ _ (by omega) (by omega)
/-- all records from at_ on -/
def Fl.parse (F : Fl) (base size at_ : Nat) (sl : List PSlot) : Nat × List PSlot := F.readFrom base size size at_ sl
theorem Fl.parse_end {F : Fl} {base size at_ : Nat} (sl : List PSlot) (h : size ≤ at_ ∨ F.word (base + at_) = W4.free) : F.parse base size at_ sl = (at_, sl) := F.readFrom_end _ _ _ _ _ h
theorem Fl.parse_over {F : Fl} {base size at_ : Nat} (sl : List PSlot) (h1 : at_ < size) (h2 : F.word (base + at_) ≠ W4.free) (h3 : size < recNext (F.word (base + at_)) at_) : F.parse base size at_ sl = (size, sl) := by
  unfold Fl.parse
  rw [readFrom_fuel F base size size (size + 1) at_ sl (by omega) (by omega), Fl.readFrom, if_neg (fun h => h.elim (by omega) h2), if_pos h3]
theorem Fl.parse_next {F : Fl} {base size at_ : Nat} (sl : List PSlot) (h1 : at_ < size) (h2 : F.word (base + at_) ≠ W4.free) (h3 : recNext (F.word (base + at_)) at_ ≤ size) :
    F.parse base size at_ sl = F.parse base size (recNext (F.word (base + at_)) at_) (takeRec sl (F.recHead base at_ (F.word (base + at_))) (F.recBytes base at_ (F.word (base + at_)))) := by
  unfold Fl.parse
  rw [readFrom_fuel F base size size (size + 1) at_ sl (by omega) (by omega), Fl.readFrom, if_neg (fun h => h.elim (by omega) h2), if_neg (by omega)]
theorem Fl.readAll_eq (F : Fl) (first count : Nat) (sl : List PSlot) : F.readAll first count sl = (if F.freeFrom (256 * first) (256 * count) (F.parse (256 * first) (256 * count) 2 sl).1 then (F.parse (256 * first) (256 * count) 2 sl).1 else 256 * count, (F.parse (256 * first) (256 * count) 2 sl).2) := rfl
/-- one by one -/
theorem Fl.parse_ind {F : Fl} {base size : Nat} {P : Nat → List PSlot → Prop}
    (hend : ∀ at_ sl, size ≤ at_ ∨ F.word (base + at_) = W4.free → P at_ sl)
    (hover : ∀ at_ sl, at_ < size → F.word (base + at_) ≠ W4.free → size < recNext (F.word (base + at_)) at_ → P at_ sl)
    (hnext : ∀ at_ sl, at_ < size → F.word (base + at_) ≠ W4.free → recNext (F.word (base + at_)) at_ ≤ size → P (recNext (F.word (base + at_)) at_) (takeRec sl (F.recHead base at_ (F.word (base + at_))) (F.recBytes base at_ (F.word (base + at_)))) → P at_ sl) :
    ∀ at_ sl, P at_ sl := by
  intro at_
  induction hd : size - at_ using Nat.strongRecOn generalizing at_ with
  | _ d ih =>
    intro sl
    by_cases h1 : size ≤ at_ ∨ F.word (base + at_) = W4.free
    · exact hend _ _ h1
    · have h2 : at_ < size := by omega
      have h3 : F.word (base + at_) ≠ W4.free := fun e => h1 (Or.inr e)
      by_cases h4 : size < recNext (F.word (base + at_)) at_
      · exact hover _ _ h2 h3 h4
      · have hg := recNext_ge (F.word (base + at_)) at_
        exact hnext _ _ h2 h3 (by omega) (ih (size - recNext (F.word (base + at_)) at_) (by omega) _ rfl _)
theorem Fl.parse_ge {F : Fl} {base size : Nat} : ∀ at_ sl, at_ ≤ size → at_ ≤ (F.parse base size at_ sl).1 ∧ (F.parse base size at_ sl).1 ≤ size := by
  refine Fl.parse_ind (F := F) (base := base) (size := size) (fun at_ sl h h1 => ?_) (fun at_ sl h1 h2 h3 _ => ?_) (fun at_ sl h1 h2 h3 ih _ => ?_)
  · rw [Fl.parse_end sl h]; exact ⟨Nat.le_refl _, h1⟩
  · rw [Fl.parse_over sl h1 h2 h3]; exact ⟨by omega, Nat.le_refl _⟩
  · rw [Fl.parse_next sl h1 h2 h3]
    have hg := recNext_ge (F.word (base + at_)) at_
    have := ih h3
    omega
theorem Fl.bytesAt_congr {F G : Fl} {k : Nat} : ∀ n, (∀ i, i < n → G.word (k + i) = F.word (k + i)) → k + n ≤ F.mem.length → k + n ≤ G.mem.length → G.bytesAt k n = F.bytesAt k n
  | 0, _, _, _ => rfl
  | n + 1, h, h1, h2 => by
    rw [Fl.bytesAt_succ _ _ _ (by omega), Fl.bytesAt_succ _ _ _ (by omega), Fl.bytesAt_congr n (fun i hi => h i (by omega)) (by omega) (by omega), h n (by omega)]
/-- the words of a record stand in both -/
theorem Fl.rec_congr {F G : Fl} {base at_ : Nat} (h : ∀ i, at_ ≤ i → i < recNext (F.word (base + at_)) at_ → G.word (base + i) = F.word (base + i)) (h1 : base + recNext (F.word (base + at_)) at_ ≤ F.mem.length) (h2 : G.mem.length = F.mem.length) :
    G.word (base + at_) = F.word (base + at_) ∧ G.recBytes base at_ (F.word (base + at_)) = F.recBytes base at_ (F.word (base + at_)) ∧ G.recHead base at_ (F.word (base + at_)) = F.recHead base at_ (F.word (base + at_)) := by
  have hg := recNext_ge (F.word (base + at_)) at_
  have hb : G.recBytes base at_ (F.word (base + at_)) = F.recBytes base at_ (F.word (base + at_)) := by
    unfold Fl.recBytes
    have hn : recNext (F.word (base + at_)) at_ = at_ + 2 + (recLen (F.word (base + at_)) + 3) / 4 := rfl
    rw [Fl.bytesAt_congr (F := F) _ (fun i hi => by rw [show base + at_ + 1 + i = base + (at_ + 1 + i) by omega]; exact h _ (by omega) (by omega)) (by omega) (by omega)]
  refine ⟨h at_ (Nat.le_refl _) (by omega), hb, ?_⟩
  unfold Fl.recHead
  rw [hb, show base + recNext (F.word (base + at_)) at_ - 1 = base + (recNext (F.word (base + at_)) at_ - 1) by omega, h _ (by omega) (by omega)]
theorem Fl.parse_keep {F G : Fl} {base size : Nat} (hs : base + size ≤ F.mem.length) (hG : G.mem.length = F.mem.length) {e : Nat} {sl' : List PSlot} (he : e < size) :
    ∀ at_ sl, (∀ i, at_ ≤ i → i < e → G.word (base + i) = F.word (base + i)) → F.parse base size at_ sl = (e, sl') → G.parse base size at_ sl = G.parse base size e sl' := by
  refine Fl.parse_ind (F := F) (base := base) (size := size) (fun at_ sl h hw hp => ?_) (fun at_ sl h1 h2 h3 hw hp => ?_) (fun at_ sl h1 h2 h3 ih hw hp => ?_)
  · rw [Fl.parse_end sl h] at hp
    obtain ⟨rfl, rfl⟩ := Prod.mk.inj hp
    rfl
  · rw [Fl.parse_over sl h1 h2 h3] at hp
    obtain ⟨rfl, rfl⟩ := Prod.mk.inj hp
    omega
  · rw [Fl.parse_next sl h1 h2 h3] at hp
    have hg := recNext_ge (F.word (base + at_)) at_
    have hb := (Fl.parse_ge (F := F) (base := base) _ (takeRec sl (F.recHead base at_ (F.word (base + at_))) (F.recBytes base at_ (F.word (base + at_)))) h3).1
    rw [hp] at hb
    have hb : recNext (F.word (base + at_)) at_ ≤ e := hb
    obtain ⟨c1, c2, c3⟩ := Fl.rec_congr (F := F) (G := G) (base := base) (at_ := at_) (fun i hi hi2 => hw i hi (by omega)) (by omega) hG
    rw [Fl.parse_next (F := G) sl h1 (by rw [c1]; exact h2) (by rw [c1]; exact h3), c1, c2, c3]
    exact ih (fun i hi hi2 => hw i (by omega) hi2) hp
theorem Fl.parse_same {F G : Fl} {base size : Nat} (hs : base + size ≤ F.mem.length) (hG : G.mem.length = F.mem.length) :
    ∀ at_ sl, (∀ i, at_ ≤ i → i < size → G.word (base + i) = F.word (base + i)) → G.parse base size at_ sl = F.parse base size at_ sl := by
  refine Fl.parse_ind (F := F) (base := base) (size := size) (fun at_ sl h hw => ?_) (fun at_ sl h1 h2 h3 hw => ?_) (fun at_ sl h1 h2 h3 ih hw => ?_)
  · rw [Fl.parse_end sl h, Fl.parse_end sl]
    by_cases hz : size ≤ at_
    · exact Or.inl hz
    · exact Or.inr (by rw [hw at_ (Nat.le_refl _) (by omega)]; exact h.resolve_left hz)
  · have c1 := hw at_ (Nat.le_refl _) h1
    rw [Fl.parse_over sl h1 h2 h3, Fl.parse_over sl h1 (by rw [c1]; exact h2) (by rw [c1]; exact h3)]
  · have hg := recNext_ge (F.word (base + at_)) at_
    obtain ⟨c1, c2, c3⟩ := Fl.rec_congr (F := F) (G := G) (base := base) (at_ := at_) (fun i hi hi2 => hw i hi (by omega)) (by omega) hG
    rw [Fl.parse_next sl h1 h2 h3, Fl.parse_next (F := G) sl h1 (by rw [c1]; exact h2) (by rw [c1]; exact h3), c1, c2, c3]
    exact ih fun i hi hi2 => hw i (by omega) hi2
/-- free words from at_ on -/
theorem Fl.freeFrom_iff {F : Fl} {base size : Nat} (hs : base + size ≤ F.mem.length) : ∀ at_, F.freeFrom base size at_ = true ↔ ∀ i, at_ ≤ i → i < size → F.word (base + i) = W4.free := by
  intro at_
  induction size with
  | zero => exact ⟨fun _ i _ h => by omega, fun _ => by simp [Fl.freeFrom]⟩
  | succ n ih =>
    by_cases h : at_ ≤ n
    · rw [Fl.freeFrom_succ _ _ _ _ h (by omega), Bool.and_eq_true, ih (by omega), decide_eq_true_iff]
      constructor
      · rintro ⟨h1, h2⟩ i hi hi2
        by_cases e : i = n
        · subst e; exact h2
        · exact h1 i hi (by omega)
      · exact fun h1 => ⟨fun i hi hi2 => h1 i hi (by omega), h1 n h (by omega)⟩
    · exact ⟨fun _ i _ _ => by omega, fun _ => by simp [Fl.freeFrom, show n + 1 - at_ = 0 by omega]⟩
theorem Fl.readAll_same {F G : Fl} {first count : Nat} (hs : 256 * first + 256 * count ≤ F.mem.length) (hG : G.mem.length = F.mem.length) (h : ∀ i, 2 ≤ i → i < 256 * count → G.word (256 * first + i) = F.word (256 * first + i)) (sl : List PSlot) : G.readAll first count sl = F.readAll first count sl := by
  by_cases hc : count = 0
  · subst hc
    rw [Fl.readAll_eq, Fl.readAll_eq, Fl.parse_end sl (Or.inl (by omega)), Fl.parse_end sl (Or.inl (by omega))]
    simp [Fl.freeFrom]
  · have hp := Fl.parse_same hs hG 2 sl h
    rw [Fl.readAll_eq, Fl.readAll_eq, hp]
    have hge := (Fl.parse_ge (F := F) (base := 256 * first) (size := 256 * count) 2 sl (by omega)).1
    have : G.freeFrom (256 * first) (256 * count) (F.parse (256 * first) (256 * count) 2 sl).1 = F.freeFrom (256 * first) (256 * count) (F.parse (256 * first) (256 * count) 2 sl).1 := by
      rw [Bool.eq_iff_iff, Fl.freeFrom_iff (by omega), Fl.freeFrom_iff hs]
      exact ⟨fun h1 i hi hi2 => by rw [← h i (by omega) hi2]; exact h1 i hi hi2, fun h1 i hi hi2 => by rw [h i (by omega) hi2]; exact h1 i hi hi2⟩
    rw [this]
/-- where less than all is taken, the rest is free -/
theorem Fl.readAll_free {F : Fl} {first count e : Nat} {sl sl' : List PSlot} (hs : 256 * first + 256 * count ≤ F.mem.length) (h : F.readAll first count sl = (e, sl')) (he : e < 256 * count) :
    F.parse (256 * first) (256 * count) 2 sl = (e, sl') ∧ ∀ i, e ≤ i → i < 256 * count → F.word (256 * first + i) = W4.free := by
  rw [Fl.readAll_eq] at h
  obtain ⟨h1, h2⟩ := Prod.mk.inj h
  cases hf : F.freeFrom (256 * first) (256 * count) (F.parse (256 * first) (256 * count) 2 sl).1 with
  | false => rw [hf, if_neg (by simp)] at h1; omega
  | true =>
    rw [hf, if_pos rfl] at h1
    refine ⟨Prod.ext h1 h2, ?_⟩
    rw [Fl.freeFrom_iff hs, h1] at hf
    exact hf
theorem Fl.readAll_of {F : Fl} {first count e : Nat} {sl sl' : List PSlot} (hs : 256 * first + 256 * count ≤ F.mem.length) (h : F.parse (256 * first) (256 * count) 2 sl = (e, sl')) (hf : ∀ i, e ≤ i → i < 256 * count → F.word (256 * first + i) = W4.free) :
    F.readAll first count sl = (e, sl') := by
  rw [Fl.readAll_eq, h, if_pos ((Fl.freeFrom_iff hs _).2 hf)]
end Go.Proofs.YtdfgcenbkclpbaaDoor
namespace Go.Proofs.YtdfgcenbkclpbaaDoor
open Go.RowKit
set_option linter.unusedSimpArgs false
set_option linter.unusedVariables false
theorem Fl.bytesAt_words {F : Fl} {k : Nat} {ws : List W4} (h : ∀ i y, ws[i]? = some y → F.word (k + i) = y) (hk : k + ws.length ≤ F.mem.length) : F.bytesAt k ws.length = wordsBytes ws := by
  unfold Fl.bytesAt
  congr 1
  apply List.ext_getElem?
  intro i
  rw [List.getElem?_take]
  split
  · rename_i hi
    rw [List.getElem?_drop, Fl.word_at F (by omega), List.getElem?_eq_getElem hi, h i _ (List.getElem?_eq_getElem hi)]
  · rename_i hi
    rw [List.getElem?_eq_none (by omega)]
theorem padWords_bytes : ∀ b : List UInt8, (wordsBytes (padWords b)).take b.length = b
  | [] => rfl
  | [_] => rfl
  | [_, _] => rfl
  | [_, _, _] => rfl
  | a :: b :: c :: d :: r => by
    have := padWords_bytes r
    rw [padWords, show wordsBytes (⟨a, b, c, d⟩ :: padWords r) = [a, b, c, d] ++ wordsBytes (padWords r) from rfl]
    simp [this]
/-- a record that stands there as a whole -/
theorem Fl.parse_rec {F : Fl} {base size at_ : Nat} {h : W4} {b : List UInt8} (sl : List PSlot) (hs : base + size ≤ F.mem.length) (hw : ∀ i y, (recWords h b)[i]? = some y → F.word (base + at_ + i) = y) (hh : h ≠ W4.free) (hl : recLen h = b.length)
    (hn : at_ + (recWords h b).length ≤ size) : F.parse base size at_ sl = F.parse base size (at_ + (recWords h b).length) (takeRec sl h b) := by
  rw [recWords_length] at hn ⊢
  have h0 : F.word (base + at_) = h := by simpa using hw 0 h rfl
  have hr : recNext h at_ = at_ + (2 + (b.length + 3) / 4) := by unfold recNext; rw [hl]; omega
  have hb : F.recBytes base at_ h = b := by
    unfold Fl.recBytes
    rw [hl, ← padWords_length, Fl.bytesAt_words (ws := padWords b) (fun i y hy => ?_) (by rw [padWords_length]; omega), padWords_bytes]
    have := hw (i + 1) y (by
      have hi := (List.getElem?_eq_some_iff.1 hy).1
      rw [recWords, List.getElem?_cons_succ, List.getElem?_append_left hi]; exact hy)
    rwa [show base + at_ + (i + 1) = base + at_ + 1 + i by omega] at this
  have hsum : F.word (base + recNext h at_ - 1) = sumW h b := by
    have := hw (1 + (b.length + 3) / 4) (sumW h b) (by
      rw [recWords, Nat.add_comm 1, List.getElem?_cons_succ, List.getElem?_append_right (by rw [padWords_length]; omega), padWords_length, Nat.sub_self]; rfl)
    rwa [show base + at_ + (1 + (b.length + 3) / 4) = base + recNext h at_ - 1 by omega] at this
  have hd : F.recHead base at_ h = h := by unfold Fl.recHead; rw [hb, hsum, if_pos rfl]
  rw [Fl.parse_next sl (by omega) (by rw [h0]; exact hh) (by rw [h0]; omega), h0, hb, hd, hr]
/-- one that was begun and not ended -/
theorem Fl.parse_torn {F : Fl} {base size at_ : Nat} {h : W4} {b : List UInt8} (sl : List PSlot) (hs : base + size ≤ F.mem.length) (hw : F.word (base + at_) = h) (hz : F.word (base + (at_ + (1 + (b.length + 3) / 4))) = W4.free) (hh : h ≠ W4.free) (hl : recLen h = b.length)
    (hn : at_ + (recWords h b).length ≤ size) : F.parse base size at_ sl = F.parse base size (at_ + (recWords h b).length) sl := by
  rw [recWords_length] at hn ⊢
  have hr : recNext h at_ = at_ + (2 + (b.length + 3) / 4) := by unfold recNext; rw [hl]; omega
  have hsum : F.word (base + recNext h at_ - 1) = W4.free := by
    rw [show base + recNext h at_ - 1 = base + (at_ + (1 + (b.length + 3) / 4)) by omega]; exact hz
  have hd : F.recHead base at_ h = { h with b := 0 } := by
    unfold Fl.recHead
    rw [hsum, if_neg]
    intro e
    have : (0xFF : UInt8) = 0x5A := congrArg W4.c e
    exact absurd this (by decide)
  have ht : ∀ c, takeRec sl { h with b := 0 } c = sl := fun c => by
    unfold takeRec
    split
    · rfl
    · rw [if_neg (show ¬ (0 : UInt8) = 1 by decide), if_neg (show ¬ (0 : UInt8) = 2 by decide)]
  rw [Fl.parse_next sl (by omega) (by rw [hw]; exact hh) (by rw [hw]; omega), hw, hd, ht, hr]
theorem Wrote.parse {F G : Fl} {base size e : Nat} {ws : List W4} {sl sl' : List PSlot} (hW : Wrote F G (base + e) ws) (hs : base + size ≤ F.mem.length) (he : e < size) (h2 : 2 ≤ e) (hp : F.parse base size 2 sl = (e, sl')) : G.parse base size 2 sl = G.parse base size e sl' :=
  Fl.parse_keep hs hW.size he 2 sl (fun i hi hi2 => hW.out _ (Or.inl (by omega))) hp
theorem Fl.readAll_ge {F : Fl} {first count : Nat} {e : Nat} {sl sl' : List PSlot} (hc : 0 < count) (h : F.readAll first count sl = (e, sl')) : 2 ≤ e := by
  have hge := (Fl.parse_ge (F := F) (base := 256 * first) (size := 256 * count) 2 sl (by omega)).1
  rw [Fl.readAll_eq] at h
  have h1 := (Prod.mk.inj h).1
  split at h1 <;> omega
/-- one more record -/
theorem Fl.readAll_more {F G : Fl} {first count e : Nat} {h : W4} {b : List UInt8} {sl sl' : List PSlot} (hs : 256 * first + 256 * count ≤ F.mem.length) (hr : F.readAll first count sl = (e, sl')) (hh : h ≠ W4.free) (hl : recLen h = b.length)
    (hn : e + (recWords h b).length ≤ 256 * count) (hW : Wrote F G (256 * first + e) (recWords h b)) : G.readAll first count sl = (e + (recWords h b).length, takeRec sl' h b) := by
  have hlen := recWords_length h b
  have h2 := Fl.readAll_ge (by omega) hr
  obtain ⟨hp, hf⟩ := Fl.readAll_free hs hr (by omega)
  have hG : 256 * first + 256 * count ≤ G.mem.length := by rw [hW.size]; exact hs
  have hfr : ∀ i, e + (recWords h b).length ≤ i → i < 256 * count → G.word (256 * first + i) = W4.free := fun i hi hi2 => by
    rw [hW.out _ (Or.inr (by omega))]; exact hf i (by omega) hi2
  refine Fl.readAll_of hG ?_ hfr
  rw [hW.parse hs (by omega) h2 hp, Fl.parse_rec sl' hG hW.inn hh hl hn, Fl.parse_end]
  by_cases hz : 256 * count ≤ e + (recWords h b).length
  · exact Or.inl hz
  · exact Or.inr (hfr _ (Nat.le_refl _) (by omega))
/-- one that the power left unended -/
theorem Fl.readAll_torn {F G : Fl} {first count e m : Nat} {h : W4} {b : List UInt8} {sl sl' : List PSlot} (hs : 256 * first + 256 * count ≤ F.mem.length) (hr : F.readAll first count sl = (e, sl')) (hh : h ≠ W4.free) (hl : recLen h = b.length)
    (hn : e + (recWords h b).length ≤ 256 * count) (hm : m < (recWords h b).length) (hW : Wrote F G (256 * first + e) ((recWords h b).take m)) : ∃ e', G.readAll first count sl = (e', sl') := by
  have hlen := recWords_length h b
  have h2 := Fl.readAll_ge (by omega) hr
  obtain ⟨hp, hf⟩ := Fl.readAll_free hs hr (by omega)
  have hG : 256 * first + 256 * count ≤ G.mem.length := by rw [hW.size]; exact hs
  have hml : ((recWords h b).take m).length = m := by rw [List.length_take]; omega
  have hfr : ∀ i, e + m ≤ i → i < 256 * count → G.word (256 * first + i) = W4.free := fun i hi hi2 => by
    rw [hW.out _ (Or.inr (by omega))]; exact hf i (by omega) hi2
  by_cases hm0 : m = 0
  · subst hm0
    refine ⟨e, Fl.readAll_of hG ?_ (fun i hi hi2 => hfr i hi hi2)⟩
    rw [hW.parse hs (by omega) h2 hp, Fl.parse_end]
    exact Or.inr (hfr _ (Nat.le_refl _) (by omega))
  · refine ⟨e + (recWords h b).length, Fl.readAll_of hG ?_ (fun i hi hi2 => hfr i (by omega) hi2)⟩
    have hw0 : G.word (256 * first + e) = h := by
      have := hW.inn 0 h (by rw [List.getElem?_take, if_pos (by omega)]; rfl)
      simpa using this
    rw [hW.parse hs (by omega) h2 hp, Fl.parse_torn sl' hG hw0 (hfr _ (by omega) (by omega)) hh hl hn, Fl.parse_end]
    by_cases hz : 256 * count ≤ e + (recWords h b).length
    · exact Or.inl hz
    · exact Or.inr (hfr _ (by omega) (by omega))
theorem recLen_headOf (i : Nat) (kind : UInt8) (n : Nat) (hn : n ≤ 4096) : recLen (headOf i kind n) = n := by
  unfold recLen headOf
  simp only [UInt8.toNat_ofNat']
  omega
theorem headOf_free (i : Nat) (kind : UInt8) (n : Nat) (hk : kind = 1 ∨ kind = 2) : headOf i kind n ≠ W4.free := fun e => by
  have : kind = 255 := congrArg W4.b e
  rcases hk with rfl | rfl <;> exact absurd this (by decide)
/-- a group, as it is behind an opening -/
def PSlot.open1 (x : PSlot) : PSlot := if x.there && !x.marked then x else ⟨false, false, []⟩
def opened (l : List PSlot) : List PSlot := l.map PSlot.open1
theorem takeRec_live (sl : List PSlot) (i : Nat) (hi : i < 16) (b : List UInt8) (hb : b.length ≤ 4096) : takeRec sl (headOf i 1 b.length) b = sl.set i ⟨true, false, b⟩ := by
  have e : (UInt8.ofNat i).toNat = i := by simp; omega
  unfold takeRec headOf
  simp only [e]
  rw [if_neg (by omega), if_pos trivial]
theorem takeRec_gone (sl : List PSlot) (i : Nat) (hi : i < 16) : takeRec sl (headOf i 2 0) [] = sl.set i ⟨false, false, []⟩ := by
  have e : (UInt8.ofNat i).toNat = i := by simp; omega
  unfold takeRec headOf
  simp only [e, List.length_nil]
  rw [if_neg (by omega), if_neg (by decide), if_pos trivial]
/-- the head and the bytes of the record of a group -/
def Slot.head (i : Nat) (x : Slot) : W4 := if x.marked then headOf i 2 0 else headOf i 1 x.b.length
def Slot.body (x : Slot) : List UInt8 := if x.marked then [] else x.b
theorem Slot.words_eq (i : Nat) (x : Slot) : x.words i = recWords (x.head i) x.body := by
  unfold Slot.words Slot.head Slot.body; split <;> rfl
theorem Slot.head_free (i : Nat) (x : Slot) : x.head i ≠ W4.free := by
  unfold Slot.head; split
  · exact headOf_free _ _ _ (Or.inr rfl)
  · exact headOf_free _ _ _ (Or.inl rfl)
theorem Slot.head_len (i : Nat) (x : Slot) (hb : x.b.length ≤ 4096) : recLen (x.head i) = x.body.length := by
  unfold Slot.head Slot.body; split
  · exact recLen_headOf _ _ _ (by omega)
  · exact recLen_headOf _ _ _ hb
theorem Slot.take (sl : List PSlot) (i : Nat) (hi : i < 16) (x : Slot) (ht : x.there = true) (hb : x.b.length ≤ 4096) : takeRec sl (x.head i) x.body = sl.set i x.p.open1 := by
  unfold Slot.head Slot.body PSlot.open1 Slot.p
  cases hm : x.marked with
  | true => simp [ht]; exact takeRec_gone sl i hi
  | false => simp [ht]; exact takeRec_live sl i hi x.b hb
/-- all groups that live are taken over -/
def takeLive : List PSlot → List Slot → Nat → List PSlot
  | sl, [], _ => sl
  | sl, x :: r, k => takeLive (if x.live then takeRec sl (headOf k 1 x.b.length) x.b else sl) r (k + 1)
theorem Fl.parse_live {F : Fl} {base size : Nat} (hs : base + size ≤ F.mem.length) : ∀ (l : List Slot) (at_ k : Nat) (sl : List PSlot), (∀ x ∈ l, x.b.length ≤ 4096) → (∀ i y, (liveRecs l k)[i]? = some y → F.word (base + at_ + i) = y) → at_ + liveWords l ≤ size →
    F.parse base size at_ sl = F.parse base size (at_ + liveWords l) (takeLive sl l k)
  | [], _, _, _, _, _, _ => rfl
  | x :: r, at_, k, sl, hb, hw, hn => by
    cases hx : x.live with
    | false =>
      have e1 : liveWords (x :: r) = liveWords r := by rw [liveWords, hx]; simp
      have e2 : liveRecs (x :: r) k = liveRecs r (k + 1) := by rw [liveRecs, hx]; simp
      rw [takeLive, hx, if_neg (by simp), e1]
      rw [e2] at hw
      rw [e1] at hn
      exact Fl.parse_live hs r at_ (k + 1) sl (fun y hy => hb y (List.mem_cons_of_mem _ hy)) hw hn
    | true =>
      have e1 : liveWords (x :: r) = (2 + (x.b.length + 3) / 4) + liveWords r := by rw [liveWords, hx]; simp
      have e2 : liveRecs (x :: r) k = recWords (headOf k 1 x.b.length) x.b ++ liveRecs r (k + 1) := by rw [liveRecs, hx]; simp
      have hl := recWords_length (headOf k 1 x.b.length) x.b
      have hbx := hb x (List.mem_cons_self ..)
      rw [e1] at hn
      rw [e2] at hw
      rw [takeLive, hx, if_pos rfl, e1, Fl.parse_rec (h := headOf k 1 x.b.length) (b := x.b) sl hs (fun i y hy => hw i y (by rw [List.getElem?_append_left (List.getElem?_eq_some_iff.1 hy).1]; exact hy)) (headOf_free _ _ _ (Or.inl rfl)) (recLen_headOf _ _ _ hbx) (by omega),
        hl, Fl.parse_live hs r (at_ + (2 + (x.b.length + 3) / 4)) (k + 1) _ (fun y hy => hb y (List.mem_cons_of_mem _ hy)) (fun i y hy => ?_) (by omega), Nat.add_assoc]
      have := hw (2 + (x.b.length + 3) / 4 + i) y (by rw [List.getElem?_append_right (by omega), hl, show 2 + (x.b.length + 3) / 4 + i - (2 + (x.b.length + 3) / 4) = i by omega]; exact hy)
      rwa [show base + at_ + (2 + (x.b.length + 3) / 4 + i) = base + (at_ + (2 + (x.b.length + 3) / 4)) + i by omega] at this
theorem takeLive_blank : ∀ (l : List Slot) (pre : List PSlot), pre.length + l.length ≤ 16 → (∀ x ∈ l, x.b.length ≤ 4096) → takeLive (pre ++ List.replicate l.length ⟨false, false, []⟩) l pre.length = pre ++ l.map fun x => x.p.open1
  | [], pre, _, _ => by simp [takeLive]
  | x :: r, pre, hn, hb => by
    have hbx := hb x (List.mem_cons_self ..)
    rw [List.length_cons] at hn
    have e : (if x.live then takeRec (pre ++ List.replicate (x :: r).length ⟨false, false, []⟩) (headOf pre.length 1 x.b.length) x.b else pre ++ List.replicate (x :: r).length ⟨false, false, []⟩) = (pre ++ [x.p.open1]) ++ List.replicate r.length ⟨false, false, []⟩ := by
      rw [List.length_cons, List.replicate_succ]
      unfold PSlot.open1 Slot.p
      cases hx : x.live with
      | true =>
        have hx' := hx
        unfold Slot.live at hx'
        rw [if_pos rfl, takeRec_live _ _ (by omega) _ hbx, List.set_append_right _ _ (Nat.le_refl _), Nat.sub_self, List.set_cons_zero]
        simp only [hx', if_true]
        simp at hx'
        simp [hx'.1, hx'.2]
      | false =>
        have hx' := hx
        unfold Slot.live at hx'
        simp [hx']
    rw [takeLive, e]
    have := takeLive_blank r (pre ++ [x.p.open1]) (by simp; omega) (fun y hy => hb y (List.mem_cons_of_mem _ hy))
    rw [List.length_append, List.length_singleton] at this
    rw [this]
    simp
theorem takeLive_all (l : List Slot) (hl : l.length = 16) (hb : ∀ x ∈ l, x.b.length ≤ 4096) : takeLive blanks l 0 = opened (l.map Slot.p) := by
  have := takeLive_blank l [] (by simp [hl]) hb
  rw [hl] at this
  simp only [List.nil_append, List.length_nil] at this
  unfold blanks
  rw [this]
  simp [opened]
end Go.Proofs.YtdfgcenbkclpbaaDoor
namespace Go.Proofs.YtdfgcenbkclpbaaDoor
open Go.RowKit
set_option linter.unusedSimpArgs false
set_option linter.unusedVariables false
/-- G is F but for n sectors from a on -/
structure Out (F G : Fl) (a n : Nat) : Prop where
  size : G.mem.length = F.mem.length
  count : G.count = F.count
  armed : G.armed = F.armed
  out : ∀ i, i < 256 * a ∨ 256 * (a + n) ≤ i → G.word i = F.word i
theorem Out.trans {F M G : Fl} {a n : Nat} (h1 : Out F M a n) (h2 : Out M G a n) : Out F G a n :=
  ⟨h2.size.trans h1.size, h2.count.trans h1.count, h2.armed.trans h1.armed, fun i hi => (h2.out i hi).trans (h1.out i hi)⟩
theorem Wrote.toOut {F G : Fl} {k a n : Nat} {ws : List W4} (h : Wrote F G k ws) (h1 : 256 * a ≤ k) (h2 : k + ws.length ≤ 256 * (a + n)) : Out F G a n :=
  ⟨h.size, h.count, h.armed, fun i hi => h.out i (by omega)⟩
theorem Out.off {F : Fl} (a n : Nat) (b : Bool) : Out F { F with off := b } a n := ⟨rfl, rfl, rfl, fun _ _ => rfl⟩
theorem genOk_free_left (x : W4) : genOk W4.free x = false := by
  have : W4.free.num = 4294967295 := by decide
  unfold genOk; rw [this]; simp
theorem genOk_free_right (x : W4) : genOk x W4.free = false := by
  have : W4.free.num = 4294967295 := by decide
  have hl := x.num_lt
  unfold genOk; rw [this]
  cases hx : (x.num != 0) with
  | false => simp
  | true =>
    have : x.num ≠ 0 := by simpa using hx
    have : (4294967295 == 4294967295 - x.num) = false := by simp; omega
    rw [this]; simp
theorem nextGen_lt (g : Nat) : nextGen g < 4294967296 := by unfold nextGen; split <;> omega
theorem nextGen_ne (g : Nat) (h : g < 4294967295) : nextGen g ≠ 0 ∧ nextGen g ≠ 4294967295 := by unfold nextGen; split <;> omega
/-- turn did all -/
structure Turned (J : Jn) (F G : Fl) : Prop where
  else_ : Out F G J.other J.count
  off : G.off = false
  g0 : G.word (256 * J.other) = W4.ofNum (nextGen J.gen)
  g1 : G.word (256 * J.other + 1) = W4.ofNum (4294967295 - nextGen J.gen)
  read : G.readAll J.other J.count blanks = (2 + liveWords J.slots, opened (J.slots.map Slot.p))
/-- the power went amid it -/
structure Torn (J : Jn) (F G : Fl) : Prop where
  else_ : Out F G J.other J.count
  off : G.off = true
  armed : F.armed = true
  gen : (G.word (256 * J.other) = F.word (256 * J.other) ∧ G.word (256 * J.other + 1) = F.word (256 * J.other + 1)) ∨ genOk (G.word (256 * J.other)) (G.word (256 * J.other + 1)) = false
theorem turn_does {J : Jn} {F : Fl} (hs : F.mem.length = 256 * F.count) (hc : J.other + J.count ≤ F.count) (hp : 0 < J.count) (h16 : J.slots.length = 16) (hb : ∀ x ∈ J.slots, x.b.length ≤ 4096) (hr : 2 + liveWords J.slots ≤ 256 * J.count) (ho : F.off = false) :
    ((J.turn F).1 = 0 ∧ (J.turn F).2.2 = { J with first := J.other, other := J.first, gen := nextGen J.gen, next := 2 + liveWords J.slots } ∧ Turned J F (J.turn F).2.1) ∨ ((J.turn F).1 = 7 ∧ (J.turn F).2.2 = J ∧ Torn J F (J.turn F).2.1) := by
  unfold Jn.turn
  obtain ⟨m, hm, hE, hd⟩ := Fl.eraseAll_does J.count (F := F) (i := J.other) (by rw [hs]; omega) ho
  generalize F.eraseAll J.other J.count = E at *
  have oE : Out F E.2 J.other J.count := hE.toOut (Nat.le_refl _) (by rw [List.length_replicate]; omega)
  rcases hd with ⟨rfl, h1, h2⟩ | ⟨h1, h2, h3, h4⟩
  · rw [if_neg (by rw [h1]; simp)]
    have fE : ∀ i, i < 256 * J.count → E.2.word (256 * J.other + i) = W4.free := fun i hi => hE.inn i _ (by rw [List.getElem?_replicate, if_pos hi])
    have sE := hE.size
    obtain ⟨m, hm, hL, hd⟩ := Fl.writeLive_does J.slots (F := E.2) (base := 256 * J.other) (at_ := 2) (k := 0) (fun i hi => by rw [Nat.add_assoc]; exact fE _ (by omega)) (by omega) h2
    simp only
    generalize E.2.writeLive (256 * J.other) 2 J.slots 0 = L at *
    have hll := liveRecs_length J.slots 0
    have oL : Out F L.2.1 J.other J.count := oE.trans (hL.toOut (by omega) (by rw [List.length_take]; omega))
    have f0 : L.2.1.word (256 * J.other) = W4.free := by rw [hL.out _ (Or.inl (by omega))]; exact fE 0 (by omega)
    have f1 : L.2.1.word (256 * J.other + 1) = W4.free := by rw [hL.out _ (Or.inl (by omega))]; exact fE 1 (by omega)
    rcases hd with ⟨rfl, g1, g2, g3⟩ | ⟨g1, g2, g3, g4⟩
    · rw [if_neg (by rw [g1]; simp), g3]
      have sL := hL.size
      rcases Fl.write_free (F := L.2.1) (k := 256 * J.other) (W4.ofNum (nextGen J.gen)) f0 (by omega) with ⟨a1, a2, hA⟩ | ⟨a1, a2, a3⟩
      · rw [if_neg (by rw [a1]; simp)]
        generalize L.2.1.write (256 * J.other) (W4.ofNum (nextGen J.gen)) = A at *
        have oA : Out F A.2 J.other J.count := oL.trans (hA.toOut (Nat.le_refl _) (by show _ + 1 ≤ _; omega))
        have sA := hA.size
        have k0 : A.2.word (256 * J.other) = W4.ofNum (nextGen J.gen) := by simpa using hA.inn 0 _ rfl
        have k1 : A.2.word (256 * J.other + 1) = W4.free := by rw [hA.out _ (Or.inr (by show _ + 1 ≤ _; omega))]; exact f1
        rcases Fl.write_free (F := A.2) (k := 256 * J.other + 1) (W4.ofNum (4294967295 - nextGen J.gen)) k1 (by omega) with ⟨b1, b2, hB⟩ | ⟨b1, b2, b3⟩
        · rw [if_neg (by rw [b1]; simp)]
          refine Or.inl ⟨rfl, rfl, ?_⟩
          generalize A.2.write (256 * J.other + 1) (W4.ofNum (4294967295 - nextGen J.gen)) = B at *
          have oB : Out F B.2 J.other J.count := oA.trans (hB.toOut (by omega) (by show _ + 1 ≤ _; omega))
          have wB : ∀ i, 2 ≤ i → B.2.word (256 * J.other + i) = L.2.1.word (256 * J.other + i) := fun i hi => by
            rw [hB.out _ (Or.inr (by show _ + 1 ≤ _; omega)), hA.out _ (Or.inr (by show _ + 1 ≤ _; omega))]
          have sB := hB.size
          rw [List.take_of_length_le (by omega)] at hL
          refine ⟨oB, by simp only at *; rw [b2, a2, g2], ?_, by simpa using hB.inn 0 _ rfl, ?_⟩
          · simp only
            rw [hB.out _ (Or.inl (by omega))]; exact k0
          · have hf : ∀ i, 2 + liveWords J.slots ≤ i → i < 256 * J.count → B.2.word (256 * J.other + i) = W4.free := fun i hi hi2 => by
              rw [wB i (by omega), hL.out _ (Or.inr (by omega))]; exact fE i hi2
            have hsz : 256 * J.other + 256 * J.count ≤ B.2.mem.length := by omega
            refine Fl.readAll_of hsz ?_ hf
            rw [Fl.parse_live hsz J.slots 2 0 blanks hb (fun i y hy => ?_) hr, takeLive_all _ h16 hb, Fl.parse_end]
            · by_cases hz : 256 * J.count ≤ 2 + liveWords J.slots
              · exact Or.inl hz
              · exact Or.inr (hf _ (Nat.le_refl _) (by omega))
            · have := hL.inn i y hy
              rw [Nat.add_assoc, wB _ (by omega), ← Nat.add_assoc]; exact this
        · rw [if_pos (by rw [b1]; simp), b1, b3]
          exact Or.inr ⟨rfl, rfl, oA.trans (.off _ _ _), rfl, by rw [← oA.armed]; exact b2, Or.inr (by rw [show ({ A.2 with off := true } : Fl).word (256 * J.other + 1) = A.2.word (256 * J.other + 1) from rfl, k1]; exact genOk_free_right _)⟩
      · rw [if_pos (by rw [a1]; simp), a1, a3]
        exact Or.inr ⟨rfl, rfl, oL.trans (.off _ _ _), rfl, by rw [← oL.armed]; exact a2, Or.inr (by rw [show ({ L.2.1 with off := true } : Fl).word (256 * J.other) = L.2.1.word (256 * J.other) from rfl, f0]; exact genOk_free_left _)⟩
    · rw [if_pos (by rw [g2]; simp), g2]
      exact Or.inr ⟨rfl, rfl, oL, g3, by rw [← oE.armed]; exact g4, Or.inr (by simp only; rw [f0]; exact genOk_free_left _)⟩
  · rw [if_pos (by rw [h2]; simp), h2]
    refine Or.inr ⟨rfl, rfl, oE, h3, h4, ?_⟩
    simp only
    by_cases hm0 : m = 0
    · subst hm0
      exact Or.inl ⟨hE.out _ (Or.inr (by simp)), hE.out _ (Or.inr (by simp))⟩
    · have : E.2.word (256 * J.other) = W4.free := by simpa using hE.inn 0 W4.free (by rw [List.getElem?_replicate, if_pos (by omega)])
      rw [this]
      exact Or.inr (genOk_free_left _)
/-- the half that counts -/
theorem pick_facts {F : Fl} {A h X Y g : Nat} (hp : F.pickHalf A h = (X, Y, g, true)) : ((X = A ∧ Y = A + h) ∨ (X = A + h ∧ Y = A)) ∧ genOk (F.word (256 * X)) (F.word (256 * X + 1)) = true ∧ (F.word (256 * X)).num = g := by
  unfold Fl.pickHalf at hp
  split at hp
  · obtain ⟨rfl, h2⟩ := Prod.mk.inj hp
    obtain ⟨rfl, h3⟩ := Prod.mk.inj h2
    obtain ⟨rfl, h4⟩ := Prod.mk.inj h3
    exact ⟨Or.inr ⟨rfl, rfl⟩, h4, rfl⟩
  · obtain ⟨rfl, h2⟩ := Prod.mk.inj hp
    obtain ⟨rfl, h3⟩ := Prod.mk.inj h2
    obtain ⟨rfl, h4⟩ := Prod.mk.inj h3
    exact ⟨Or.inl ⟨rfl, rfl⟩, h4, rfl⟩
theorem pick_stay {F G : Fl} {A h X Y g : Nat} (hp : F.pickHalf A h = (X, Y, g, true)) (h0 : G.word (256 * X) = F.word (256 * X)) (h1 : G.word (256 * X + 1) = F.word (256 * X + 1))
    (h2 : (G.word (256 * Y) = F.word (256 * Y) ∧ G.word (256 * Y + 1) = F.word (256 * Y + 1)) ∨ genOk (G.word (256 * Y)) (G.word (256 * Y + 1)) = false) : G.pickHalf A h = (X, Y, g, true) := by
  obtain ⟨hxy, hok, hg⟩ := pick_facts hp
  rcases h2 with ⟨h2, h3⟩ | h2
  · rw [← hp]
    unfold Fl.pickHalf
    rcases hxy with ⟨rfl, rfl⟩ | ⟨rfl, rfl⟩
    · rw [h0, h1, h2, h3]
    · rw [h0, h1, h2, h3]
  · unfold Fl.pickHalf
    rcases hxy with ⟨rfl, rfl⟩ | ⟨rfl, rfl⟩
    · rw [h2, h0, h1, hok, if_neg (by simp), hg]
    · rw [h2, if_pos (by simp), h0, h1, hok, hg]
theorem pick_swap {G : Fl} {A h X Y g : Nat} (hxy : (X = A ∧ Y = A + h) ∨ (X = A + h ∧ Y = A)) (hX : (genOk (G.word (256 * X)) (G.word (256 * X + 1)) = false ∧ g = 0) ∨ (genOk (G.word (256 * X)) (G.word (256 * X + 1)) = true ∧ (G.word (256 * X)).num = g))
    (h0 : G.word (256 * Y) = W4.ofNum (nextGen g)) (h1 : G.word (256 * Y + 1) = W4.ofNum (4294967295 - nextGen g)) : G.pickHalf A h = (Y, X, nextGen g, true) := by
  have hgl : g < 4294967295 := by
    rcases hX with ⟨_, rfl⟩ | ⟨h2, h3⟩
    · omega
    · unfold genOk at h2
      have := (G.word (256 * X)).num_lt
      rw [h3] at h2 this
      simp at h2
      omega
  have hn := nextGen_ne g hgl
  have hl := nextGen_lt g
  have n0 : (G.word (256 * Y)).num = nextGen g := by rw [h0, W4.num_ofNum _ hl]
  have n1 : (G.word (256 * Y + 1)).num = 4294967295 - nextGen g := by rw [h1, W4.num_ofNum _ (by omega)]
  have hY : genOk (G.word (256 * Y)) (G.word (256 * Y + 1)) = true := by
    unfold genOk; rw [n0, n1]; simp [hn.1, hn.2]
  have hnew : newer g (nextGen g) = true := by
    unfold newer nextGen; simp only [decide_eq_true_eq]; split <;> omega
  have hold : newer (nextGen g) g = false := by
    unfold newer nextGen; simp only [decide_eq_false_iff_not]; split <;> omega
  unfold Fl.pickHalf
  rcases hxy with ⟨rfl, rfl⟩ | ⟨rfl, rfl⟩
  · rw [hY, n0]
    rcases hX with ⟨h2, _⟩ | ⟨h2, h3⟩
    · rw [h2, if_pos (by simp)]
    · rw [h2, h3, hnew, if_pos (by simp)]
  · rw [hY, n0]
    rcases hX with ⟨h2, _⟩ | ⟨h2, h3⟩
    · rw [h2, if_neg (by simp)]
    · rw [h2, h3, hold, if_neg (by simp)]
end Go.Proofs.YtdfgcenbkclpbaaDoor
namespace Go.Proofs.YtdfgcenbkclpbaaDoor
open Go.RowKit
set_option linter.unusedSimpArgs false
set_option linter.unusedVariables false
/-- how many words the records of the groups that live take -/
def liveP : List PSlot → Nat
  | [] => 0
  | x :: r => (if x.there && !x.marked then 2 + (x.b.length + 3) / 4 else 0) + liveP r
theorem liveWords_p (l : List Slot) : liveWords l = liveP (l.map Slot.p) := by
  induction l with
  | nil => rfl
  | cons x r ih => rw [List.map_cons, liveWords, liveP, ih]; rfl
theorem liveP_set (x : PSlot) : ∀ (l : List PSlot) (i : Nat), liveP (l.set i x) ≤ liveP l + (2 + (x.b.length + 3) / 4)
  | [], _ => by simp [liveP]
  | y :: l, 0 => by rw [List.set_cons_zero, liveP, liveP]; split <;> omega
  | y :: l, i + 1 => by rw [List.set_cons_succ, liveP, liveP]; have := liveP_set x l i; omega
theorem liveP_take (sl : List PSlot) (h : W4) (b : List UInt8) : liveP (takeRec sl h b) ≤ liveP sl + (2 + (b.length + 3) / 4) := by
  unfold takeRec
  split
  · omega
  · split
    · exact liveP_set _ _ _
    · split
      · have := liveP_set ⟨false, false, []⟩ sl h.a.toNat
        have e : ([] : List UInt8).length = 0 := rfl
        simp only [e] at this
        omega
      · omega
theorem Fl.parse_room {F : Fl} {base size : Nat} (hs : base + size ≤ F.mem.length) : ∀ at_ sl, at_ ≤ size → liveP (F.parse base size at_ sl).2 + at_ ≤ (F.parse base size at_ sl).1 + liveP sl := by
  refine Fl.parse_ind (F := F) (base := base) (size := size) (fun at_ sl h h1 => ?_) (fun at_ sl h1 h2 h3 _ => ?_) (fun at_ sl h1 h2 h3 ih _ => ?_)
  · rw [Fl.parse_end sl h]; simp only; omega
  · rw [Fl.parse_over sl h1 h2 h3]; simp only; omega
  · rw [Fl.parse_next sl h1 h2 h3]
    have ih := ih h3
    have ht := liveP_take sl (F.recHead base at_ (F.word (base + at_))) (F.recBytes base at_ (F.word (base + at_)))
    rw [Fl.recBytes_length _ _ _ _ (by omega)] at ht
    have hn : recNext (F.word (base + at_)) at_ = at_ + 2 + (recLen (F.word (base + at_)) + 3) / 4 := rfl
    omega
theorem open1_open1 (x : PSlot) : x.open1.open1 = x.open1 := by
  unfold PSlot.open1
  split
  · rename_i h; simp [h]
  · simp
theorem opened_opened (l : List PSlot) : opened (opened l) = opened l := by
  unfold opened; rw [List.map_map]; congr 1; funext x; exact open1_open1 x
theorem opened_set (l : List PSlot) (i : Nat) (x : PSlot) : opened (l.set i x) = (opened l).set i x.open1 := by unfold opened; rw [List.map_set]
theorem opened_length (l : List PSlot) : (opened l).length = l.length := List.length_map ..
theorem opened_take {sl : List PSlot} (ho : opened sl = sl) (h : W4) (b : List UInt8) : opened (takeRec sl h b) = takeRec sl h b := by
  unfold takeRec
  split
  · exact ho
  · split
    · rw [opened_set, ho]; rfl
    · split
      · rw [opened_set, ho]; rfl
      · exact ho
theorem Fl.parse_opened {F : Fl} {base size : Nat} : ∀ at_ sl, opened sl = sl → opened (F.parse base size at_ sl).2 = (F.parse base size at_ sl).2 := by
  refine Fl.parse_ind (F := F) (base := base) (size := size) (fun at_ sl h h1 => ?_) (fun at_ sl h1 h2 h3 ho => ?_) (fun at_ sl h1 h2 h3 ih ho => ?_)
  · rw [Fl.parse_end sl h]; exact h1
  · rw [Fl.parse_over sl h1 h2 h3]; exact ho
  · rw [Fl.parse_next sl h1 h2 h3]; exact ih (opened_take ho _ _)
theorem opened_blanks : opened blanks = blanks := by decide
theorem liveP_blanks : liveP blanks = 0 := by decide
theorem Fl.readAll_opened {F : Fl} {first count e : Nat} {P : List PSlot} (h : F.readAll first count blanks = (e, P)) : opened P = P := by
  rw [Fl.readAll_eq] at h
  rw [← (Prod.mk.inj h).2]
  exact Fl.parse_opened _ _ opened_blanks
theorem Fl.readAll_room {F : Fl} {first count e : Nat} {P : List PSlot} (hs : 256 * first + 256 * count ≤ F.mem.length) (hp : 0 < count) (h : F.readAll first count blanks = (e, P)) : e ≤ 256 * count ∧ 2 + liveP P ≤ 256 * count := by
  have hg := Fl.parse_ge (F := F) (base := 256 * first) (size := 256 * count) 2 blanks (by omega)
  have hr := Fl.parse_room hs 2 blanks (by omega)
  rw [liveP_blanks] at hr
  rw [Fl.readAll_eq] at h
  obtain ⟨h1, h2⟩ := Prod.mk.inj h
  subst h2
  refine ⟨?_, by omega⟩
  split at h1 <;> omega
/-- a flash that holds a journal's groups -/
structure Holds (F : Fl) (A h X Y g n : Nat) (P : List PSlot) : Prop where
  pos : 0 < h
  fits : A + 2 * h ≤ F.count
  size : F.mem.length = 256 * F.count
  pick : F.pickHalf A h = (X, Y, g, true)
  read : F.readAll X h blanks = (n, P)
/-- a journal and its flash go together -/
structure Keeps (F : Fl) (A h : Nat) (J : Jn) : Prop where
  holds : Holds F A h J.first J.other J.gen J.next (opened (J.slots.map Slot.p))
  count : J.count = h
  sixteen : J.slots.length = 16
  small : ∀ x ∈ J.slots, x.b.length ≤ 4096
  room : 2 + liveWords J.slots ≤ 256 * h
theorem Holds.halves {F : Fl} {A h X Y g n : Nat} {P : List PSlot} (H : Holds F A h X Y g n P) : (X = A ∧ Y = A + h) ∨ (X = A + h ∧ Y = A) := (pick_facts H.pick).1
theorem Holds.xs {F : Fl} {A h X Y g n : Nat} {P : List PSlot} (H : Holds F A h X Y g n P) : X + h ≤ F.count := by have := H.fits; rcases H.halves with ⟨rfl, rfl⟩ | ⟨rfl, rfl⟩ <;> omega
theorem Holds.ys {F : Fl} {A h X Y g n : Nat} {P : List PSlot} (H : Holds F A h X Y g n P) : Y + h ≤ F.count := by have := H.fits; rcases H.halves with ⟨rfl, rfl⟩ | ⟨rfl, rfl⟩ <;> omega
theorem Holds.apart {F : Fl} {A h X Y g n : Nat} {P : List PSlot} (H : Holds F A h X Y g n P) : X + h ≤ Y ∨ Y + h ≤ X := by rcases H.halves with ⟨rfl, rfl⟩ | ⟨rfl, rfl⟩ <;> omega
theorem Keeps.ok {F : Fl} {A h : Nat} {J : Jn} (K : Keeps F A h J) : J.Ok F := by
  have H := K.holds
  have hsz := H.size
  have hx := H.xs
  have hr := (Fl.readAll_room (F := F) (by omega) H.pos H.read).1
  have hc := K.count
  exact ⟨by have := H.xs; omega, by have := H.ys; omega, by have := H.pos; omega, by rw [hc]; exact hr, by rw [hc]; exact K.room⟩
theorem Out.other {F G : Fl} {Y h : Nat} (o : Out F G Y h) {k : Nat} (hk : k < 256 * Y ∨ 256 * (Y + h) ≤ k) : G.word k = F.word k := o.out k hk
theorem Out.wide {F G : Fl} {a n A N : Nat} (o : Out F G a n) (h1 : A ≤ a) (h2 : a + n ≤ A + N) : Out F G A N := ⟨o.size, o.count, o.armed, fun i hi => o.out i (by omega)⟩
theorem Out.refl (F : Fl) (a n : Nat) : Out F F a n := ⟨rfl, rfl, rfl, fun _ _ => rfl⟩
/-- the other half is torn: what is held stays -/
theorem Holds.torn {F G : Fl} {A h X Y g n : Nat} {P : List PSlot} (H : Holds F A h X Y g n P) (o : Out F G Y h) (hg : (G.word (256 * Y) = F.word (256 * Y) ∧ G.word (256 * Y + 1) = F.word (256 * Y + 1)) ∨ genOk (G.word (256 * Y)) (G.word (256 * Y + 1)) = false) : Holds G A h X Y g n P := by
  have hp := H.pos
  have ha := H.apart
  have hx := H.xs
  have hs := H.size
  refine ⟨hp, by rw [o.count]; exact H.fits, by rw [o.size, o.count]; exact hs, pick_stay H.pick (o.out _ (by omega)) (o.out _ (by omega)) hg, ?_⟩
  rw [Fl.readAll_same (by omega) o.size (fun i hi hi2 => o.out _ (by omega))]
  exact H.read
/-- elsewhere something is written -/
theorem Holds.away {F G : Fl} {A h X Y g n : Nat} {P : List PSlot} (H : Holds F A h X Y g n P) (hs : G.mem.length = F.mem.length) (hc : G.count = F.count) (hw : ∀ i, 256 * A ≤ i → i < 256 * (A + 2 * h) → G.word i = F.word i) : Holds G A h X Y g n P := by
  have hp := H.pos
  have hx := H.halves
  have hf := H.fits
  have hsz := H.size
  refine ⟨hp, by rw [hc]; exact hf, by rw [hs, hc]; exact hsz, pick_stay H.pick (hw _ (by omega) (by omega)) (hw _ (by omega) (by omega)) (Or.inl ⟨hw _ (by omega) (by omega), hw _ (by omega) (by omega)⟩), ?_⟩
  rw [Fl.readAll_same (by omega) hs (fun i hi hi2 => hw _ (by omega) (by omega))]
  exact H.read
theorem Holds.written {F G : Fl} {A h X Y g n : Nat} {P : List PSlot} {e : Nat} {ws : List W4} {n' : Nat} {P' : List PSlot} (H : Holds F A h X Y g n P) (hW : Wrote F G (256 * X + e) ws) (h2 : 2 ≤ e) (he : e + ws.length ≤ 256 * h) (hr : G.readAll X h blanks = (n', P')) : Holds G A h X Y g n' P' := by
  have hp := H.pos
  have ha := H.apart
  exact ⟨hp, by rw [hW.count]; exact H.fits, by rw [hW.size, hW.count]; exact H.size, pick_stay H.pick (hW.out _ (by omega)) (hW.out _ (by omega)) (Or.inl ⟨hW.out _ (by omega), hW.out _ (by omega)⟩), hr⟩
/-- set did it, all of it -/
structure SetDone (F : Fl) (A h : Nat) (J : Jn) (i : Nat) (x : Slot) (G : Fl) (K : Jn) : Prop where
  keeps : Keeps G A h K
  slots : K.slots = J.slots.set i x
  cut : K.cut = false
  off : G.off = false
  out : Out F G A (2 * h)
/-- the power went amid it -/
structure SetCut (F : Fl) (A h : Nat) (J : Jn) (G : Fl) (K : Jn) : Prop where
  holds : ∃ n, Holds G A h J.first J.other J.gen n (opened (J.slots.map Slot.p))
  armed : F.armed = true
  slots : K.slots = J.slots
  cut : K.cut = true
  off : G.off = true
  out : Out F G A (2 * h)
  same : K.count = J.count
theorem set_back {α : Type} (l : List α) (i : Nat) (x : α) (hi : i < l.length) : (l.set i x).set i (l.getD i x) = l := by
  rw [List.set_set, List.getD_eq_getElem?_getD, List.getElem?_eq_getElem hi]
  exact List.set_getElem_self hi
theorem set_does {F : Fl} {A h : Nat} {J : Jn} {i : Nat} {x : Slot} (K : Keeps F A h J) (hc : J.cut = false) (ho : F.off = false) (hi : i < 16) (ht : x.there = true) (hb : x.b.length ≤ 4096) :
    ((J.set F i x).1 = 60 ∧ (J.set F i x).2 = (F, J) ∧ x.live = true ∧ J.fits i x.b.length = false) ∨
    ((J.set F i x).1 = 0 ∧ (x.live = true → J.fits i x.b.length = true) ∧ SetDone F A h J i x (J.set F i x).2.1 (J.set F i x).2.2) ∨
    ((J.set F i x).1 = 7 ∧ (x.live = true → J.fits i x.b.length = true) ∧ SetCut F A h J (J.set F i x).2.1 (J.set F i x).2.2) := by
  by_cases hf : x.live = true ∧ J.fits i x.b.length = false
  · refine Or.inl ⟨?_, ?_, hf.1, hf.2⟩ <;> · unfold Jn.set; rw [if_neg (by simp [hc, ho]), if_pos (by simp [hf.1, hf.2])]
  · have hf' : x.live = true → J.fits i x.b.length = true := fun hl => by
      cases e : J.fits i x.b.length with
      | true => rfl
      | false => exact absurd ⟨hl, e⟩ hf
    refine Or.inr ?_
    have H := K.holds
    have hcnt := K.count
    have h16 := K.sixteen
    have hxs := H.xs
    have hys := H.ys
    have hsz := H.size
    have hhalf := H.halves
    have hbody := x.head_len i hb
    have hOk := K.ok
    have hsm : ∀ y ∈ J.slots.set i x, y.b.length ≤ 4096 := fun y hy => by
      rcases List.mem_or_eq_of_mem_set hy with hy | rfl
      · exact K.small y hy
      · exact hb
    have hroom : 2 + liveWords (J.slots.set i x) ≤ 256 * h := by rw [← hcnt]; exact liveWords_set hOk h16 hi hf'
    have hop : opened ((J.slots.set i x).map Slot.p) = (opened (J.slots.map Slot.p)).set i x.p.open1 := by rw [map_p_set, opened_set]
    by_cases hfit : J.next + (x.words i).length ≤ 256 * J.count
    · rw [Jn.set_fit hc ho hf' hfit]
      rw [Slot.words_eq] at hfit ⊢
      have hlen := recWords_length (x.head i) x.body
      have h2 := Fl.readAll_ge H.pos H.read
      have hfree := (Fl.readAll_free (by omega) H.read (by omega)).2
      obtain ⟨m, hm, hW, hd⟩ := Fl.writes_free (recWords (x.head i) x.body) (F := F) (k := 256 * J.first + J.next) (fun k hk => by rw [Nat.add_assoc]; exact hfree _ (by omega) (by omega)) (by omega) ho
      generalize F.writes (256 * J.first + J.next) (recWords (x.head i) x.body) = R at *
      have hO : Out F R.2 A (2 * h) := hW.toOut (by omega) (by rw [List.length_take]; omega)
      rcases hd with ⟨rfl, h3, h4⟩ | ⟨h3, h4, h5, h6⟩
      · rw [if_pos h3]
        rw [List.take_length] at hW
        refine Or.inl ⟨rfl, hf', ⟨?_, hcnt, by simpa using h16, hsm, hroom⟩, rfl, hc, h4, hO⟩
        have hr := Fl.readAll_more (by omega) H.read (x.head_free i) hbody (by omega) hW
        rw [Slot.take _ _ hi x ht hb, ← hop] at hr
        exact H.written hW h2 (by omega) hr
      · rw [if_neg (by rw [h4]; decide), h4]
        refine Or.inr ⟨rfl, hf', ?_, h6, set_back _ _ _ (by omega), rfl, h5, hO, rfl⟩
        obtain ⟨e', hr⟩ := Fl.readAll_torn (by omega) H.read (x.head_free i) hbody (by omega) h3 hW
        exact ⟨e', H.written hW h2 (by rw [List.length_take]; omega) hr⟩
    · rw [Jn.set_turn rfl hc ho hf' hfit]
      have hT := turn_does (J := { J with slots := J.slots.set i x }) (F := F) hsz (by simp only; omega) hOk.pos (by simpa using h16) hsm (by simp only; omega) ho
      generalize Jn.turn { J with slots := J.slots.set i x } F = R at *
      rcases hT with ⟨h1, h2, h3⟩ | ⟨h1, h2, h3⟩
      · rw [if_pos h1, h2]
        have hE := h3.else_
        have hap := H.apart
        simp only at hE
        rw [hcnt] at hE
        refine Or.inl ⟨rfl, hf', ⟨⟨H.pos, by simp only; rw [hE.count]; exact H.fits, by simp only; rw [hE.size, hE.count]; exact hsz, ?_, ?_⟩, hcnt, by simpa using h16, hsm, hroom⟩, rfl, hc, h3.off, hE.wide (by omega) (by omega)⟩
        · refine pick_swap hhalf ?_ h3.g0 h3.g1
          obtain ⟨_, p1, p2⟩ := pick_facts H.pick
          have hp := H.pos
          simp only
          rw [hE.out (256 * J.first) (by omega), hE.out (256 * J.first + 1) (by omega)]
          exact Or.inr ⟨p1, p2⟩
        · have := h3.read
          simp only at this
          rw [hcnt] at this
          exact this
      · rw [if_neg (by rw [h1]; decide), h1, h2]
        have hE := h3.else_
        simp only at hE
        rw [hcnt] at hE
        exact Or.inr ⟨rfl, hf', ⟨J.next, H.torn hE h3.gen⟩, h3.armed, set_back _ _ _ (by omega), rfl, h3.off, hE.wide (by omega) (by omega), rfl⟩
end Go.Proofs.YtdfgcenbkclpbaaDoor
namespace Go.Proofs.YtdfgcenbkclpbaaDoor
open Go.RowKit
set_option linter.unusedSimpArgs false
set_option linter.unusedVariables false
theorem pick_none {F : Fl} {A h : Nat} (hp : (F.pickHalf A h).2.2.2 = false) : genOk (F.word (256 * A)) (F.word (256 * A + 1)) = false ∧ genOk (F.word (256 * (A + h))) (F.word (256 * (A + h) + 1)) = false ∧ (F.pickHalf A h).1 = A + h ∧ (F.pickHalf A h).2.1 = A := by
  unfold Fl.pickHalf at *
  cases h1 : genOk (F.word (256 * A)) (F.word (256 * A + 1)) with
  | false =>
    rw [h1, if_pos (by simp)] at hp
    rw [if_pos (by simp)]
    exact ⟨rfl, hp, rfl, rfl⟩
  | true =>
    rw [h1] at hp
    split at hp
    · rename_i h2
      have h2 : genOk (F.word (256 * (A + h))) (F.word (256 * (A + h) + 1)) = true ∧ newer (F.word (256 * A)).num (F.word (256 * (A + h))).num = true := by simpa using h2
      rw [h2.1] at hp; cases hp
    · cases hp
theorem pick_none' {F : Fl} {A h : Nat} (h1 : genOk (F.word (256 * A)) (F.word (256 * A + 1)) = false) (h2 : genOk (F.word (256 * (A + h))) (F.word (256 * (A + h) + 1)) = false) : (F.pickHalf A h).2.2.2 = false := by
  unfold Fl.pickHalf
  rw [h1, if_pos (by simp)]
  exact h2
/-- a journal was opened -/
structure Opened (w : World) (f s : Nat) (A h : Nat) (j : Nat) (K : Jn) (G : Fl) (w' : World) : Prop where
  fresh : w.heap.size ≤ j
  jn : JnAt w' j f s K
  keeps : Keeps G A h K
  cut : K.cut = false
  flash : FlashAt w' f s G
  off : G.off = false
/-- what Open comes to on any flash that has power -/
def OpenAny (w : World) (f s : Nat) (F : Fl) (A h : Nat) (e : Ending) (w' : World) : Prop :=
  (∃ j K, e = .returned (.tuple #[ptr j, .int .i64 0]) ∧ Opened w f s A h j K F w' ∧ F.pickHalf A h = (K.first, K.other, K.gen, true) ∧ (K.next, K.slots.map Slot.p) = F.readAll K.first h blanks ∧ Touch [] w w') ∨
  (∃ j K G, e = .returned (.tuple #[ptr j, .int .i64 0]) ∧ Opened w f s A h j K G w' ∧ (F.pickHalf A h).2.2.2 = false ∧ K.slots.map Slot.p = blanks ∧ Out F G A (2 * h) ∧ Touch [f, s] w w') ∨
  (∃ G, e = .returned (.tuple #[.pointer none, .int .i64 7]) ∧ FlashAt w' f s G ∧ G.off = true ∧ F.armed = true ∧ Out F G A (2 * h) ∧ (F.pickHalf A h).2.2.2 = false ∧ (G.pickHalf A h).2.2.2 = false ∧ Touch [f, s] w w')
theorem Keeps.of_read {F : Fl} {A h X Y g n : Nat} {K : Jn} (hp : 0 < h) (hc : A + 2 * h ≤ F.count) (hs : F.mem.length = 256 * F.count) (hk : F.pickHalf A h = (K.first, K.other, K.gen, true)) (hr : (K.next, K.slots.map Slot.p) = F.readAll K.first h blanks) (h1 : K.count = h) (h16 : K.slots.length = 16) (hb : ∀ x ∈ K.slots, x.b.length ≤ 4096) : Keeps F A h K := by
  have ho := Fl.readAll_opened hr.symm
  have hx := (pick_facts hk).1
  have hroom := (Fl.readAll_room (F := F) (by omega) hp hr.symm).2
  refine ⟨⟨hp, hc, hs, hk, ?_⟩, h1, h16, hb, ?_⟩
  · rw [ho, hr]
  · rw [liveWords_p]; exact hroom
theorem fresh_p (a b h g : Nat) : (Jn.fresh a b h g).slots.map Slot.p = blanks := rfl
theorem open_reads {w w' : World} {f s : Nat} {F : Fl} {A h : Nat} {e : Ending} (hp : 0 < h) (hfit : A + 2 * h ≤ F.count) (hs : F.mem.length = 256 * F.count) (ho : F.off = false) {a b g : Nat} {c : Bool} (hpk : F.pickHalf A h = (a, b, g, c)) (hok : c = true) (hd : OpenRead w f s F a b h g e w') : OpenAny w f s F A h e w' := by
  obtain ⟨K, j, rfl, hj, hJ, hsame, hr, hF', ht⟩ := hd
  subst hok
  have k1 : K.first = a := hsame.first
  have k2 : K.other = b := hsame.other
  have k3 : K.gen = g := hsame.gen
  have k4 : K.count = h := hsame.count
  have k5 : K.cut = false := hsame.cut
  clear hsame
  refine Or.inl ⟨j, K, rfl, ?_⟩
  rw [← k1, ← k2, ← k3] at hpk
  rw [← k1] at hr
  exact ⟨⟨hj, hJ, .of_read (X := 0) (Y := 0) (g := 0) (n := 0) hp hfit hs hpk hr k4 hJ.sixteen (fun x hx => (hJ.slots x hx).2.1), k5, hF', ho⟩, hpk, hr, ht⟩
theorem liveWords_fresh (a b h g : Nat) : liveWords (Jn.fresh a b h g).slots = 0 := liveWords_blank
theorem fresh_small (a b h g : Nat) : ∀ x ∈ (Jn.fresh a b h g).slots, x.b.length ≤ 4096 := fun x hx => by
  have : x = blankSlot := List.eq_of_mem_replicate hx
  subst this; simp [blankSlot]
theorem open_turns {w w' : World} {f s : Nat} {F : Fl} {A h : Nat} {e : Ending} (hp : 0 < h) (hfit : A + 2 * h ≤ F.count) (hs : F.mem.length = 256 * F.count) (ho : F.off = false) (hok : (F.pickHalf A h).2.2.2 = false) (n1 : genOk (F.word (256 * A)) (F.word (256 * A + 1)) = false) {B : Nat} (hB : B = A + h)
    (n2 : genOk (F.word (256 * B)) (F.word (256 * B + 1)) = false) (hd : OpenTurn w f s F A B h e w') : OpenAny w f s F A h e w' := by
  have hlw := liveWords_fresh A B h 0
  have hsm := fresh_small A B h 0
  have k1 : (Jn.fresh A B h 0).first = A := rfl
  have k2 : (Jn.fresh A B h 0).other = B := rfl
  have k3 : (Jn.fresh A B h 0).gen = 0 := rfl
  have k4 : (Jn.fresh A B h 0).count = h := rfl
  have k5 : (Jn.fresh A B h 0).cut = false := rfl
  have k6 : (Jn.fresh A B h 0).slots.length = 16 := rfl
  have k7 := fresh_p A B h 0
  unfold OpenTurn at hd
  generalize Jn.fresh A B h 0 = J at *
  have hT := turn_does (J := J) (F := F) hs (by rw [k2, k4]; omega) (by rw [k4]; exact hp) k6 hsm (by rw [hlw, k4]; omega) ho
  generalize J.turn F = R at *
  rcases hd with ⟨h0, j, rfl, hj, hJ, hF', ht⟩ | ⟨h0, rfl, hF', ht⟩
  · rcases hT with ⟨_, e2, hT⟩ | ⟨e1, _, _⟩
    · refine Or.inr (Or.inl ⟨j, R.2.2, R.2.1, rfl, ?_⟩)
      have hE := hT.else_
      have hg0 := hT.g0
      have hg1 := hT.g1
      have hrd := hT.read
      have hoff := hT.off
      generalize R.2.1 = G at *
      generalize R.2.2 = K at *
      subst e2
      rw [k2, k4] at hE
      rw [k2] at hg0 hg1
      have hO : Out F G A (2 * h) := hE.wide (by omega) (by omega)
      have hpick : G.pickHalf A h = (B, A, nextGen J.gen, true) := by
        refine pick_swap (Or.inl ⟨rfl, hB⟩) (Or.inl ⟨?_, k3⟩) hg0 hg1
        rw [hE.out (256 * A) (by omega), hE.out (256 * A + 1) (by omega)]
        exact n1
      have hK : Keeps G A h { J with first := J.other, other := J.first, gen := nextGen J.gen, next := 2 + liveWords J.slots } := by
        refine ⟨⟨hp, by rw [hE.count]; exact hfit, by rw [hE.size, hE.count]; exact hs, ?_, ?_⟩, k4, k6, hsm, ?_⟩
        · simp only; rw [k1, k2]; exact hpick
        · rw [k4] at hrd; exact hrd
        · simp only; rw [hlw]; omega
      exact ⟨⟨hj, hJ, hK, k5, hF', hoff⟩, hok, k7, hO, ht⟩
    · rw [h0] at e1; cases e1
  · rcases hT with ⟨e1, _, _⟩ | ⟨e1, _, hT⟩
    · exact absurd e1 h0
    · rw [e1]
      have hE := hT.else_
      have hgen := hT.gen
      have hoff := hT.off
      have harm := hT.armed
      generalize R.2.1 = G at *
      rw [k2, k4] at hE
      rw [k2] at hgen
      have hO : Out F G A (2 * h) := hE.wide (by omega) (by omega)
      have hn : (G.pickHalf A h).2.2.2 = false := by
        refine pick_none' ?_ ?_
        · rw [hE.out (256 * A) (by omega), hE.out (256 * A + 1) (by omega)]
          exact n1
        · rw [← hB]
          rcases hgen with ⟨g0, g1⟩ | g
          · rw [g0, g1]; exact n2
          · exact g
      exact Or.inr (Or.inr ⟨G, rfl, hF', hoff, harm, hO, hok, hn, ht⟩)
theorem eta4 (p : Nat × Nat × Nat × Bool) : p = (p.1, p.2.1, p.2.2.1, p.2.2.2) := rfl
theorem open_any (w : World) (f s : Nat) (F : Fl) (A count : Nat) (hF : FlashAt w f s F) (ho : F.off = false) (hg : w.rangeAt 0 0 W4.free.cells) (hz : f ≠ 0 ∧ s ≠ 0) (h2 : 2 ≤ count) (hc : A + count ≤ F.count) :
    Calls Tryd.prog 11 #[ptr f, .int .i64 A, .int .i64 count] w (OpenAny w f s F A (count / 2)) := by
  refine (open_ok w f s F A count hF ho hg hz h2 hc).mono ?_
  intro e w' hd
  obtain ⟨h, hh⟩ : ∃ h, count / 2 = h := ⟨_, rfl⟩
  rw [hh] at hd ⊢
  have hp : 0 < h := by omega
  have hfit : A + 2 * h ≤ F.count := by omega
  have hs := hF.size
  rcases hd with ⟨hok, hd⟩ | ⟨hok, hd⟩
  · exact open_reads hp hfit hs ho (eta4 _) hok hd
  · obtain ⟨n1, n2, n3, n4⟩ := pick_none hok
    rw [n3, n4] at hd
    exact open_turns hp hfit hs ho hok n1 rfl n2 hd
/-- what is held is opened -/
theorem open_held (w : World) (f s : Nat) (F : Fl) (A count X Y g n : Nat) (P : List PSlot) (H : Holds F A (count / 2) X Y g n P) (hF : FlashAt w f s F) (ho : F.off = false) (hg : w.rangeAt 0 0 W4.free.cells) (hz : f ≠ 0 ∧ s ≠ 0) (h2 : 2 ≤ count) (hc : A + count ≤ F.count) :
    Calls Tryd.prog 11 #[ptr f, .int .i64 A, .int .i64 count] w fun e w' => ∃ j K, e = .returned (.tuple #[ptr j, .int .i64 0]) ∧ Opened w f s A (count / 2) j K F w' ∧ K.slots.map Slot.p = P ∧ Touch [] w w' := by
  refine (open_any w f s F A count hF ho hg hz h2 hc).mono ?_
  rintro e w' (⟨j, K, rfl, hO, hk, hr, ht⟩ | ⟨j, K, G, rfl, hO, hk, _⟩ | ⟨G, rfl, _, _, _, _, hk, _⟩)
  · refine ⟨j, K, rfl, hO, ?_, ht⟩
    have hX : K.first = X := by have := hk.symm.trans H.pick; exact (Prod.mk.inj this).1
    rw [hX, H.read] at hr
    exact (Prod.mk.inj hr).2
  · rw [H.pick] at hk; cases hk
  · rw [H.pick] at hk; cases hk
end Go.Proofs.YtdfgcenbkclpbaaDoor
namespace Go.Proofs.YtdfgcenbkclpbaaDoor
open Go.RowKit
set_option linter.unusedSimpArgs false
set_option linter.unusedVariables false
/-- does the group k count, where i is written anew? -/
def PSlot.counts (x : PSlot) (k i : Nat) : Bool := k != i && x.there && !x.marked
def usedP (l : List PSlot) (i : Nat) : Nat → Nat
  | 0 => 0
  | k + 1 => usedP l i k + (match l[k]? with | some x => if x.counts k i then room x.b.length else 0 | none => 0)
def fitsP (M : List PSlot) (h i n : Nat) : Bool := decide (16 + room n + usedP M i 16 ≤ 1024 * h)
def refRoom (M : List PSlot) (count i n : Nat) : Bool := fitsP M (count / 2) i n
theorem usedP_le (l : List PSlot) (i : Nat) (h : ∀ x ∈ l, x.b.length ≤ 4096) : ∀ k, usedP l i k ≤ 4111 * k
  | 0 => by simp [usedP]
  | k + 1 => by
    have := usedP_le l i h k
    unfold usedP
    split
    · rename_i x hx
      have := room_le (h x (List.mem_of_getElem? hx))
      split <;> omega
    · omega
theorem usedUpto_p (l : List Slot) (i : Nat) : ∀ k, usedUpto l i k = usedP (l.map Slot.p) i k
  | 0 => rfl
  | k + 1 => by
    unfold usedUpto usedP
    rw [usedUpto_p l i k, List.getElem?_map]
    cases l[k]? with
    | none => rfl
    | some x => rfl
theorem fits_p {J : Jn} {h : Nat} (hc : J.count = h) (i n : Nat) : J.fits i n = fitsP (J.slots.map Slot.p) h i n := by
  unfold Jn.fits fitsP; rw [usedUpto_p, hc]
/-- what the document's journal does: Store -/
def refStore (P : List PSlot) (h i : Nat) (b : List UInt8) : Int × List PSlot :=
  if 16 ≤ i then (62, P) else if 4096 < b.length then (3, P) else if fitsP P h i b.length = false then (60, P) else (0, P.set i ⟨true, false, b⟩)
/-- Restore -/
def refRestore (P : List PSlot) (i : Nat) : Int × List PSlot :=
  if 16 ≤ i then (62, P) else
  match P[i]? with
  | none => (0, P)
  | some x => if x.there = false then (5, P) else (0, P.set i { x with marked := true })
/-- a call was done: the groups are P then -/
structure Did (F : Fl) (A h : Nat) (P : List PSlot) (G : Fl) (K : Jn) : Prop where
  keeps : Keeps G A h K
  slots : K.slots.map Slot.p = P
  cut : K.cut = false
  off : G.off = false
  out : Out F G A (2 * h)
/-- the bytes of a journal's groups lie where they lay, or where nothing lay -/
def FreshOr (w : World) (J K : Jn) : Prop := ∀ x ∈ K.slots, ∀ y, x.a = some y → (∃ z ∈ J.slots, z.a = some y ∧ z.b = x.b) ∨ w.heap.size ≤ y.block
theorem FreshOr.self (w : World) (J : Jn) : FreshOr w J J := fun x hx y hy => Or.inl ⟨x, hx, hy, rfl⟩
theorem FreshOr.of_slots {w : World} {J K : Jn} (h : K.slots = J.slots) : FreshOr w J K := fun x hx y hy => Or.inl ⟨x, h ▸ hx, hy, rfl⟩
theorem FreshOr.of_set {w : World} {J K : Jn} {i : Nat} {u : Slot} (h : K.slots = J.slots.set i u) (hu : ∀ y, u.a = some y → (∃ z ∈ J.slots, z.a = some y ∧ z.b = u.b) ∨ w.heap.size ≤ y.block) : FreshOr w J K := fun x hx y hy => by
  rw [h] at hx
  rcases List.mem_or_eq_of_mem_set hx with hx | rfl
  · exact Or.inl ⟨x, hx, hy, rfl⟩
  · exact hu y hy
theorem FreshOr.to {w w1 : World} {J K : Jn} (h : FreshOr w1 J K) (hs : w.heap.size ≤ w1.heap.size) : FreshOr w J K := fun x hx y hy => (h x hx y hy).imp id (Nat.le_trans hs)
/-- what a call comes to, where the document's answer is r -/
def Answer (w : World) (j f s : Nat) (F : Fl) (A h : Nat) (J : Jn) (r : Int × List PSlot) (e : Ending) (w' : World) : Prop :=
  ∃ code G K, e = .returned (.int .i64 code) ∧ FlashAt w' f s G ∧ JnAt w' j f s K ∧ Touch [f, s, j] w w' ∧ FreshOr w J K ∧ ((code = r.1 ∧ Did F A h r.2 G K) ∨ (code = 7 ∧ r.1 = 0 ∧ SetCut F A h J G K))
theorem Keeps.did {F : Fl} {A h : Nat} {J : Jn} (K : Keeps F A h J) (hc : J.cut = false) (ho : F.off = false) : Did F A h (J.slots.map Slot.p) F J := ⟨K, rfl, hc, ho, .refl _ _ _⟩
theorem store_does (w : World) (j f s : Nat) (J : Jn) (F : Fl) (A h i : Nat) (b : List UInt8) (a : Option Addr) (c : Nat) (hJ : JnAt w j f s J) (hF : FlashAt w f s F) (hi : i < 256) (hc : J.cut = false) (ho : F.off = false)
    (hb : b.length ≤ 140737488355328) (hA : SliceAt w a (b.map u8v)) (hnil : a = none → b.length = 0 ∧ c = 0) (hk : Keeps F A h J) :
    Calls Tryd.prog 13 #[ptr j, .int .u8 i, .slice a b.length c] w (Answer w j f s F A h J (refStore (J.slots.map Slot.p) h i b)) := by
  refine (store_any w j f s J F i b a c hJ hF hi (fun _ => ho) hb hA hnil hk.ok).mono ?_
  rintro e w' ⟨a', c', hfr, rfl, hG, hK, ht⟩
  refine ⟨_, _, _, rfl, hG, hK, ht, ?_⟩
  clear hG hK ht
  unfold Jn.store refStore
  by_cases h1 : 16 ≤ i
  · rw [if_pos h1, if_pos h1]; exact ⟨.self _ _, Or.inl ⟨rfl, hk.did hc ho⟩⟩
  · rw [if_neg h1, if_neg h1]
    by_cases h2 : 4096 < b.length
    · rw [if_pos h2, if_pos h2]; exact ⟨.self _ _, Or.inl ⟨rfl, hk.did hc ho⟩⟩
    · rw [if_neg h2, if_neg h2]
      have hfp := fits_p hk.count i b.length
      rcases set_does (i := i) (x := ⟨true, false, b, a', c'⟩) hk hc ho (by omega) rfl (by simp only; omega) with ⟨e1, e2, _, e4⟩ | ⟨e1, e2, e3⟩ | ⟨e1, e2, e3⟩
      · have e4 : J.fits i b.length = false := e4
        rw [e1, e2, ← hfp, e4, if_pos rfl]
        exact ⟨.self _ _, Or.inl ⟨rfl, hk.did hc ho⟩⟩
      · have e2 : J.fits i b.length = true := e2 rfl
        rw [← hfp, e2, if_neg (by simp)]
        refine ⟨.of_set e3.slots (fun y hy => Or.inr (hfr y hy)), Or.inl ⟨e1, e3.keeps, ?_, e3.cut, e3.off, e3.out⟩⟩
        rw [e3.slots, map_p_set]; rfl
      · have e2 : J.fits i b.length = true := e2 rfl
        rw [← hfp, e2, if_neg (by simp)]
        exact ⟨.of_slots e3.slots, Or.inr ⟨e1, rfl, e3⟩⟩
theorem restore_does (w : World) (j f s : Nat) (J : Jn) (F : Fl) (A h i : Nat) (hJ : JnAt w j f s J) (hF : FlashAt w f s F) (hi : i < 256) (hc : J.cut = false) (ho : F.off = false) (hk : Keeps F A h J) :
    Calls Tryd.prog 22 #[ptr j, .int .u8 i] w (Answer w j f s F A h J (refRestore (J.slots.map Slot.p) i)) := by
  refine (restore_any w j f s J F i hJ hF hi (fun _ => ho) hk.ok).mono ?_
  rintro e w' ⟨rfl, hG, hK, ht⟩
  refine ⟨_, _, _, rfl, hG, hK, ht, ?_⟩
  clear hG hK ht
  unfold Jn.restore refRestore
  by_cases h1 : 16 ≤ i
  · rw [if_pos h1, if_pos h1]; exact ⟨.self _ _, Or.inl ⟨rfl, hk.did hc ho⟩⟩
  · rw [if_neg h1, if_neg h1, if_neg (by rw [hc]; simp), List.getElem?_map]
    cases hx : J.slots[i]? with
    | none => exact ⟨.self _ _, Or.inl ⟨rfl, hk.did hc ho⟩⟩
    | some x =>
      simp only [Option.map_some]
      by_cases h2 : x.there = false
      · rw [if_pos h2, if_pos (show x.p.there = false from h2)]; exact ⟨.self _ _, Or.inl ⟨rfl, hk.did hc ho⟩⟩
      · rw [if_neg h2, if_neg (show ¬ x.p.there = false from h2)]
        by_cases h3 : x.marked = true
        · rw [if_pos h3]
          have e : (J.slots.map Slot.p).set i { x.p with marked := true } = J.slots.map Slot.p := by
            have hp : (J.slots.map Slot.p)[i]? = some x.p := by rw [List.getElem?_map, hx]; rfl
            have hi2 := (List.getElem?_eq_some_iff.1 hp).1
            rw [show ({ x.p with marked := true } : PSlot) = (J.slots.map Slot.p)[i] by
              rw [(List.getElem?_eq_some_iff.1 hp).2]; unfold Slot.p; rw [h3]]
            exact List.set_getElem_self hi2
          rw [e]
          exact ⟨.self _ _, Or.inl ⟨rfl, hk.did hc ho⟩⟩
        · rw [if_neg h3]
          have hb := hk.small x (List.mem_of_getElem? hx)
          rcases set_does (i := i) (x := { x with marked := true }) hk hc ho (by omega) (by simpa using h2) hb with ⟨_, _, e3, _⟩ | ⟨e1, _, e3⟩ | ⟨e1, _, e3⟩
          · simp [Slot.live] at e3
          · refine ⟨.of_set e3.slots (fun y hy => Or.inl ⟨x, List.mem_of_getElem? hx, hy, rfl⟩), Or.inl ⟨e1, e3.keeps, ?_, e3.cut, e3.off, e3.out⟩⟩
            rw [e3.slots, map_p_set]; rfl
          · exact ⟨.of_slots e3.slots, Or.inr ⟨e1, rfl, e3⟩⟩
end Go.Proofs.YtdfgcenbkclpbaaDoor
