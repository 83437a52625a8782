/- What stands in a flash's words behind steps: plain. -/
import Derived.Test.YtdfgcenbkclpbaaDoorFlashR
namespace Go.Proofs.YtdfgcenbkclpbaaDoor
open Go.RowKit
set_option linter.unusedSimpArgs false
set_option linter.unusedVariables false
theorem Fl.word_at (F : Fl) {k : Nat} (hk : k < F.mem.length) : F.mem[k]? = some (F.word k) := by
  unfold Fl.word; rw [List.getD_eq_getElem?_getD, List.getElem?_eq_getElem hk]; rfl
theorem Fl.word_of {F : Fl} {k : Nat} {x : W4} (h : F.mem[k]? = some x) : F.word k = x := by
  unfold Fl.word; rw [List.getD_eq_getElem?_getD, h]; rfl
/-- G is F, where ws is written from word k on -/
structure Wrote (F G : Fl) (k : Nat) (ws : List W4) : Prop where
  size : G.mem.length = F.mem.length
  count : G.count = F.count
  armed : G.armed = F.armed
  inn : ∀ i y, ws[i]? = some y → G.word (k + i) = y
  out : ∀ i, i < k ∨ k + ws.length ≤ i → G.word i = F.word i
theorem Wrote.none {F G : Fl} (k : Nat) (h1 : G.mem = F.mem) (h2 : G.count = F.count) (h3 : G.armed = F.armed) : Wrote F G k [] :=
  ⟨by rw [h1], h2, h3, fun i y h => by simp at h, fun i _ => by unfold Fl.word; rw [h1]⟩
theorem Wrote.trans {F M G : Fl} {k : Nat} {a b : List W4} (h1 : Wrote F M k a) (h2 : Wrote M G (k + a.length) b) : Wrote F G k (a ++ b) := by
  refine ⟨h2.size.trans h1.size, h2.count.trans h1.count, h2.armed.trans h1.armed, fun i y hy => ?_, fun i hi => ?_⟩
  · by_cases h : i < a.length
    · rw [List.getElem?_append_left h] at hy
      rw [h2.out _ (Or.inl (by omega))]; exact h1.inn i y hy
    · rw [List.getElem?_append_right (by omega)] at hy
      have := h2.inn _ y hy
      rwa [show k + a.length + (i - a.length) = k + i by omega] at this
  · rw [List.length_append] at hi
    rw [h2.out i (by omega), h1.out i (by omega)]
theorem u8_and_full (y : UInt8) : (255 : UInt8) &&& y = y := by
  apply UInt8.toNat_inj.1
  rw [UInt8.toNat_and, show (255 : UInt8).toNat = 2 ^ 8 - 1 from rfl, Nat.and_comm, Nat.and_two_pow_sub_one_eq_mod, Nat.mod_eq_of_lt y.toNat_lt]
theorem W4.free_falls (y : W4) : W4.free.falls y = true := by simp [W4.falls, W4.free, u8_and_full]
theorem Fl.stops_armed {F : Fl} (h : F.stops = true) : F.armed = true := by
  unfold Fl.stops at h; simp at h; exact h.1
theorem Wrote.set {F G : Fl} {k : Nat} {y : W4} (hk : k < F.mem.length) (h1 : G.mem = F.mem.set k y) (h2 : G.count = F.count) (h3 : G.armed = F.armed) : Wrote F G k [y] := by
  refine ⟨by rw [h1, List.length_set], h2, h3, fun i x hx => ?_, fun i hi => ?_⟩
  · cases i with
    | zero => simp at hx; subst hx; exact Fl.word_of (by rw [h1, Nat.add_zero, List.getElem?_set_self hk])
    | succ i => simp at hx
  · have hi : i < k ∨ k + 1 ≤ i := hi
    unfold Fl.word
    rw [h1, List.getD_eq_getElem?_getD, List.getD_eq_getElem?_getD, List.getElem?_set_ne (by omega)]
theorem Fl.write_free {F : Fl} {k : Nat} (y : W4) (hf : F.word k = W4.free) (hk : k < F.mem.length) :
    ((F.write k y).1 = 0 ∧ (F.write k y).2.off = F.off ∧ Wrote F (F.write k y).2 k [y]) ∨ ((F.write k y).1 = 7 ∧ F.armed = true ∧ (F.write k y).2 = { F with off := true }) := by
  have hw : F.mem.getD k W4.zero = W4.free := hf
  unfold Fl.write
  rw [hw, W4.free_falls, if_neg (by simp)]
  cases hs : F.stops with
  | true => exact Or.inr ⟨rfl, F.stops_armed hs, rfl⟩
  | false => exact Or.inl ⟨rfl, rfl, .set hk rfl rfl rfl⟩
theorem Fl.writes_free : ∀ (ws : List W4) {F : Fl} {k : Nat}, (∀ i, i < ws.length → F.word (k + i) = W4.free) → k + ws.length ≤ F.mem.length → F.off = false →
    ∃ m, m ≤ ws.length ∧ Wrote F (F.writes k ws).2 k (ws.take m) ∧ ((m = ws.length ∧ (F.writes k ws).1 = 0 ∧ (F.writes k ws).2.off = false) ∨ (m < ws.length ∧ (F.writes k ws).1 = 7 ∧ (F.writes k ws).2.off = true ∧ F.armed = true))
  | [], F, k, _, _, ho => ⟨0, Nat.le_refl _, .none k rfl rfl rfl, Or.inl ⟨rfl, rfl, ho⟩⟩
  | y :: r, F, k, hf, hk, ho => by
    have hk0 : k < F.mem.length := by simp at hk; omega
    rw [Fl.writes]
    rcases Fl.write_free y (by simpa using hf 0 (by simp)) hk0 with ⟨h1, h2, h3⟩ | ⟨h1, h2, h3⟩
    · rw [if_pos h1]
      obtain ⟨m, hm, hW, hd⟩ := Fl.writes_free r (F := (F.write k y).2) (k := k + 1) (fun i hi => by
        rw [h3.out _ (Or.inr (by show k + 1 ≤ _; omega)), show k + 1 + i = k + (i + 1) by omega]; exact hf _ (by simp; omega)) (by rw [h3.size]; simp at hk; omega) (by rw [h2, ho])
      refine ⟨m + 1, by simp; omega, ?_, ?_⟩
      · rw [List.take_succ_cons]
        exact h3.trans hW
      · rcases hd with ⟨rfl, h4, h5⟩ | ⟨h4, h5, h6, h7⟩
        · exact Or.inl ⟨rfl, h4, h5⟩
        · exact Or.inr ⟨by simp; omega, h5, h6, by rw [← h3.armed]; exact h7⟩
    · rw [if_neg (by rw [h1]; decide)]
      refine ⟨0, Nat.zero_le _, ?_, Or.inr ⟨by simp, h1, by rw [h3], h2⟩⟩
      rw [h3]
      exact .none k rfl rfl rfl
set_option maxRecDepth 100000 in
theorem Wrote.clear {F G : Fl} {i : Nat} (hi : 256 * i + 256 ≤ F.mem.length) (h1 : G.mem = clearAt F.mem i) (h2 : G.count = F.count) (h3 : G.armed = F.armed) : Wrote F G (256 * i) (List.replicate 256 W4.free) := by
  have hl : (F.mem.take (256 * i)).length = 256 * i := by rw [List.length_take]; omega
  refine ⟨by rw [h1, clearAt_length _ _ hi], h2, h3, fun j x hx => ?_, fun j hj => ?_⟩
  · have hj := (List.getElem?_eq_some_iff.1 hx).1
    apply Fl.word_of
    rw [h1]; unfold clearAt
    rw [List.append_assoc, List.getElem?_append_right (by omega), hl, List.getElem?_append_left (by rw [List.length_replicate] at hj; rw [blank_length]; omega), show 256 * i + j - 256 * i = j by omega]
    exact hx
  · rw [List.length_replicate] at hj
    unfold Fl.word
    rw [h1, List.getD_eq_getElem?_getD, List.getD_eq_getElem?_getD]
    congr 1
    unfold clearAt
    rw [List.append_assoc]
    rcases hj with hj | hj
    · rw [List.getElem?_append_left (by omega), List.getElem?_take, if_pos hj]
    · rw [List.getElem?_append_right (by omega), hl, List.getElem?_append_right (by rw [blank_length]; omega), blank_length, List.getElem?_drop]
      congr 1; omega
theorem Fl.eraseAll_does : ∀ (n : Nat) {F : Fl} {i : Nat}, 256 * (i + n) ≤ F.mem.length → F.off = false →
    ∃ m, m ≤ n ∧ Wrote F (F.eraseAll i n).2 (256 * i) (List.replicate (256 * m) W4.free) ∧ ((m = n ∧ (F.eraseAll i n).1 = 0 ∧ (F.eraseAll i n).2.off = false) ∨ (m < n ∧ (F.eraseAll i n).1 = 7 ∧ (F.eraseAll i n).2.off = true ∧ F.armed = true))
  | 0, F, i, _, ho => ⟨0, Nat.le_refl _, .none _ rfl rfl rfl, Or.inl ⟨rfl, rfl, ho⟩⟩
  | n + 1, F, i, hk, ho => by
    rw [Fl.eraseAll]
    cases hs : F.stops with
    | true =>
      have e : F.erase i = (7, { F with off := true }) := by unfold Fl.erase; rw [if_pos hs]
      rw [e, if_neg (by simp)]
      exact ⟨0, Nat.zero_le _, .none _ rfl rfl rfl, Or.inr ⟨by omega, rfl, rfl, F.stops_armed hs⟩⟩
    | false =>
      have e : F.erase i = (0, { F.went with mem := clearAt F.mem i }) := by unfold Fl.erase; rw [if_neg (by simp [hs])]
      rw [e, if_pos rfl]
      have hW : Wrote F { F.went with mem := clearAt F.mem i } (256 * i) (List.replicate 256 W4.free) := .clear (by omega) rfl rfl rfl
      obtain ⟨m, hm, hV, hd⟩ := Fl.eraseAll_does n (F := { F.went with mem := clearAt F.mem i }) (i := i + 1) (by rw [hW.size]; omega) ho
      refine ⟨m + 1, by omega, ?_, ?_⟩
      · rw [show 256 * (m + 1) = 256 + 256 * m by omega, ← List.replicate_append_replicate]
        refine hW.trans ?_
        rw [List.length_replicate, show 256 * i + 256 = 256 * (i + 1) by omega]
        exact hV
      · rcases hd with ⟨rfl, h4, h5⟩ | ⟨h4, h5, h6, h7⟩
        · exact Or.inl ⟨rfl, h4, h5⟩
        · exact Or.inr ⟨by omega, h5, h6, h7⟩
/-- the words of all groups that live, one behind the other -/
def liveRecs : List Slot → Nat → List W4
  | [], _ => []
  | x :: r, k => (if x.live then recWords (headOf k 1 x.b.length) x.b else []) ++ liveRecs r (k + 1)
theorem liveRecs_length : ∀ (l : List Slot) (k : Nat), (liveRecs l k).length = liveWords l
  | [], _ => rfl
  | x :: r, k => by
    rw [liveRecs, liveWords, List.length_append, liveRecs_length r]
    cases x.live <;> simp [recWords_length]
theorem Fl.writeLive_does : ∀ (l : List Slot) {F : Fl} {base at_ k : Nat}, (∀ i, i < liveWords l → F.word (base + at_ + i) = W4.free) → base + at_ + liveWords l ≤ F.mem.length → F.off = false →
    ∃ m, m ≤ liveWords l ∧ Wrote F (F.writeLive base at_ l k).2.1 (base + at_) ((liveRecs l k).take m) ∧ ((m = liveWords l ∧ (F.writeLive base at_ l k).1 = 0 ∧ (F.writeLive base at_ l k).2.1.off = false ∧ (F.writeLive base at_ l k).2.2 = at_ + liveWords l) ∨ (m < liveWords l ∧ (F.writeLive base at_ l k).1 = 7 ∧ (F.writeLive base at_ l k).2.1.off = true ∧ F.armed = true))
  | [], F, base, at_, k, _, _, ho => ⟨0, Nat.le_refl _, .none _ rfl rfl rfl, Or.inl ⟨rfl, rfl, ho, rfl⟩⟩
  | x :: r, F, base, at_, k, hf, hk, ho => by
    rw [Fl.writeLive]
    cases hx : x.live with
    | false =>
      have e1 : liveWords (x :: r) = liveWords r := by rw [liveWords, hx]; simp
      have e2 : liveRecs (x :: r) k = liveRecs r (k + 1) := by rw [liveRecs, hx]; simp
      rw [if_neg (by simp), e1, e2]
      rw [e1] at hf hk
      exact Fl.writeLive_does r hf hk ho
    | true =>
      have e1 : liveWords (x :: r) = (2 + (x.b.length + 3) / 4) + liveWords r := by rw [liveWords, hx]; simp
      have e2 : liveRecs (x :: r) k = recWords (headOf k 1 x.b.length) x.b ++ liveRecs r (k + 1) := by rw [liveRecs, hx]; simp
      rw [if_pos rfl, e1, e2]
      rw [e1] at hf hk
      have hl := recWords_length (headOf k 1 x.b.length) x.b
      generalize recWords (headOf k 1 x.b.length) x.b = ws at *
      obtain ⟨m, hm, hW, hd⟩ := Fl.writes_free ws (F := F) (k := base + at_) (fun i hi => hf i (by omega)) (by omega) ho
      rcases hd with ⟨rfl, h4, h5⟩ | ⟨h4, h5, h6, h7⟩
      · rw [if_pos h4]
        rw [List.take_length] at hW
        obtain ⟨m', hm', hV, hd'⟩ := Fl.writeLive_does r (F := (F.writes (base + at_) ws).2) (base := base) (at_ := at_ + (2 + (x.b.length + 3) / 4)) (k := k + 1)
          (fun i hi => by rw [hW.out _ (Or.inr (by omega)), show base + (at_ + (2 + (x.b.length + 3) / 4)) + i = base + at_ + (2 + (x.b.length + 3) / 4 + i) by omega]; exact hf _ (by omega)) (by rw [hW.size]; omega) h5
        refine ⟨ws.length + m', by omega, ?_, ?_⟩
        · rw [List.take_length_add_append]
          refine hW.trans ?_
          rw [hl, Nat.add_assoc]
          exact hV
        · rcases hd' with ⟨rfl, g4, g5, g6⟩ | ⟨g4, g5, g6, g7⟩
          · exact Or.inl ⟨by omega, g4, g5, by rw [g6]; omega⟩
          · exact Or.inr ⟨by omega, g5, g6, by rw [← hW.armed]; exact g7⟩
      · rw [if_neg (by rw [h5]; decide)]
        refine ⟨m, by omega, ?_, Or.inr ⟨by omega, h5, h6, h7⟩⟩
        rw [List.take_append_of_le_length hm]
        exact hW
end Go.Proofs.YtdfgcenbkclpbaaDoor
