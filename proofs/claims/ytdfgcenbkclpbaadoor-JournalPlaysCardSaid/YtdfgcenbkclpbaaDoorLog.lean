/- Records written behind others are read as they were: plain. -/
import Derived.Test.YtdfgcenbkclpbaaDoorScan
namespace Go.Proofs.YtdfgcenbkclpbaaDoor
open Go.RowKit
set_option linter.unusedSimpArgs false
set_option linter.unusedVariables false
theorem Fl.bytesAt_words {F : Fl} {k : Nat} {ws : List W4} (h : ∀ i y, ws[i]? = some y → F.word (k + i) = y) (hk : k + ws.length ≤ F.mem.length) : F.bytesAt k ws.length = wordsBytes ws := by
  unfold Fl.bytesAt
  congr 1
  apply List.ext_getElem?
  intro i
  rw [List.getElem?_take]
  split
  · rename_i hi
    rw [List.getElem?_drop, Fl.word_at F (by omega), List.getElem?_eq_getElem hi, h i _ (List.getElem?_eq_getElem hi)]
  · rename_i hi
    rw [List.getElem?_eq_none (by omega)]
theorem padWords_bytes : ∀ b : List UInt8, (wordsBytes (padWords b)).take b.length = b
  | [] => rfl
  | [_] => rfl
  | [_, _] => rfl
  | [_, _, _] => rfl
  | a :: b :: c :: d :: r => by
    have := padWords_bytes r
    rw [padWords, show wordsBytes (⟨a, b, c, d⟩ :: padWords r) = [a, b, c, d] ++ wordsBytes (padWords r) from rfl]
    simp [this]
/-- a record that stands there as a whole -/
theorem Fl.parse_rec {F : Fl} {base size at_ : Nat} {h : W4} {b : List UInt8} (sl : List PSlot) (hs : base + size ≤ F.mem.length) (hw : ∀ i y, (recWords h b)[i]? = some y → F.word (base + at_ + i) = y) (hh : h ≠ W4.free) (hl : recLen h = b.length)
    (hn : at_ + (recWords h b).length ≤ size) : F.parse base size at_ sl = F.parse base size (at_ + (recWords h b).length) (takeRec sl h b) := by
  rw [recWords_length] at hn ⊢
  have h0 : F.word (base + at_) = h := by simpa using hw 0 h rfl
  have hr : recNext h at_ = at_ + (2 + (b.length + 3) / 4) := by unfold recNext; rw [hl]; omega
  have hb : F.recBytes base at_ h = b := by
    unfold Fl.recBytes
    rw [hl, ← padWords_length, Fl.bytesAt_words (ws := padWords b) (fun i y hy => ?_) (by rw [padWords_length]; omega), padWords_bytes]
    have := hw (i + 1) y (by
      have hi := (List.getElem?_eq_some_iff.1 hy).1
      rw [recWords, List.getElem?_cons_succ, List.getElem?_append_left hi]; exact hy)
    rwa [show base + at_ + (i + 1) = base + at_ + 1 + i by omega] at this
  have hsum : F.word (base + recNext h at_ - 1) = sumW h b := by
    have := hw (1 + (b.length + 3) / 4) (sumW h b) (by
      rw [recWords, Nat.add_comm 1, List.getElem?_cons_succ, List.getElem?_append_right (by rw [padWords_length]; omega), padWords_length, Nat.sub_self]; rfl)
    rwa [show base + at_ + (1 + (b.length + 3) / 4) = base + recNext h at_ - 1 by omega] at this
  have hd : F.recHead base at_ h = h := by unfold Fl.recHead; rw [hb, hsum, if_pos rfl]
  rw [Fl.parse_next sl (by omega) (by rw [h0]; exact hh) (by rw [h0]; omega), h0, hb, hd, hr]
/-- one that was begun and not ended -/
theorem Fl.parse_torn {F : Fl} {base size at_ : Nat} {h : W4} {b : List UInt8} (sl : List PSlot) (hs : base + size ≤ F.mem.length) (hw : F.word (base + at_) = h) (hz : F.word (base + (at_ + (1 + (b.length + 3) / 4))) = W4.free) (hh : h ≠ W4.free) (hl : recLen h = b.length)
    (hn : at_ + (recWords h b).length ≤ size) : F.parse base size at_ sl = F.parse base size (at_ + (recWords h b).length) sl := by
  rw [recWords_length] at hn ⊢
  have hr : recNext h at_ = at_ + (2 + (b.length + 3) / 4) := by unfold recNext; rw [hl]; omega
  have hsum : F.word (base + recNext h at_ - 1) = W4.free := by
    rw [show base + recNext h at_ - 1 = base + (at_ + (1 + (b.length + 3) / 4)) by omega]; exact hz
  have hd : F.recHead base at_ h = { h with b := 0 } := by
    unfold Fl.recHead
    rw [hsum, if_neg]
    intro e
    have : (0xFF : UInt8) = 0x5A := congrArg W4.c e
    exact absurd this (by decide)
  have ht : ∀ c, takeRec sl { h with b := 0 } c = sl := fun c => by
    unfold takeRec
    split
    · rfl
    · rw [if_neg (show ¬ (0 : UInt8) = 1 by decide), if_neg (show ¬ (0 : UInt8) = 2 by decide)]
  rw [Fl.parse_next sl (by omega) (by rw [hw]; exact hh) (by rw [hw]; omega), hw, hd, ht, hr]
theorem Wrote.parse {F G : Fl} {base size e : Nat} {ws : List W4} {sl sl' : List PSlot} (hW : Wrote F G (base + e) ws) (hs : base + size ≤ F.mem.length) (he : e < size) (h2 : 2 ≤ e) (hp : F.parse base size 2 sl = (e, sl')) : G.parse base size 2 sl = G.parse base size e sl' :=
  Fl.parse_keep hs hW.size he 2 sl (fun i hi hi2 => hW.out _ (Or.inl (by omega))) hp
theorem Fl.readAll_ge {F : Fl} {first count : Nat} {e : Nat} {sl sl' : List PSlot} (hc : 0 < count) (h : F.readAll first count sl = (e, sl')) : 2 ≤ e := by
  have hge := (Fl.parse_ge (F := F) (base := 256 * first) (size := 256 * count) 2 sl (by omega)).1
  rw [Fl.readAll_eq] at h
  have h1 := (Prod.mk.inj h).1
  split at h1 <;> omega
/-- one more record -/
theorem Fl.readAll_more {F G : Fl} {first count e : Nat} {h : W4} {b : List UInt8} {sl sl' : List PSlot} (hs : 256 * first + 256 * count ≤ F.mem.length) (hr : F.readAll first count sl = (e, sl')) (hh : h ≠ W4.free) (hl : recLen h = b.length)
    (hn : e + (recWords h b).length ≤ 256 * count) (hW : Wrote F G (256 * first + e) (recWords h b)) : G.readAll first count sl = (e + (recWords h b).length, takeRec sl' h b) := by
  have hlen := recWords_length h b
  have h2 := Fl.readAll_ge (by omega) hr
  obtain ⟨hp, hf⟩ := Fl.readAll_free hs hr (by omega)
  have hG : 256 * first + 256 * count ≤ G.mem.length := by rw [hW.size]; exact hs
  have hfr : ∀ i, e + (recWords h b).length ≤ i → i < 256 * count → G.word (256 * first + i) = W4.free := fun i hi hi2 => by
    rw [hW.out _ (Or.inr (by omega))]; exact hf i (by omega) hi2
  refine Fl.readAll_of hG ?_ hfr
  rw [hW.parse hs (by omega) h2 hp, Fl.parse_rec sl' hG hW.inn hh hl hn, Fl.parse_end]
  by_cases hz : 256 * count ≤ e + (recWords h b).length
  · exact Or.inl hz
  · exact Or.inr (hfr _ (Nat.le_refl _) (by omega))
/-- one that the power left unended -/
theorem Fl.readAll_torn {F G : Fl} {first count e m : Nat} {h : W4} {b : List UInt8} {sl sl' : List PSlot} (hs : 256 * first + 256 * count ≤ F.mem.length) (hr : F.readAll first count sl = (e, sl')) (hh : h ≠ W4.free) (hl : recLen h = b.length)
    (hn : e + (recWords h b).length ≤ 256 * count) (hm : m < (recWords h b).length) (hW : Wrote F G (256 * first + e) ((recWords h b).take m)) : ∃ e', G.readAll first count sl = (e', sl') := by
  have hlen := recWords_length h b
  have h2 := Fl.readAll_ge (by omega) hr
  obtain ⟨hp, hf⟩ := Fl.readAll_free hs hr (by omega)
  have hG : 256 * first + 256 * count ≤ G.mem.length := by rw [hW.size]; exact hs
  have hml : ((recWords h b).take m).length = m := by rw [List.length_take]; omega
  have hfr : ∀ i, e + m ≤ i → i < 256 * count → G.word (256 * first + i) = W4.free := fun i hi hi2 => by
    rw [hW.out _ (Or.inr (by omega))]; exact hf i (by omega) hi2
  by_cases hm0 : m = 0
  · subst hm0
    refine ⟨e, Fl.readAll_of hG ?_ (fun i hi hi2 => hfr i hi hi2)⟩
    rw [hW.parse hs (by omega) h2 hp, Fl.parse_end]
    exact Or.inr (hfr _ (Nat.le_refl _) (by omega))
  · refine ⟨e + (recWords h b).length, Fl.readAll_of hG ?_ (fun i hi hi2 => hfr i (by omega) hi2)⟩
    have hw0 : G.word (256 * first + e) = h := by
      have := hW.inn 0 h (by rw [List.getElem?_take, if_pos (by omega)]; rfl)
      simpa using this
    rw [hW.parse hs (by omega) h2 hp, Fl.parse_torn sl' hG hw0 (hfr _ (by omega) (by omega)) hh hl hn, Fl.parse_end]
    by_cases hz : 256 * count ≤ e + (recWords h b).length
    · exact Or.inl hz
    · exact Or.inr (hfr _ (by omega) (by omega))
theorem recLen_headOf (i : Nat) (kind : UInt8) (n : Nat) (hn : n ≤ 4096) : recLen (headOf i kind n) = n := by
  unfold recLen headOf
  simp only [UInt8.toNat_ofNat']
  omega
theorem headOf_free (i : Nat) (kind : UInt8) (n : Nat) (hk : kind = 1 ∨ kind = 2) : headOf i kind n ≠ W4.free := fun e => by
  have : kind = 255 := congrArg W4.b e
  rcases hk with rfl | rfl <;> exact absurd this (by decide)
/-- a group, as it is behind an opening -/
def PSlot.open1 (x : PSlot) : PSlot := if x.there && !x.marked then x else ⟨false, false, []⟩
def opened (l : List PSlot) : List PSlot := l.map PSlot.open1
theorem takeRec_live (sl : List PSlot) (i : Nat) (hi : i < 16) (b : List UInt8) (hb : b.length ≤ 4096) : takeRec sl (headOf i 1 b.length) b = sl.set i ⟨true, false, b⟩ := by
  have e : (UInt8.ofNat i).toNat = i := by simp; omega
  unfold takeRec headOf
  simp only [e]
  rw [if_neg (by omega), if_pos trivial]
theorem takeRec_gone (sl : List PSlot) (i : Nat) (hi : i < 16) : takeRec sl (headOf i 2 0) [] = sl.set i ⟨false, false, []⟩ := by
  have e : (UInt8.ofNat i).toNat = i := by simp; omega
  unfold takeRec headOf
  simp only [e, List.length_nil]
  rw [if_neg (by omega), if_neg (by decide), if_pos trivial]
/-- the head and the bytes of the record of a group -/
def Slot.head (i : Nat) (x : Slot) : W4 := if x.marked then headOf i 2 0 else headOf i 1 x.b.length
def Slot.body (x : Slot) : List UInt8 := if x.marked then [] else x.b
theorem Slot.words_eq (i : Nat) (x : Slot) : x.words i = recWords (x.head i) x.body := by
  unfold Slot.words Slot.head Slot.body; split <;> rfl
theorem Slot.head_free (i : Nat) (x : Slot) : x.head i ≠ W4.free := by
  unfold Slot.head; split
  · exact headOf_free _ _ _ (Or.inr rfl)
  · exact headOf_free _ _ _ (Or.inl rfl)
theorem Slot.head_len (i : Nat) (x : Slot) (hb : x.b.length ≤ 4096) : recLen (x.head i) = x.body.length := by
  unfold Slot.head Slot.body; split
  · exact recLen_headOf _ _ _ (by omega)
  · exact recLen_headOf _ _ _ hb
theorem Slot.take (sl : List PSlot) (i : Nat) (hi : i < 16) (x : Slot) (ht : x.there = true) (hb : x.b.length ≤ 4096) : takeRec sl (x.head i) x.body = sl.set i x.p.open1 := by
  unfold Slot.head Slot.body PSlot.open1 Slot.p
  cases hm : x.marked with
  | true => simp [ht]; exact takeRec_gone sl i hi
  | false => simp [ht]; exact takeRec_live sl i hi x.b hb
/-- all groups that live are taken over -/
def takeLive : List PSlot → List Slot → Nat → List PSlot
  | sl, [], _ => sl
  | sl, x :: r, k => takeLive (if x.live then takeRec sl (headOf k 1 x.b.length) x.b else sl) r (k + 1)
theorem Fl.parse_live {F : Fl} {base size : Nat} (hs : base + size ≤ F.mem.length) : ∀ (l : List Slot) (at_ k : Nat) (sl : List PSlot), (∀ x ∈ l, x.b.length ≤ 4096) → (∀ i y, (liveRecs l k)[i]? = some y → F.word (base + at_ + i) = y) → at_ + liveWords l ≤ size →
    F.parse base size at_ sl = F.parse base size (at_ + liveWords l) (takeLive sl l k)
  | [], _, _, _, _, _, _ => rfl
  | x :: r, at_, k, sl, hb, hw, hn => by
    cases hx : x.live with
    | false =>
      have e1 : liveWords (x :: r) = liveWords r := by rw [liveWords, hx]; simp
      have e2 : liveRecs (x :: r) k = liveRecs r (k + 1) := by rw [liveRecs, hx]; simp
      rw [takeLive, hx, if_neg (by simp), e1]
      rw [e2] at hw
      rw [e1] at hn
      exact Fl.parse_live hs r at_ (k + 1) sl (fun y hy => hb y (List.mem_cons_of_mem _ hy)) hw hn
    | true =>
      have e1 : liveWords (x :: r) = (2 + (x.b.length + 3) / 4) + liveWords r := by rw [liveWords, hx]; simp
      have e2 : liveRecs (x :: r) k = recWords (headOf k 1 x.b.length) x.b ++ liveRecs r (k + 1) := by rw [liveRecs, hx]; simp
      have hl := recWords_length (headOf k 1 x.b.length) x.b
      have hbx := hb x (List.mem_cons_self ..)
      rw [e1] at hn
      rw [e2] at hw
      rw [takeLive, hx, if_pos rfl, e1, Fl.parse_rec (h := headOf k 1 x.b.length) (b := x.b) sl hs (fun i y hy => hw i y (by rw [List.getElem?_append_left (List.getElem?_eq_some_iff.1 hy).1]; exact hy)) (headOf_free _ _ _ (Or.inl rfl)) (recLen_headOf _ _ _ hbx) (by omega),
        hl, Fl.parse_live hs r (at_ + (2 + (x.b.length + 3) / 4)) (k + 1) _ (fun y hy => hb y (List.mem_cons_of_mem _ hy)) (fun i y hy => ?_) (by omega), Nat.add_assoc]
      have := hw (2 + (x.b.length + 3) / 4 + i) y (by rw [List.getElem?_append_right (by omega), hl, show 2 + (x.b.length + 3) / 4 + i - (2 + (x.b.length + 3) / 4) = i by omega]; exact hy)
      rwa [show base + at_ + (2 + (x.b.length + 3) / 4 + i) = base + (at_ + (2 + (x.b.length + 3) / 4)) + i by omega] at this
theorem takeLive_blank : ∀ (l : List Slot) (pre : List PSlot), pre.length + l.length ≤ 16 → (∀ x ∈ l, x.b.length ≤ 4096) → takeLive (pre ++ List.replicate l.length ⟨false, false, []⟩) l pre.length = pre ++ l.map fun x => x.p.open1
  | [], pre, _, _ => by simp [takeLive]
  | x :: r, pre, hn, hb => by
    have hbx := hb x (List.mem_cons_self ..)
    rw [List.length_cons] at hn
    have e : (if x.live then takeRec (pre ++ List.replicate (x :: r).length ⟨false, false, []⟩) (headOf pre.length 1 x.b.length) x.b else pre ++ List.replicate (x :: r).length ⟨false, false, []⟩) = (pre ++ [x.p.open1]) ++ List.replicate r.length ⟨false, false, []⟩ := by
      rw [List.length_cons, List.replicate_succ]
      unfold PSlot.open1 Slot.p
      cases hx : x.live with
      | true =>
        have hx' := hx
        unfold Slot.live at hx'
        rw [if_pos rfl, takeRec_live _ _ (by omega) _ hbx, List.set_append_right _ _ (Nat.le_refl _), Nat.sub_self, List.set_cons_zero]
        simp only [hx', if_true]
        simp at hx'
        simp [hx'.1, hx'.2]
      | false =>
        have hx' := hx
        unfold Slot.live at hx'
        simp [hx']
    rw [takeLive, e]
    have := takeLive_blank r (pre ++ [x.p.open1]) (by simp; omega) (fun y hy => hb y (List.mem_cons_of_mem _ hy))
    rw [List.length_append, List.length_singleton] at this
    rw [this]
    simp
theorem takeLive_all (l : List Slot) (hl : l.length = 16) (hb : ∀ x ∈ l, x.b.length ≤ 4096) : takeLive blanks l 0 = opened (l.map Slot.p) := by
  have := takeLive_blank l [] (by simp [hl]) hb
  rw [hl] at this
  simp only [List.nil_append, List.length_nil] at this
  unfold blanks
  rw [this]
  simp [opened]
end Go.Proofs.YtdfgcenbkclpbaaDoor
