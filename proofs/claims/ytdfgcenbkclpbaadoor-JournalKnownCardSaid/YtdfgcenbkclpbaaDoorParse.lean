/- The records of a half, as they are read: plain. -/
import Derived.Test.YtdfgcenbkclpbaaDoorGroups
namespace Go.Proofs.YtdfgcenbkclpbaaDoor
open Go.RowKit
set_option linter.unusedSimpArgs false
set_option linter.unusedVariables false
def Fl.word (F : Fl) (k : Nat) : W4 := F.mem.getD k W4.zero
/-- how many bytes a record's first word tells; where the next record begins -/
def recLen (h : W4) : Nat := h.c.toNat + h.d.toNat * 256
def recNext (h : W4) (at_ : Nat) : Nat := at_ + 2 + (recLen h + 3) / 4
/-- words' bytes -/
def wordsBytes (l : List W4) : List UInt8 := l.flatMap W4.bytes
/-- the bytes of n words from k on -/
def Fl.bytesAt (F : Fl) (k n : Nat) : List UInt8 := wordsBytes ((F.mem.drop k).take n)
def Fl.recBytes (F : Fl) (base at_ : Nat) (h : W4) : List UInt8 := (F.bytesAt (base + at_ + 1) ((recLen h + 3) / 4)).take (recLen h)
/-- the first word, as it is told: its kind is 0, if the sum is another one -/
def Fl.recHead (F : Fl) (base at_ : Nat) (h : W4) : W4 := if F.word (base + recNext h at_ - 1) = sumW h (F.recBytes base at_ h) then h else { h with b := 0 }
theorem recLen_lt (h : W4) : recLen h < 65536 := by
  have := h.c.toNat_lt; have := h.d.toNat_lt; unfold recLen; omega
theorem wordsBytes_length (l : List W4) : (wordsBytes l).length = 4 * l.length := by
  induction l with
  | nil => rfl
  | cons x l ih => rw [show wordsBytes (x :: l) = x.bytes ++ wordsBytes l from rfl, List.length_append, ih]; simp [W4.bytes]; omega
theorem wordsBytes_append (l m : List W4) : wordsBytes (l ++ m) = wordsBytes l ++ wordsBytes m := by unfold wordsBytes; rw [List.flatMap_append]
theorem Fl.bytesAt_zero (F : Fl) (k : Nat) : F.bytesAt k 0 = [] := rfl
theorem Fl.bytesAt_succ (F : Fl) (k n : Nat) (h : k + n < F.mem.length) : F.bytesAt k (n + 1) = F.bytesAt k n ++ (F.word (k + n)).bytes := by
  unfold Fl.bytesAt Fl.word
  have h1 : n < (F.mem.drop k).length := by simp; omega
  rw [List.take_succ_eq_append_getElem h1, wordsBytes_append]
  congr 1
  rw [List.getElem_drop, List.getD_eq_getElem?_getD, List.getElem?_eq_getElem h]
  simp [wordsBytes]
theorem Fl.bytesAt_length (F : Fl) (k n : Nat) (h : k + n ≤ F.mem.length) : (F.bytesAt k n).length = 4 * n := by
  unfold Fl.bytesAt
  rw [wordsBytes_length, List.length_take, List.length_drop]; omega
theorem Fl.recBytes_length (F : Fl) (base at_ : Nat) (h : W4) (hm : base + recNext h at_ ≤ F.mem.length) : (F.recBytes base at_ h).length = recLen h := by
  unfold Fl.recBytes
  unfold recNext at hm
  rw [List.length_take, Fl.bytesAt_length _ _ _ (by omega)]; omega
/-- a slot, without where its bytes lie -/
structure PSlot where
  there : Bool
  marked : Bool
  b : List UInt8
  deriving DecidableEq, Inhabited
def Slot.p (x : Slot) : PSlot := ⟨x.there, x.marked, x.b⟩
/-- a record is taken over -/
def takeRec (sl : List PSlot) (h : W4) (b : List UInt8) : List PSlot :=
  if 16 ≤ h.a.toNat ∨ 4096 < b.length then sl
  else if h.b = 1 then sl.set h.a.toNat ⟨true, false, b⟩
  else if h.b = 2 then sl.set h.a.toNat ⟨false, false, []⟩ else sl
/-- all records from at_ on: where the next one goes, the slots -/
def Fl.readFrom (F : Fl) (base size : Nat) : Nat → Nat → List PSlot → Nat × List PSlot
  | 0, at_, sl => (at_, sl)
  | n + 1, at_, sl =>
    if size ≤ at_ ∨ F.word (base + at_) = W4.free then (at_, sl)
    else if size < recNext (F.word (base + at_)) at_ then (size, sl)
    else F.readFrom base size n (recNext (F.word (base + at_)) at_) (takeRec sl (F.recHead base at_ (F.word (base + at_))) (F.recBytes base at_ (F.word (base + at_))))
/-- are the words from at_ on free? -/
def Fl.freeFrom (F : Fl) (base size at_ : Nat) : Bool := ((F.mem.drop (base + at_)).take (size - at_)).all (· == W4.free)
end Go.Proofs.YtdfgcenbkclpbaaDoor
