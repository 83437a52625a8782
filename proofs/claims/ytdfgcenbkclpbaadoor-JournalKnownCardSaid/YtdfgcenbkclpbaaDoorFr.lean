/- Facts on memory carried over a step: one form for all. -/
import Derived.Test.YtdfgcenbkclpbaaDoorSets
namespace Go.Proofs.YtdfgcenbkclpbaaDoor
open Go.RowKit
set_option linter.unusedSimpArgs false
set_option linter.unusedVariables false
/-- to see a goal that an arm meets -/
def Stop (p : Prop) : Prop := p
theorem stopI {p : Prop} (h : Stop p) : p := h
theorem FlashAt.to {S : List Nat} {w w' : World} {f s : Nat} {F : Fl} (h : FlashAt w f s F) (ht : Touch S w w') (hn : f ∉ S ∧ s ∉ S := by first | (simp; done) | (simp; omega) | omega) : FlashAt w' f s F := h.touch ht hn.1 hn.2
theorem JnAt.to {S : List Nat} {w w' : World} {j f s : Nat} {J : Jn} (h : JnAt w j f s J) (ht : Touch S w w') (hn : j ∉ S ∧ ∀ k ∈ S, k = f ∨ k = s ∨ k = j := by first | (simp; done) | (simp; omega) | omega) : JnAt w' j f s J := h.touch ht hn.1 hn.2
theorem OwnAt.to {S : List Nat} {w w' : World} {b off : Nat} {l : List Value} (h : OwnAt w b off l) (ht : Touch S w w') (hn : b ∉ S := by first | (simp; done) | (simp; omega) | omega) : OwnAt w' b off l := h.touch ht hn
theorem SliceAt.to {S : List Nat} {w w' : World} {A : Option Addr} {l : List Value} (h : SliceAt w A l) (ht : Touch S w w') (hn : ∀ x, A = some x → x.block ∉ S := by first | (simp; done) | assumption) : SliceAt w' A l := h.touch ht hn
/-- one step further -/
theorem Touch.to {S T : List Nat} {a w w' : World} (h : Touch S a w) (ht : Touch T w w') (hn : ∀ k ∈ T, k ∈ S ∨ a.heap.size ≤ k := by first | (simp; done) | (simp; omega) | omega) : Touch S a w' :=
  ⟨ht.os.trans h.os, ht.tape.trans h.tape, ht.output.trans h.output, Nat.le_trans h.size ht.size, fun i hi hs => (ht.block i (Nat.lt_of_lt_of_le hi h.size) fun hm => (hn i hm).elim hs (by omega)).trans (h.block i hi hs)⟩
theorem Touch.one (w : World) (o : Obj) : Touch [] w (w.alloc o) := (Touch.refl [] w).alloc o
theorem Touch.two (w : World) (o p : Obj) : Touch [] w ((w.alloc o).alloc p) := (Touch.one w o).alloc p
theorem Touch.dr (w : World) : Touch [] w w.drew := (Touch.refl [] w).drew
theorem Touch.cells (w : World) (b o : Nat) (vs : List Value) : Touch [b] w (w.setCells b o vs) := (Touch.refl [b] w).setCells (by simp) vs
theorem Touch.cell1 (w : World) (b o : Nat) (v : Value) : Touch [b] w (w.setCell ⟨b, o, none⟩ v) := (Touch.refl [b] w).setCell (by simp) v
theorem OwnAt.slot {W : World} {g : Nat} {t m : Bool} {l : List UInt8} {a : Option Addr} {c : Nat} (h : OwnAt W g 0 [.bool t, .bool m, .slice a l.length c]) : W.rangeAt g 0 (Slot.cells ⟨t, m, l, a, c⟩) := h.all
theorem JnAt.lt {w : World} {j f s : Nat} {J : Jn} (h : JnAt w j f s J) : j < w.heap.size := h.own.lt (by rw [Jn.cells_length]; omega)
theorem JnAt.c0 {w : World} {j f s : Nat} {J : Jn} (h : JnAt w j f s J) : w.cell? ⟨j, 0, none⟩ = some (ptr f) := h.own.get 0 (by rw [Jn.cells_length]; omega)
theorem JnAt.c2 {w : World} {j f s : Nat} {J : Jn} (h : JnAt w j f s J) : w.cell? ⟨j, 2, none⟩ = some (.int .i64 J.count) := h.own.get 2 (by rw [Jn.cells_length]; omega)
theorem JnAt.c6 {w : World} {j f s : Nat} {J : Jn} (h : JnAt w j f s J) : w.cell? ⟨j, 6, none⟩ = some (.int .u32 J.gen) := h.own.get 6 (by rw [Jn.cells_length]; omega)
theorem JnAt.c7 {w : World} {j f s : Nat} {J : Jn} (h : JnAt w j f s J) : w.cell? ⟨j, 7, none⟩ = some (.int .i64 J.next) := h.own.get 7 (by rw [Jn.cells_length]; omega)
theorem JnAt.fz {w : World} {j f s : Nat} {J : Jn} (h : JnAt w j f s J) (k : Nat) (hk : k < 57) : w.frozen? ⟨j, k, none⟩ = false := by
  have := h.own.free k (by rw [Jn.cells_length, h.sixteen]; omega)
  rwa [Nat.zero_add] at this
theorem JnAt.setNext {w : World} {j f s : Nat} {J : Jn} (h : JnAt w j f s J) (n : Nat) : JnAt (w.setCell ⟨j, 7, none⟩ (.int .i64 n)) j f s { J with next := n } := by
  have hl := Jn.cells_length f J
  have o := h.own.set0 7 (.int .i64 n) (by rw [hl]; omega)
  refine ⟨?_, h.sixteen, h.apart, h.few, h.gen, fun x hx => ⟨?_, (h.slots x hx).2⟩⟩
  · have e : (J.cells f).set 7 (.int .i64 n) = ({ J with next := n } : Jn).cells f := by
      unfold Jn.cells
      rw [List.append_assoc, List.set_append_left _ _ (by simp), ← List.append_assoc]
      rfl
    rw [e] at o; exact o
  · exact (h.slots x hx).1.touch (S := [j]) ((Touch.refl [j] w).setCell (by simp) _) (fun y hy => by simpa using ((h.slots x hx).2.2.2 y hy).1)
theorem Touch.drCells (w : World) (b o : Nat) (vs : List Value) : Touch [b] w (w.drew.setCells b o vs) := ((Touch.refl [b] w).drew).setCells (by simp) vs
theorem FlashAt.fnes {w : World} {f s : Nat} {F : Fl} (h : FlashAt w f s F) : f ≠ s := h.apart
end Go.Proofs.YtdfgcenbkclpbaaDoor
