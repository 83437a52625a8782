/- set, where it goes on. -/
import Derived.Test.YtdfgcenbkclpbaaDoorSlot
namespace Go.Proofs.YtdfgcenbkclpbaaDoor
open Go.RowKit
set_option linter.unusedSimpArgs false
set_option linter.unusedVariables false
theorem wp_load_group {ops : Array Oper} {rest : List Oper} {op : Oper} {a : Act} {w : World} {Q : Exit → Act → World → Prop} {x : Operand} {b o : Nat} {y : Slot} (hc : w.rangeAt b o y.cells) (hgd : op.guard = none) (ho : op.op = .load 78 x)
    (hx : a.eval x = .pointer (some ⟨b, o, none⟩)) (h : wpList Tryd.prog ops Q rest (a.put op.dst y.val) w) : wpList Tryd.prog ops Q (op :: rest) a w :=
  wpList_load_mid hgd 78 x ho b o hx y.cells _ hc Tryd.underlying78 rfl (by kernel_rfl) h
theorem wp_store_group {ops : Array Oper} {rest : List Oper} {op : Oper} {a : Act} {w : World} {Q : Exit → Act → World → Prop} {x z : Operand} {b o : Nat} {y : Slot} (hc : w.there b o 3) (hgd : op.guard = none) (ho : op.op = .store 78 x z)
    (hx : a.eval x = .pointer (some ⟨b, o, none⟩)) (hy : a.eval z = y.val) (h : wpList Tryd.prog ops Q rest (a.put op.dst undef) (w.setCells b o y.cells)) : wpList Tryd.prog ops Q (op :: rest) a w :=
  wpList_store_mid hgd 78 x z ho b o #[.bool y.there, .bool y.marked, .slice y.a y.b.length y.cap] hx hy hc (by kernel_rfl) (by simp [Value.oneCell']) h
theorem JnAt.slotRange {w : World} {j f s : Nat} {J : Jn} (h : JnAt w j f s J) {i : Nat} {x : Slot} (hx : J.slots[i]? = some x) : w.rangeAt j (8 + 3 * i) x.cells := fun k v hv => by
  have := h.cells8 (3 * i + k) v (slotCells_at hx hv)
  rw [Nat.add_assoc]; exact this
end Go.Proofs.YtdfgcenbkclpbaaDoor
