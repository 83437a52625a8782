/- A slot of a journal is written. -/
import Derived.Test.YtdfgcenbkclpbaaDoorSetW
namespace Go.Proofs.YtdfgcenbkclpbaaDoor
open Go.RowKit
set_option linter.unusedSimpArgs false
set_option linter.unusedVariables false
theorem slotCells_put (l : List Slot) (k : Nat) (y : Slot) (hk : k < l.length) : (slotCells l).take (3 * k) ++ y.cells ++ (slotCells l).drop (3 * k + 3) = slotCells (l.set k y) := by
  induction l generalizing k with
  | nil => simp at hk
  | cons x l ih =>
    cases k with
    | zero => simp [slotCells_cons, Slot.cells]
    | succ k =>
      have := ih k (by simpa using hk)
      rw [List.set_cons_succ, slotCells_cons, slotCells_cons, ← this]
      simp [Slot.cells, show 3 * (k + 1) = 3 * k + 3 by omega]
theorem JnAt.setSlot {w : World} {j f s : Nat} {J : Jn} (h : JnAt w j f s J) (i : Nat) (hi : i < 16) (x : Slot)
    (hx : SliceAt w x.a (x.b.map u8v) ∧ x.b.length ≤ 4096 ∧ (x.a = none → x.b.length = 0 ∧ x.cap = 0) ∧ ∀ y, x.a = some y → y.block ≠ j ∧ y.block ≠ f ∧ y.block ≠ s) :
    JnAt (w.setCells j (8 + 3 * i) x.cells) j f s { J with slots := J.slots.set i x } := by
  have hl := Jn.cells_length f J
  have hs := h.sixteen
  have o := h.own.setCells (8 + 3 * i) x.cells (by rw [hl, hs]; show 8 + 3 * i + 3 ≤ _; omega)
  have hT : Touch [j] w (w.setCells j (8 + 3 * i) x.cells) := (Touch.refl [j] w).setCells (by simp) _
  refine ⟨?_, by simpa using hs, h.apart, h.few, h.gen, fun y hy => ?_⟩
  · have e : (J.cells f).take (8 + 3 * i) ++ x.cells ++ (J.cells f).drop (8 + 3 * i + 3) = ({ J with slots := J.slots.set i x } : Jn).cells f := by
      have hp := slotCells_put J.slots i x (by omega)
      have hsl := slotCells_length J.slots
      unfold Jn.cells
      simp only
      rw [← hp]
      generalize hP : [ptr f, Value.int .i64 J.first, Value.int .i64 J.count, ptr f, Value.int .i64 J.other, Value.int .i64 J.count, Value.int .u32 J.gen, Value.int .i64 J.next] = P
      have hPl : P.length = 8 := by rw [← hP]; rfl
      rw [List.append_assoc P, List.take_append, hPl, List.take_of_length_le (by omega), show 8 + 3 * i - 8 = 3 * i by omega, List.take_append_of_le_length (by omega), List.drop_append, hPl, List.drop_of_length_le (by omega), show 8 + 3 * i + 3 - 8 = 3 * i + 3 by omega, List.drop_append_of_le_length (by omega)]
      simp
    rw [Nat.zero_add, show x.cells.length = 3 from rfl, e] at o
    exact o
  · have hy' : y ∈ J.slots ∨ y = x := List.mem_or_eq_of_mem_set hy
    rcases hy' with hy' | rfl
    · exact ⟨(h.slots y hy').1.touch hT (fun z hz => by simpa using ((h.slots y hy').2.2.2 z hz).1), (h.slots y hy').2⟩
    · exact ⟨hx.1.touch hT (fun z hz => by simpa using (hx.2.2.2 z hz).1), hx.2⟩
end Go.Proofs.YtdfgcenbkclpbaaDoor
