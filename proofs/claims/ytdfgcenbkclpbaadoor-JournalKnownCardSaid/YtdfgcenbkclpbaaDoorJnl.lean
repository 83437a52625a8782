/- A journal in memory; is there room? -/
import Derived.Test.YtdfgcenbkclpbaaDoorWrite
namespace Go.Proofs.YtdfgcenbkclpbaaDoor
open Go.RowKit
set_option linter.unusedSimpArgs false
set_option linter.unusedVariables false
/-- a group of a journal, with where its bytes lie -/
structure Slot where
  there : Bool
  marked : Bool
  b : List UInt8
  a : Option Addr
  cap : Nat
def Slot.cells (x : Slot) : List Value := [.bool x.there, .bool x.marked, .slice x.a x.b.length x.cap]
abbrev Slot.val (x : Slot) : Value := groupV x.there x.marked x.a x.b.length x.cap
def slotCells (l : List Slot) : List Value := l.flatMap Slot.cells
theorem slotCells_cons (x : Slot) (l : List Slot) : slotCells (x :: l) = x.cells ++ slotCells l := rfl
theorem slotCells_length (l : List Slot) : (slotCells l).length = 3 * l.length := by
  induction l with
  | nil => rfl
  | cons x l ih => rw [slotCells_cons, List.length_append, ih, List.length_cons]; show 3 + _ = _; omega
theorem slotCells_at {l : List Slot} {k : Nat} {x : Slot} (h : l[k]? = some x) {j : Nat} {v : Value} (hv : x.cells[j]? = some v) : (slotCells l)[3 * k + j]? = some v := by
  induction l generalizing k with
  | nil => simp at h
  | cons y l ih =>
    rw [slotCells_cons]
    cases k with
    | zero =>
      simp at h; subst h
      have : j < y.cells.length := (List.getElem?_eq_some_iff.1 hv).1
      rw [List.getElem?_append_left (by omega), show 3 * 0 + j = j by omega]; exact hv
    | succ k =>
      have hl : y.cells.length = 3 := rfl
      rw [List.getElem?_append_right (by omega), show 3 * (k + 1) + j - y.cells.length = 3 * k + j by omega]
      exact ih (by simpa using h)
/-- what a journal has -/
structure Jn where
  first : Nat
  other : Nat
  count : Nat
  gen : Nat
  next : Nat
  slots : List Slot
  cut : Bool
def Jn.cells (f : Nat) (J : Jn) : List Value :=
  [ptr f, .int .i64 J.first, .int .i64 J.count, ptr f, .int .i64 J.other, .int .i64 J.count, .int .u32 J.gen, .int .i64 J.next] ++ slotCells J.slots ++ [.bool J.cut]
/-- A JOURNAL IN MEMORY, in block j, over the flash in blocks f and s -/
structure JnAt (w : World) (j f s : Nat) (J : Jn) : Prop where
  own : OwnAt w j 0 (J.cells f)
  sixteen : J.slots.length = 16
  apart : j ≠ f ∧ j ≠ s
  few : J.count ≤ 32
  gen : J.gen < 4294967296
  slots : ∀ x ∈ J.slots, SliceAt w x.a (x.b.map u8v) ∧ x.b.length ≤ 4096 ∧ (x.a = none → x.b.length = 0 ∧ x.cap = 0) ∧ ∀ y, x.a = some y → y.block ≠ j ∧ y.block ≠ f ∧ y.block ≠ s
theorem Jn.cells_length (f : Nat) (J : Jn) : (J.cells f).length = 9 + 3 * J.slots.length := by
  unfold Jn.cells; rw [List.length_append, List.length_append, slotCells_length]; simp; omega
theorem JnAt.touch {S : List Nat} {w w' : World} {j f s : Nat} {J : Jn} (h : JnAt w j f s J) (ht : Touch S w w') (hj : j ∉ S) (hS : ∀ k ∈ S, k = f ∨ k = s ∨ k = j) : JnAt w' j f s J :=
  ⟨h.own.touch ht hj, h.sixteen, h.apart, h.few, h.gen, fun x hx => ⟨(h.slots x hx).1.touch ht (fun y hy hm => by
    obtain ⟨a, b, c⟩ := (h.slots x hx).2.2.2 y hy
    rcases hS _ hm with e | e | e
    · exact b e
    · exact c e
    · exact a e), (h.slots x hx).2⟩⟩
theorem room_any (w : World) (n : Nat) (hn : n ≤ 100000) : Calls Tryd.prog 67 #[.int .i64 n] w fun e w' => e = .returned (.int .i64 ((12 + (n + 3) / 4 * 4 : Nat) : Int)) ∧ w' = w := by
  go_enter Tryd.func67, Tryd.ntmps67
  go_wp2_with fail
  go_ret
  refine ⟨?_, rfl⟩
  simp
theorem wp_load_groups {ops : Array Oper} {rest : List Oper} {op : Oper} {a : Act} {w : World} {Q : Exit → Act → World → Prop} {x : Operand} {b o : Nat} {l : List Slot} (hc : w.rangeAt b o (slotCells l)) (hl : l.length = 16) (hgd : op.guard = none) (ho : op.op = .load 79 x)
    (hx : a.eval x = .pointer (some ⟨b, o, none⟩)) (h : wpList Tryd.prog ops Q rest (a.put op.dst (.agg (slotCells l).toArray)) w) : wpList Tryd.prog ops Q (op :: rest) a w :=
  wpList_load_mid hgd 79 x ho b o hx (slotCells l) _ hc Tryd.underlying79 rfl (by rw [slotCells_length, hl]; kernel_rfl) h
theorem slotCells_extract {l : List Slot} {k : Nat} {x : Slot} (h : l[k]? = some x) : (slotCells l).toArray.extract (k * 3) (k * 3 + 3) = x.cells.toArray := by
  have hk := (List.getElem?_eq_some_iff.1 h).1
  apply Array.ext
  · simp only [Array.size_extract, List.size_toArray, slotCells_length]
    show _ = 3
    omega
  · intro i h1 h2
    have hi : i < 3 := h2
    simp only [Array.getElem_extract, List.getElem_toArray]
    have e := slotCells_at h (j := i) (v := x.cells[i]) (List.getElem?_eq_getElem h2)
    rw [show 3 * k + i = k * 3 + i by omega] at e
    exact (List.getElem?_eq_some_iff.1 e).2
theorem index_group {l : List Slot} {k : Nat} {x : Slot} (hl : l.length = 16) (h : l[k]? = some x) (w : World) : (Instr.index 79 (.agg (slotCells l).toArray) (.int .i64 k)).run Tryd.prog w = .ok x.val w := by
  have hk := (List.getElem?_eq_some_iff.1 h).1
  have hi : (Tryd.prog.info? 78).map (·.size) = some 3 := by kernel_rfl
  obtain ⟨i, hq, hs⟩ := Option.map_eq_some_iff.1 hi
  have hagg : (isAgg 78).run Tryd.prog w = .ok true w := by
    unfold isAgg
    rw [Sem.run_bind, run_underlying Tryd.underlying78 w]
    simp
  have hp : (part 78 (slotCells l).toArray (k * 3)).run Tryd.prog w = .ok x.val w := by
    have hso : (sizeOf 78).run Tryd.prog w = .ok 3 w := by simp [sizeOf, typeInfo, hq, hs]
    unfold part
    simp only [Sem.run_bind, hagg, Result.andThen_ok, if_true, hso, Sem.run_pure, slotCells_extract h]
    rfl
  unfold Instr.index
  have h1 : (0 : Int) ≤ (k : Int) ∧ (k : Int) < 16 := by omega
  simp [asIntOf, run_underlying Tryd.underlying79, sizeOf, typeInfo, hq, hs, h1, hp]
  omega
end Go.Proofs.YtdfgcenbkclpbaaDoor
