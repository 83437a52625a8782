/- The flash: what lies in memory, and what its functions come to. -/
import Derived.Test.YtdfgcenbkclpbaaDoorCrcWalk
import Derived.Test.YtdfgcenbkclpbaaDoorPlanHere
import Derived.Test.YtdfgcenbkclpbaaDoorMem
import Derived.ChangeKeysEq
import Derived.Laws.StructEq
namespace Go.Proofs.YtdfgcenbkclpbaaDoor
open Go.RowKit
set_option linter.unusedSimpArgs false
set_option linter.unusedVariables false
/-- a word of a flash -/
structure W4 where
  a : UInt8
  b : UInt8
  c : UInt8
  d : UInt8
  deriving DecidableEq, Inhabited
namespace W4
def bytes (x : W4) : List UInt8 := [x.a, x.b, x.c, x.d]
def cells (x : W4) : List Value := [u8v x.a, u8v x.b, u8v x.c, u8v x.d]
abbrev val (x : W4) : Value := .agg #[u8v x.a, u8v x.b, u8v x.c, u8v x.d]
def free : W4 := ⟨255, 255, 255, 255⟩
def zero : W4 := ⟨0, 0, 0, 0⟩
/-- no bit would go from 0 to 1 -/
def falls (x y : W4) : Bool := x.a &&& y.a == y.a && x.b &&& y.b == y.b && x.c &&& y.c == y.c && x.d &&& y.d == y.d
end W4
/-- the words' cells, one behind the other -/
def wordCells (l : List W4) : List Value := l.flatMap W4.cells
theorem wordCells_length (l : List W4) : (wordCells l).length = 4 * l.length := by
  induction l with
  | nil => rfl
  | cons x l ih => rw [show wordCells (x :: l) = x.cells ++ wordCells l from rfl, List.length_append, ih]; simp [W4.cells]; omega
theorem wordCells_cons (x : W4) (l : List W4) : wordCells (x :: l) = x.cells ++ wordCells l := rfl
theorem wordCells_append (l m : List W4) : wordCells (l ++ m) = wordCells l ++ wordCells m := by unfold wordCells; rw [List.flatMap_append]
theorem wordCells_at {l : List W4} {k : Nat} {x : W4} (h : l[k]? = some x) {j : Nat} {v : Value} (hv : x.cells[j]? = some v) : (wordCells l)[4 * k + j]? = some v := by
  induction l generalizing k with
  | nil => simp at h
  | cons y l ih =>
    rw [wordCells_cons]
    cases k with
    | zero =>
      simp at h; subst h
      have : j < y.cells.length := (List.getElem?_eq_some_iff.1 hv).1
      rw [List.getElem?_append_left (by omega), show 4 * 0 + j = j by omega]; exact hv
    | succ k =>
      have hl : y.cells.length = 4 := rfl
      rw [List.getElem?_append_right (by omega), show 4 * (k + 1) + j - y.cells.length = 4 * k + j by omega]
      exact ih (by simpa using h)
/-- what a flash has: its words, its power -/
structure Fl where
  mem : List W4
  count : Nat
  armed : Bool
  left : Int
  off : Bool
  steps : Int
/-- A FLASH IN MEMORY: its head in block f, its sectors in block s. -/
structure FlashAt (w : World) (f s : Nat) (F : Fl) : Prop where
  size : F.mem.length = 256 * F.count
  few : F.count ≤ 64
  pos : 0 < F.count
  apart : f ≠ s
  head : OwnAt w f 0 [.slice (some ⟨s, 0, none⟩) F.count F.count, .bool F.armed, .int .i64 F.left, .bool F.off, .int .i64 F.steps]
  mem : OwnAt w s 0 (wordCells F.mem)
abbrev ptr (b : Nat) : Value := .pointer (some ⟨b, 0, none⟩)
theorem FlashAt.touch {S : List Nat} {w w' : World} {f s : Nat} {F : Fl} (h : FlashAt w f s F) (ht : Touch S w w') (hf : f ∉ S) (hs : s ∉ S) : FlashAt w' f s F :=
  ⟨h.size, h.few, h.pos, h.apart, h.head.touch ht hf, h.mem.touch ht hs⟩
theorem FlashAt.drew {w : World} {f s : Nat} {F : Fl} (h : FlashAt w f s F) : FlashAt w.drew f s F := ⟨h.size, h.few, h.pos, h.apart, h.head.drew, h.mem.drew⟩
theorem FlashAt.alloc {w : World} {f s : Nat} {F : Fl} (h : FlashAt w f s F) (o : Obj) : FlashAt (w.alloc o) f s F := h.touch ((Touch.refl [] _).alloc _) (by simp) (by simp)
theorem FlashAt.flt {w : World} {f s : Nat} {F : Fl} (h : FlashAt w f s F) : f < w.heap.size := h.head.lt (by simp)
theorem FlashAt.slt {w : World} {f s : Nat} {F : Fl} (h : FlashAt w f s F) : s < w.heap.size := h.mem.lt (by rw [wordCells_length, h.size]; have := h.pos; omega)
theorem FlashAt.other {w : World} {f s : Nat} {F : Fl} (h : FlashAt w f s F) {p : Addr} (hf : p.block ≠ f) (hs : p.block ≠ s) (v : Value) : FlashAt (w.setCell p v) f s F := ⟨h.size, h.few, h.pos, h.apart, h.head.other hf v, h.mem.other hs v⟩
theorem FlashAt.others {w : World} {f s : Nat} {F : Fl} (h : FlashAt w f s F) {c o : Nat} (hf : c ≠ f) (hs : c ≠ s) (vs : List Value) : FlashAt (w.setCells c o vs) f s F := ⟨h.size, h.few, h.pos, h.apart, h.head.others hf vs, h.mem.others hs vs⟩
theorem FlashAt.word {w : World} {f s : Nat} {F : Fl} (h : FlashAt w f s F) {k : Nat} {x : W4} (hx : F.mem[k]? = some x) : w.rangeAt s (4 * k) x.cells := by
  have := h.mem.range (i := 4 * k) (cs := x.cells) fun j v hv => wordCells_at hx hv
  rwa [Nat.zero_add] at this
theorem FlashAt.there {w : World} {f s : Nat} {F : Fl} (h : FlashAt w f s F) {k : Nat} (hk : k < F.mem.length) : w.there s (4 * k) 4 := by
  have := h.mem.there (i := 4 * k) (n := 4) (by rw [wordCells_length]; omega)
  rwa [Nat.zero_add] at this
theorem wordCells_put (l : List W4) (k : Nat) (y : W4) (hk : k < l.length) : (wordCells l).take (4 * k) ++ y.cells ++ (wordCells l).drop (4 * k + 4) = wordCells (l.set k y) := by
  induction l generalizing k with
  | nil => simp at hk
  | cons x l ih =>
    cases k with
    | zero => simp [wordCells_cons, W4.cells]
    | succ k =>
      have := ih k (by simpa using hk)
      rw [List.set_cons_succ, wordCells_cons, wordCells_cons, ← this]
      simp [W4.cells, show 4 * (k + 1) = 4 * k + 4 by omega]
theorem FlashAt.put {w : World} {f s : Nat} {F : Fl} (h : FlashAt w f s F) {k : Nat} (hk : k < F.mem.length) (y : W4) : FlashAt (w.setCells s (4 * k) y.cells) f s { F with mem := F.mem.set k y } := by
  refine ⟨by simpa using h.size, h.few, h.pos, h.apart, h.head.others (fun e => h.apart e.symm) _, ?_⟩
  have := h.mem.setCells (4 * k) y.cells (by rw [wordCells_length]; show 4 * k + 4 ≤ _; omega)
  rw [Nat.zero_add, show y.cells.length = 4 from rfl, wordCells_put _ _ _ hk] at this
  exact this
theorem FlashAt.h0 {w : World} {f s : Nat} {F : Fl} (h : FlashAt w f s F) : w.cell? ⟨f, 0, none⟩ = some (.slice (some ⟨s, 0, none⟩) F.count F.count) := h.head.get 0 (by simp)
theorem FlashAt.h1 {w : World} {f s : Nat} {F : Fl} (h : FlashAt w f s F) : w.cell? ⟨f, 1, none⟩ = some (.bool F.armed) := h.head.get 1 (by simp)
theorem FlashAt.h2 {w : World} {f s : Nat} {F : Fl} (h : FlashAt w f s F) : w.cell? ⟨f, 2, none⟩ = some (.int .i64 F.left) := h.head.get 2 (by simp)
theorem FlashAt.h3 {w : World} {f s : Nat} {F : Fl} (h : FlashAt w f s F) : w.cell? ⟨f, 3, none⟩ = some (.bool F.off) := h.head.get 3 (by simp)
theorem FlashAt.h4 {w : World} {f s : Nat} {F : Fl} (h : FlashAt w f s F) : w.cell? ⟨f, 4, none⟩ = some (.int .i64 F.steps) := h.head.get 4 (by simp)
theorem FlashAt.free {w : World} {f s : Nat} {F : Fl} (h : FlashAt w f s F) (j : Nat) (hj : j < 5) : w.frozen? ⟨f, j, none⟩ = false := by
  have := h.head.free j (by simpa using hj); rwa [Nat.zero_add] at this
theorem flash_sectors (w : World) (f s : Nat) (F : Fl) (h : FlashAt w f s F) :
    Calls Tryd.prog 37 #[ptr f] w fun e w' => e = .returned (.int .i64 F.count) ∧ w' = w := by
  have h0 := h.h0
  go_enter Tryd.func37, Tryd.ntmps37
  go_wp2_with fail
  go_ret
  exact ⟨rfl, rfl⟩
theorem flash_off (w : World) (f s : Nat) (F : Fl) (h : FlashAt w f s F) :
    Calls Tryd.prog 28 #[ptr f] w fun e w' => e = .returned (.bool F.off) ∧ w' = w := by
  have h0 := h.h3
  go_enter Tryd.func28, Tryd.ntmps28
  go_wp2_with fail
  go_ret
  exact ⟨rfl, rfl⟩
set_option maxRecDepth 100000 in
theorem flash_at (w : World) (f s : Nat) (F : Fl) (i k : Nat) (h : FlashAt w f s F) (ho : F.off = false) (hi : i < F.count) (hk : k < 256) :
    Calls Tryd.prog 34 #[ptr f, .int .i64 i, .int .i64 k] w fun e w' => e = .returned (.tuple #[.pointer (some ⟨s, 4 * (256 * i + k), none⟩), .int .i64 0]) ∧ w' = w := by
  have h0 := h.h0
  have h3 := h.h3
  have hf := h.few
  rw [ho] at h3
  have hi' : (i : Int) < (F.count : Int) := by omega
  have hk' : (k : Int) < 256 := by omega
  go_enter Tryd.func34, Tryd.ntmps34
  go_wp2_with fail
  go_ret2
  refine ⟨?_, rfl⟩
  simp
/-- a word's load and store, as the walk meets them -/
theorem wp_load_word {ops : Array Oper} {rest : List Oper} {op : Oper} {a : Act} {w : World} {Q : Exit → Act → World → Prop} {x : Operand} {b o : Nat} {y : W4} (hc : w.rangeAt b o y.cells) (hgd : op.guard = none) (ho : op.op = .load 30 x)
    (hx : a.eval x = .pointer (some ⟨b, o, none⟩)) (h : wpList Tryd.prog ops Q rest (a.put op.dst y.val) w) : wpList Tryd.prog ops Q (op :: rest) a w :=
  wpList_load_mid hgd 30 x ho b o hx y.cells _ hc Tryd.underlying30 rfl (by kernel_rfl) h
theorem wp_store_word {ops : Array Oper} {rest : List Oper} {op : Oper} {a : Act} {w : World} {Q : Exit → Act → World → Prop} {x z : Operand} {b o : Nat} {y : W4} (hc : w.there b o 4) (hgd : op.guard = none) (ho : op.op = .store 30 x z)
    (hx : a.eval x = .pointer (some ⟨b, o, none⟩)) (hy : a.eval z = y.val) (h : wpList Tryd.prog ops Q rest (a.put op.dst undef) (w.setCells b o y.cells)) : wpList Tryd.prog ops Q (op :: rest) a w :=
  wpList_store_mid hgd 30 x z ho b o #[u8v y.a, u8v y.b, u8v y.c, u8v y.d] hx hy hc (by kernel_rfl) (by simp [Value.oneCell']) h
theorem part_u8 (cs : Array Value) (i : Nat) (v : Value) (h : cs[i]? = some v) (w : World) : (part 5 cs i).run Tryd.prog w = .ok v w := by
  have hagg : (isAgg 5).run Tryd.prog w = .ok false w := by
    unfold isAgg
    rw [Sem.run_bind, run_underlying Tryd.underlying5 w]
    simp
  unfold part
  simp [Sem.run_bind, hagg, h]
theorem u8_beq (a b : UInt8) : ((a.toNat : Int) == (b.toNat : Int)) = (a == b) := by
  rw [Bool.eq_iff_iff, beq_iff_eq, beq_iff_eq]
  exact ⟨fun h => UInt8.toNat_inj.1 (by omega), fun h => by rw [h]⟩
theorem eqItems_u8 (xs ys : Array Value) (i : Nat) (is : List Nat) (a b : UInt8) (w : World) (hx : xs[i]? = some (u8v a)) (hy : ys[i]? = some (u8v b)) :
    (Op.eqItems 9999 5 1 xs ys (i :: is)).run Tryd.prog w = if a = b then (Op.eqItems 9999 5 1 xs ys is).run Tryd.prog w else .ok false w := by
  have e : (Op.equalIn 9999 5 (u8v a) (u8v b)).run Tryd.prog w = .ok (a == b) w := by
    rw [run_equalIn_int w 9998 5 .u8 .u8 _ _ Tryd.underlying5, u8_beq]
  rw [Op.eqItems, Sem.run_bind, Nat.mul_one, part_u8 xs i _ hx, Result.andThen_ok, Sem.run_bind, part_u8 ys i _ hy, Result.andThen_ok, Sem.run_bind, e, Result.andThen_ok]
  by_cases h : a = b
  · subst h; simp
  · simp [h]
theorem word_equal (x y : W4) (w : World) : (Op.equalIn 10000 30 x.val y.val).run Tryd.prog w = .ok (decide (x = y)) w := by
  have hi : ∃ i, Tryd.prog.info? 5 = some i := by
    have : (Tryd.prog.info? 5).isSome = true := by kernel_rfl
    exact Option.isSome_iff_exists.1 this
  obtain ⟨i, hi⟩ := hi
  rw [run_equalIn_array w 9999 _ _ Tryd.underlying30 hi, show Tryd.prog.cellsOf 5 = 1 from by kernel_rfl, show List.range 4 = [0, 1, 2, 3] from rfl,
    eqItems_u8 _ _ 0 _ x.a y.a w rfl rfl, eqItems_u8 _ _ 1 _ x.b y.b w rfl rfl, eqItems_u8 _ _ 2 _ x.c y.c w rfl rfl, eqItems_u8 _ _ 3 _ x.d y.d w rfl rfl]
  rcases x with ⟨a, b, c, d⟩
  rcases y with ⟨a', b', c', d'⟩
  simp only [W4.mk.injEq]
  by_cases h1 : a = a' <;> by_cases h2 : b = b' <;> by_cases h3 : c = c' <;> by_cases h4 : d = d' <;> simp [h1, h2, h3, h4, Op.eqItems]
theorem flash_word (w : World) (f s : Nat) (F : Fl) (i k : Nat) (x : W4) (h : FlashAt w f s F) (ho : F.off = false) (hi : i < F.count) (hk : k < 256) (hx : F.mem[256 * i + k]? = some x) :
    Calls Tryd.prog 62 #[ptr f, .int .i64 i, .int .i64 k] w fun e w' => e = .returned (.tuple #[x.val, .int .i64 0]) ∧ Touch [] w w' := by
  go_enter Tryd.func62, Tryd.ntmps62
  have hA := h.alloc (.cells #[Value.int IntKind.u8 0, Value.int IntKind.u8 0, Value.int IntKind.u8 0, Value.int IntKind.u8 0] 30)
  have hr := hA.word hx
  have hT := (Touch.refl [] w).alloc (.cells #[Value.int IntKind.u8 0, Value.int IntKind.u8 0, Value.int IntKind.u8 0, Value.int IntKind.u8 0] 30)
  have hn := OwnAt.new w #[Value.int IntKind.u8 0, Value.int IntKind.u8 0, Value.int IntKind.u8 0, Value.int IntKind.u8 0] 30
  have ht := hn.there (i := 0) (n := 4) (by simp)
  go_wp2_with (first | (refine wp_load_word hr rfl rfl rfl ?_) | (refine wp_store_word (y := x) ht rfl rfl rfl rfl ?_) | ((with_reducible refine (flash_at _ f s F i k ?_ ho hi hk).mono ?_); (exact hA); rintro e w1 ⟨rfl, rfl⟩))
  have hs := World.rangeAt_setCells_same _ w.heap.size 0 x.cells ht
  have hT2 := hT.setCells (b := w.heap.size) (Or.inr (Nat.le_refl _)) x.cells (o := 0)
  exact ret_range_tmp hs rfl rfl Tryd.underlying30 rfl (by kernel_rfl) rfl ⟨rfl, hT2⟩
set_option maxRecDepth 100000 in
theorem write_does (w : World) (cb cx s o : Nat) (y : W4) (hb : w.rangeAt cb 0 y.cells) (hx : w.cell? ⟨cx, 0, none⟩ = some (.pointer (some ⟨s, o, none⟩))) (ht : w.there s o 4) :
    Calls Tryd.prog 36 #[ptr cb, ptr cx] w fun e w' => e = .returned (.tuple #[]) ∧ w' = w.setCells s o y.cells := by
  go_enter Tryd.func36, Tryd.ntmps36
  go_wp2_with (first | refine wp_load_word hb rfl rfl rfl ?_ | refine wp_store_word (y := y) ht rfl rfl rfl rfl ?_)
  go_end0
  exact ⟨rfl, rfl⟩
theorem FlashAt.setLeft {w : World} {f s : Nat} {F : Fl} (h : FlashAt w f s F) (v : Int) : FlashAt (w.setCell ⟨f, 2, none⟩ (.int .i64 v)) f s { F with left := v } :=
  ⟨h.size, h.few, h.pos, h.apart, h.head.set0 2 _ (by simp), h.mem.other h.apart _⟩
theorem FlashAt.setSteps {w : World} {f s : Nat} {F : Fl} (h : FlashAt w f s F) (v : Int) : FlashAt (w.setCell ⟨f, 4, none⟩ (.int .i64 v)) f s { F with steps := v } :=
  ⟨h.size, h.few, h.pos, h.apart, h.head.set0 4 _ (by simp), h.mem.other h.apart _⟩
theorem FlashAt.setOff {w : World} {f s : Nat} {F : Fl} (h : FlashAt w f s F) (v : Bool) : FlashAt (w.setCell ⟨f, 3, none⟩ (.bool v)) f s { F with off := v } :=
  ⟨h.size, h.few, h.pos, h.apart, h.head.set0 3 _ (by simp), h.mem.other h.apart _⟩
theorem FlashAt.setArmed {w : World} {f s : Nat} {F : Fl} (h : FlashAt w f s F) (v : Bool) : FlashAt (w.setCell ⟨f, 1, none⟩ (.bool v)) f s { F with armed := v } :=
  ⟨h.size, h.few, h.pos, h.apart, h.head.set0 1 _ (by simp), h.mem.other h.apart _⟩
/-- does the power go at the next step? -/
def Fl.stops (F : Fl) : Bool := F.armed && F.left == 0
def Fl.went (F : Fl) : Fl := { F with left := wrap64 (F.left - 1), steps := wrap64 (F.steps + 1) }
theorem step_write_cut (w : World) (f s : Nat) (F : Fl) (c : Array Value) (h : FlashAt w f s F) (hs : F.stops = true) :
    Calls Tryd.prog 35 #[ptr f, .func (.func 36) #[] c] w fun e w' => e = .returned (.int .i64 7) ∧ FlashAt w' f s { F with off := true } ∧ Touch [f] w w' := by
  have h1 := h.h1
  have h2 := h.h2
  have h3 := h.h3
  have hf := h.free 3 (by omega)
  have ha : F.armed = true := by unfold Fl.stops at hs; simp at hs; exact hs.1
  have hl : F.left = 0 := by unfold Fl.stops at hs; simp at hs; exact hs.2
  rw [ha] at h1
  rw [hl] at h2
  clear ha hl hs
  go_enter Tryd.func35, Tryd.ntmps35
  go_wp2_with fail
  go_ret
  exact ⟨rfl, h.setOff true, (Touch.refl _ _).setCell (by simp) _⟩
theorem step_write (w : World) (f s : Nat) (F : Fl) (cb cx k : Nat) (y : W4) (h : FlashAt w f s F) (hs : F.stops = false) (hk : k < F.mem.length) (hb : w.rangeAt cb 0 y.cells) (hcb : cb ≠ f) (hcx : cx ≠ f) (hx : w.cell? ⟨cx, 0, none⟩ = some (.pointer (some ⟨s, 4 * k, none⟩))) :
    Calls Tryd.prog 35 #[ptr f, .func (.func 36) #[] #[ptr cb, ptr cx]] w fun e w' => e = .returned (.int .i64 0) ∧ FlashAt w' f s { F.went with mem := F.mem.set k y } ∧ Touch [f, s] w w' := by
  have h1 := h.h1
  have h2 := h.h2
  have h4 := h.h4
  have hf2 := h.free 2 (by omega)
  have hf4 := h.free 4 (by omega)
  have hL := (h.setLeft (wrap64 (F.left - 1))).setSteps (wrap64 (F.steps + 1))
  have hT : Touch [f, s] w ((w.setCell ⟨f, 2, none⟩ (.int .i64 (wrap64 (F.left - 1)))).setCell ⟨f, 4, none⟩ (.int .i64 (wrap64 (F.steps + 1)))) := ((Touch.refl _ _).setCell (by simp) _).setCell (by simp) _
  have hb' : ((w.setCell ⟨f, 2, none⟩ (.int .i64 (wrap64 (F.left - 1)))).setCell ⟨f, 4, none⟩ (.int .i64 (wrap64 (F.steps + 1)))).rangeAt cb 0 y.cells := fun j v hv => by
    rw [World.cell?_setCell_other _ _ _ _ (by intro e; injection e with e; exact hcb e.symm), World.cell?_setCell_other _ _ _ _ (by intro e; injection e with e; exact hcb e.symm)]; exact hb j v hv
  have hx' : ((w.setCell ⟨f, 2, none⟩ (.int .i64 (wrap64 (F.left - 1)))).setCell ⟨f, 4, none⟩ (.int .i64 (wrap64 (F.steps + 1)))).cell? ⟨cx, 0, none⟩ = some (.pointer (some ⟨s, 4 * k, none⟩)) := by
    rw [World.cell?_setCell_other _ _ _ _ (by intro e; injection e with e; exact hcx e.symm), World.cell?_setCell_other _ _ _ _ (by intro e; injection e with e; exact hcx e.symm)]; exact hx
  have hth := hL.there (k := k) (by simpa using hk)
  have hput := hL.put (k := k) (by simpa using hk) y
  have hT2 := hT.setCells (b := s) (by simp) y.cells (o := 4 * k)
  have hs' : (F.armed = true → (F.left == 0) = false) := by unfold Fl.stops at hs; simpa using hs
  clear hs
  go_enter Tryd.func35, Tryd.ntmps35
  cases ha : F.armed with
  | true =>
    rw [ha] at h1 hs'
    have hl := hs' rfl
    clear hs'
    go_wp2_with fail
    refine (write_does _ cb cx s (4 * k) y hb' hx' hth).mono ?_
    rintro e w1 ⟨rfl, rfl⟩
    go_wp2_with fail
    go_ret
    exact ⟨rfl, by simpa [ha, Fl.went] using hput, hT2⟩
  | false =>
    rw [ha] at h1
    clear hs'
    go_wp2_with fail
    refine (write_does _ cb cx s (4 * k) y hb' hx' hth).mono ?_
    rintro e w1 ⟨rfl, rfl⟩
    go_wp2_with fail
    go_ret
    exact ⟨rfl, by simpa [ha, Fl.went] using hput, hT2⟩
end Go.Proofs.YtdfgcenbkclpbaaDoor
