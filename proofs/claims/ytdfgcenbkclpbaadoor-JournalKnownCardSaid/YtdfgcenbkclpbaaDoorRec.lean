/- Records of a journal: length, sum, recordOf. -/
import Derived.Test.YtdfgcenbkclpbaaDoorHalfB
namespace Go.Proofs.YtdfgcenbkclpbaaDoor
open Go.RowKit
set_option linter.unusedSimpArgs false
set_option linter.unusedVariables false
/-- a record, as a value -/
abbrev recCells (h : W4) (A : Option Addr) (n c : Nat) : List Value := [u8v h.a, u8v h.b, u8v h.c, u8v h.d, .slice A n c]
abbrev recV (h : W4) (A : Option Addr) (n c : Nat) : Value := .agg #[u8v h.a, u8v h.b, u8v h.c, u8v h.d, .slice A n c]
/-- a record's last word -/
def sumW (h : W4) (b : List UInt8) : W4 := ⟨UInt8.ofNat (Crc.add (Crc.add 0#16 h.bytes) b).toNat, UInt8.ofNat ((Crc.add (Crc.add 0#16 h.bytes) b).toNat / 256), 0x5A, 0xA5⟩
theorem rec_length (w : World) (h : W4) (A : Option Addr) (n c : Nat) (hn : n ≤ 70000) : Calls Tryd.prog 53 #[recV h A n c] w fun e w' => e = .returned (.int .i64 ((2 + (n + 3) / 4 : Nat) : Int)) ∧ Touch [] w w' := by
  go_enter Tryd.func53, Tryd.ntmps53
  go_wp2_with fail
  go_ret
  refine ⟨?_, (Touch.refl _ _).alloc _⟩
  simp
theorem sum_len (A : Option Addr) (len c : Nat) (l : List UInt8) (hlen : len = l.length) (w : World) (hl : l.length ≤ 140737488355328) (hs : SliceAt w A (l.map u8v)) :
    Calls Tryd.prog 71 #[.slice A len c] w fun e w' => e = .returned (u16v (Crc.add 0#16 l)) ∧ Below w.heap.size w w' := by
  subst hlen
  exact sum_any A c l w hl hs
theorem OwnAt.part {w : World} {g : Nat} {l : List Value} (h : OwnAt w g 0 l) (m : List Value) (hm : ∀ (j : Nat) (v : Value), m[j]? = some v → l[j]? = some v) : SliceAt w (some ⟨g, 0, none⟩) m := .mk' fun j v hv => h.cells j v (hm j v hv)
set_option maxRecDepth 100000 in
theorem rec_sum (w : World) (h : W4) (A : Option Addr) (c : Nat) (b : List UInt8) (hb : b.length ≤ 70000) (hA : SliceAt w A (b.map u8v)) : Calls Tryd.prog 65 #[recV h A b.length c] w fun e w' => e = .returned (sumW h b).val ∧ Touch [] w w' := by
  have hO := (OwnAt.new w #[u8v h.a, u8v h.b, u8v h.c, u8v h.d, .slice A b.length c] 98).alloc (.cells zeroW 30)
  have hZ := OwnAt.new' (w.alloc (.cells #[u8v h.a, u8v h.b, u8v h.c, u8v h.d, .slice A b.length c] 98)) zeroW 30 (g := w.heap.size + 1) (by simp)
  have hT := ((Touch.refl [] w).alloc (.cells #[u8v h.a, u8v h.b, u8v h.c, u8v h.d, .slice A b.length c] 98)).alloc (.cells zeroW 30)
  have hA1 := hA.touch hT (by simp)
  have hs : sumW h b = ⟨UInt8.ofNat (Crc.add (Crc.add 0#16 h.bytes) b).toNat, UInt8.ofNat ((Crc.add (Crc.add 0#16 h.bytes) b).toNat / 256), 0x5A, 0xA5⟩ := rfl
  have HS := Lib.hid hs
  clear hs
  go_enter Tryd.func65, Tryd.ntmps65
  go_wp2_with fail
  refine wp_region_legs (fun w' => OwnAt w' w.heap.size 0 (recCells h A b.length c) ∧ SliceAt w' A (b.map u8v)) [⟨[0, 1, 3, 4], some 2⟩, ⟨[], some 5⟩, ⟨[6], none⟩] (by kernel_rfl) (by kernel_rfl) ?_
  refine legs_onS ?_ ⟨hO.drew, hA1.drew⟩ (fun w' hSw => ?_) ?_ ?_
  rotate_left
  · have c4 := hSw.1.get 4 (by simp)
    simp only [Nat.zero_add, List.getElem_cons_zero, List.getElem_cons_succ] at c4
    simp only [pick, nthOp]; go_wp2_with fail; refine And.intro ?_ ?_ <;> rfl
  · kernel_rfl
  simp only [pick, nthOp]
  go_wp2_with fail
  have hB : ∀ W, OwnAt W w.heap.size 0 (recCells h A b.length c) → SliceAt W (some ⟨w.heap.size, 0, none⟩) (h.bytes.map u8v) := fun W hW => hW.part _ (by
    intro j v hv
    match j, hv with
    | 0, hv | 1, hv | 2, hv | 3, hv => simpa [W4.bytes] using hv
    | _ + 4, hv => simp [W4.bytes] at hv)
  refine (sum_len _ 4 4 h.bytes rfl _ (by simp [W4.bytes]) (hB _ hO.drew)).mono ?_
  rintro e w1 ⟨rfl, hb1⟩
  have hT1 : Touch [] _ w1 := Touch.of_below hb1
  have hS1 : OwnAt w1 w.heap.size 0 (recCells h A b.length c) ∧ SliceAt w1 A (b.map u8v) := ⟨hO.drew.touch hT1 (by simp), hA1.drew.touch hT1 (by simp)⟩
  go_wp2_with fail
  refine legs_nextS hS1 ?_
  refine legs_onS ?_ hS1 (fun w' hSw => ?_) ?_ ?_
  rotate_left
  · simp only [pick, nthOp]; go_wp2_with fail; refine And.intro ?_ ?_ <;> rfl
  · kernel_rfl
  simp only [pick, nthOp]
  go_wp2_with fail
  refine (add_any _ rfl A c b _ (by omega) hS1.2).mono ?_
  rintro e w2 ⟨rfl, hb2⟩
  have hT2 : Touch [] _ w2 := Touch.of_below hb2
  have hS2 : OwnAt w2 w.heap.size 0 (recCells h A b.length c) ∧ SliceAt w2 A (b.map u8v) := ⟨hS1.1.touch hT2 (by simp), hS1.2.touch hT2 (by simp)⟩
  go_wp2_with fail
  refine legs_nextS hS2 ?_
  refine legs_rowS ?_ hS2 (fun w' hSw => ?_) ?_ ?_
  rotate_left
  · simp only [pick, nthOp]; go_wp2_with fail; refine And.intro ?_ ?_ <;> rfl
  · kernel_rfl
  refine legs_endS ?_
  have hth := ((hZ.drew.touch hT1 (by simp)).touch hT2 (by simp)).there (i := 0) (n := 4) (by simp)
  rw [Nat.zero_add] at hth
  have hTT := (((hT.drew).trans hT1).trans hT2).setCells (b := w.heap.size + 1) (Or.inr (by omega)) (sumW h b).cells (o := 0)
  have hr := World.rangeAt_setCells_same _ (w.heap.size + 1) 0 (sumW h b).cells hth
  have q0 := u8_wrap (Crc.add (Crc.add 0#16 h.bytes) b).toNat
  have q1 := u8_wrap ((Crc.add (Crc.add 0#16 h.bytes) b).toNat / 256)
  simp only [Int.natCast_ediv, Int.cast_ofNat_Int] at q1
  go_wp2_with (refine wp_store_word (y := sumW h b) (b := w.heap.size + 1) (o := 0) ?_ rfl rfl rfl rfl ?_; (with_reducible exact hth))
  exact ret_word hr rfl rfl rfl ⟨rfl, hTT⟩
theorem wp_load_rec {ops : Array Oper} {rest : List Oper} {op : Oper} {a : Act} {w : World} {Q : Exit → Act → World → Prop} {x : Operand} {b o : Nat} {y : W4} {A : Option Addr} {n c : Nat} (hc : w.rangeAt b o (recCells y A n c)) (hgd : op.guard = none) (ho : op.op = .load 98 x)
    (hx : a.eval x = .pointer (some ⟨b, o, none⟩)) (h : wpList Tryd.prog ops Q rest (a.put op.dst (recV y A n c)) w) : wpList Tryd.prog ops Q (op :: rest) a w :=
  wpList_load_mid hgd 98 x ho b o hx (recCells y A n c) _ hc Tryd.underlying98 rfl (by kernel_rfl) h
theorem wp_store_rec {ops : Array Oper} {rest : List Oper} {op : Oper} {a : Act} {w : World} {Q : Exit → Act → World → Prop} {x z : Operand} {b o : Nat} {y : W4} {A : Option Addr} {n c : Nat} (hc : w.there b o 5) (hgd : op.guard = none) (ho : op.op = .store 98 x z)
    (hx : a.eval x = .pointer (some ⟨b, o, none⟩)) (hy : a.eval z = recV y A n c) (h : wpList Tryd.prog ops Q rest (a.put op.dst undef) (w.setCells b o (recCells y A n c))) : wpList Tryd.prog ops Q (op :: rest) a w :=
  wpList_store_mid hgd 98 x z ho b o #[u8v y.a, u8v y.b, u8v y.c, u8v y.d, .slice A n c] hx hy hc (by kernel_rfl) (by simp [Value.oneCell']) h
theorem ret_rec {fn : Func} {R : Ending → World → Prop} {p : Tmp} {a : Act} {w : World} {b o : Nat} {x : W4} {A : Option Addr} {n c : Nat} (hc : w.rangeAt b o (recCells x A n c)) (h : fn.results = #[.cell p 98])
    (hp : a.tmps.getD p undef = .pointer (some ⟨b, o, none⟩)) (hde : a.defers = []) (hR : R (.returned (recV x A n c)) w) : bodyPost Tryd.prog fn R .ret a w :=
  ret_range hc h hp Tryd.underlying98 rfl (by kernel_rfl) hde hR
/-- a group, as a value -/
abbrev groupV (there marked : Bool) (A : Option Addr) (n c : Nat) : Value := .agg #[.bool there, .bool marked, .slice A n c]
/-- a record's first word -/
def headOf (i : Nat) (kind : UInt8) (n : Nat) : W4 := ⟨UInt8.ofNat i, kind, UInt8.ofNat n, UInt8.ofNat (n / 256)⟩
abbrev zeroRec : Array Value := #[Value.int .u8 0, Value.int .u8 0, Value.int .u8 0, Value.int .u8 0, Value.slice none 0 0]
set_option maxRecDepth 100000 in
theorem recordOf_kept (w : World) (i : Nat) (t : Bool) (A : Option Addr) (n c : Nat) (hi : i < 256) (hn : n ≤ 4096) : Calls Tryd.prog 51 #[.int .i64 i, groupV t false A n c] w fun e w' => e = .returned (recV (headOf i 1 n) A n c) ∧ Touch [] w w' := by
  have hZ := OwnAt.new' (w.alloc (.cells #[.bool t, .bool false, .slice A n c] 78)) zeroRec 98 (g := w.heap.size + 1) (by simp)
  have hT := ((Touch.refl [] w).alloc (.cells #[.bool t, .bool false, .slice A n c] 78)).alloc (.cells zeroRec 98)
  have hth := hZ.there (i := 0) (n := 5) (by simp)
  rw [Nat.zero_add] at hth
  have hTT := hT.setCells (b := w.heap.size + 1) (Or.inr (by omega)) (recCells (headOf i 1 n) A n c) (o := 0)
  have hr := World.rangeAt_setCells_same _ (w.heap.size + 1) 0 (recCells (headOf i 1 n) A n c) hth
  have q0 := u8_wrap i
  have q1 := u8_wrap n
  have q2 := u8_wrap (n / 256)
  simp only [Int.natCast_ediv, Int.cast_ofNat_Int] at q2
  go_enter Tryd.func51, Tryd.ntmps51
  go_wp2_with (refine wp_store_rec (y := headOf i 1 n) (b := w.heap.size + 1) (o := 0) ?_ rfl rfl rfl rfl ?_; (with_reducible exact hth))
  exact ret_rec hr rfl rfl rfl ⟨rfl, hTT⟩
set_option maxRecDepth 100000 in
theorem recordOf_marked (w : World) (i : Nat) (t : Bool) (A : Option Addr) (n c : Nat) (hi : i < 256) (hn : n ≤ 4096) : Calls Tryd.prog 51 #[.int .i64 i, groupV t true A n c] w fun e w' => e = .returned (recV (headOf i 2 0) none 0 0) ∧ Touch [] w w' := by
  have q0 := u8_wrap i
  go_enter Tryd.func51, Tryd.ntmps51
  go_wp2_with fail
  have e0 : Value.int .u8 ((i : Int) % 256) = u8v (headOf i 2 0).a := by
    show _ = Value.int .u8 ((UInt8.ofNat i).toNat : Int)
    rw [← q0, IntKind.wrap_u8]
  rw [e0]
  have hr := (OwnAt.new' (w.alloc (.cells #[.bool t, .bool true, .slice none 0 0] 78)) #[u8v (headOf i 2 0).a, Value.int .u8 2, Value.int .u8 0, Value.int .u8 0, Value.slice none 0 0] 98 (g := w.heap.size + 1) (by simp)).all
  have hT := ((Touch.refl [] w).alloc (.cells #[.bool t, .bool true, .slice none 0 0] 78)).alloc (.cells #[u8v (headOf i 2 0).a, Value.int .u8 2, Value.int .u8 0, Value.int .u8 0, Value.slice none 0 0] 98)
  exact ret_rec (x := headOf i 2 0) hr rfl rfl rfl ⟨rfl, hT⟩
end Go.Proofs.YtdfgcenbkclpbaaDoor
