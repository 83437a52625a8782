/- slices.Grow at nil, slices.Concat of two rows of bytes. -/
import Derived.Test.YtdfgcenbkclpbaaDoorGrow
import Derived.Lib.AppendZerosOnto
import Derived.LoopN
namespace Go.Proofs.YtdfgcenbkclpbaaDoor
open Go.RowKit
set_option linter.unusedSimpArgs false
set_option linter.unusedVariables false
set_option maxRecDepth 100000 in
theorem wp_grow_nil {ops : Array Oper} {rest : List Oper} {o : Oper} {a : Act} {w : World} {Q : Exit → Act → World → Prop} {s x : Operand} (k : Nat) (h0 : 0 < k) (hk : k ≤ 100000)
    (ho : o.op = .call { callee := .builtin .append, args := #[s, x], argTypes := #[22, 3] }) (hgd : o.guard = none)
    (hs : a.eval s = .slice none 0 0) (hx : a.eval x = .int .i64 k)
    (h : ∀ cap w', k ≤ cap → cap ≤ 9223372036854775807 → w'.ownsRow w.heap.size 5 1 (.slice (some ⟨w.heap.size, 0, none⟩) 0 cap) 0 [] → Touch [] w w' → wpList Tryd.prog ops Q rest (a.put o.dst (.slice (some ⟨w.heap.size, 0, none⟩) k cap)) w') : wpList Tryd.prog ops Q (o :: rest) a w := by
  obtain ⟨i, hi, hz, hsz, hby⟩ := info_u8
  have hr := Lib.run_append_grow_zeros (P := Tryd.prog) w 22 3 o.type 5 i _ .i64 .i64 Tryd.underlying22 Tryd.underlying3 hi hz none 0 0 [] (by simp [Builtin.firstCells]) k h0 (by omega) (by omega) (by omega) (by rw [hby]; omega) (by
    rw [hby, Nat.mul_one]
    unfold Builtin.nextslicecap
    rw [if_pos (by omega)]; omega)
  have hge := grownCap_ge w (0 + k) 0 5
  have hle : grownCap w (0 + k) 0 5 ≤ maxLen := grownCap_le_maxLen w (0 + k) 0 5 (by unfold maxLen; omega)
  rw [Nat.zero_add] at hr hge hle
  refine wpList_plain hgd fun K hK => ?_
  unfold Oper.wp execOp
  simp only [ho, resolve, invoke, builtin, Sem.run_bind, Sem.run_pure, Result.andThen_ok, List.map_toArray, List.map_cons, List.map_nil, hs, hx, hr]
  refine hK _ _ (h _ _ hge (by unfold maxLen at hle; exact hle) ?_ ?_)
  · exact World.ownsRow_made (base := w.heap.size) w.drew _ _ (Nat.le_refl _) hle (by simp [Builtin.zeroCells, Value.cells]; omega)
  · exact (Touch.refl [] w).drew.alloc _
set_option maxRecDepth 100000 in
theorem grow_nil (w : World) (k : Nat) (h0 : 0 < k) (hk : k ≤ 100000) :
    Calls Tryd.prog 69 #[.slice none 0 0, .int .i64 k] w fun e w' => ∃ cap, e = .returned (.slice (some ⟨w.heap.size, 0, none⟩) 0 cap) ∧ w'.ownsRow w.heap.size 5 1 (.slice (some ⟨w.heap.size, 0, none⟩) 0 cap) 0 [] ∧ Touch [] w w' := by
  go_enter Tryd.func69, Tryd.ntmps69
  go_wp2_with (at_builtin; refine wp_grow_nil k h0 hk rfl rfl rfl rfl ?_)
  intro cap w1 hc hcm hO hT
  have hs1 := fun W => run_upto (P := Tryd.prog) (t := 22) (by rw [show Tryd.prog.elem 22 = 5 from by kernel_rfl]; exact Tryd.underlying22) (by kernel_rfl) (some ⟨w.heap.size, 0, none⟩) k cap 0 .i64 (by omega) W
  go_wp2_with fail
  go_ret
  exact ⟨cap, rfl, hO, hT⟩
theorem grow_nil' {kv : Int} (w : World) (k : Nat) (hkv : kv = k) (h0 : 0 < k) (hk : k ≤ 100000) :
    Calls Tryd.prog 69 #[.slice none 0 0, .int .i64 kv] w fun e w' => ∃ cap, e = .returned (.slice (some ⟨w.heap.size, 0, none⟩) 0 cap) ∧ w'.ownsRow w.heap.size 5 1 (.slice (some ⟨w.heap.size, 0, none⟩) 0 cap) 0 [] ∧ Touch [] w w' := by
  subst hkv; exact grow_nil w k h0 hk
set_option maxRecDepth 100000 in
theorem concat_two (w : World) (B : Nat) (A1 A2 : Option Addr) (c1 c2 : Nat) (b1 b2 : List UInt8) (h1 : b1.length ≤ 10000) (h2 : b2.length ≤ 10000) (hp : 0 < b2.length) (hB : SliceAt w (some ⟨B, 0, none⟩) [.slice A1 b1.length c1, .slice A2 b2.length c2])
    (hA1 : SliceAt w A1 (b1.map u8v)) (hA2 : SliceAt w A2 (b2.map u8v)) (hn1 : A1 = none → b1.length = 0 ∧ c1 = 0) (hn2 : A2 = none → b2.length = 0 ∧ c2 = 0) :
    Calls Tryd.prog 64 #[.slice (some ⟨B, 0, none⟩) 2 2] w fun e w' => ∃ v, e = .returned v ∧ w'.ownsRow w.heap.size 5 1 v (b1.length + b2.length) ((b1 ++ b2).map u8v) ∧ Touch [] w w' := by
  obtain ⟨_, _, e, q0⟩ := hB.at_ 0 (by simp)
  injection e with e; injection e with e1 e2; subst e1; subst e2
  obtain ⟨_, _, e, q1⟩ := hB.at_ 1 (by simp)
  injection e with e; injection e with e1 e2; subst e1; subst e2
  simp only [Nat.zero_add, List.getElem_cons_zero, List.getElem_cons_succ] at q0 q1
  go_enter Tryd.func64, Tryd.ntmps64
  go_wp2_with fail
  refine wp_loop_rounds 3 ?_
  rw [rounds_succ]
  go_wp2_with fail
  rw [rounds_succ]
  go_wp2_with fail
  rw [rounds_succ]
  go_wp2_with fail
  refine (grow_nil' _ (b1.length + b2.length) (by simp) (by omega) (by omega)).mono ?_
  rintro e w1 ⟨cap, rfl, hO, hT⟩
  have q0' := hT.cell q0 (by simp)
  have q1' := hT.cell q1 (by simp)
  have hA1' := hA1.touch hT (by simp)
  have hA2' := hA2.touch hT (by simp)
  go_wp2_with fail
  refine wp_loop_rounds 3 ?_
  rw [rounds_succ]
  go_wp2_with (at_builtin; refine wp_append_u8 w.heap.size _ 0 [] A1 b1.length c1 b1 rfl rfl rfl rfl ?_ ?_ rfl hn1 (by omega) ?_ ?_; exact hO; exact hA1'; exact hT.size)
  intro v1 w2 hO2 hg2 hv2
  have hT2 : Touch [] w w2 := hT.grown hg2 (by rintro k ⟨⟩; exact Or.inr (Nat.le_refl _))
  have q1'' := hT2.cell q1 (by simp)
  have hA2'' := hA2.touch hT2 (by simp)
  clear q0' q1' hA1' hA2' hv2
  go_wp2_with fail
  rw [rounds_succ]
  go_wp2_with (at_builtin; refine wp_append_u8 w.heap.size v1 b1.length b1 A2 b2.length c2 b2 rfl rfl rfl rfl ?_ ?_ rfl hn2 (by omega) ?_ ?_; exact hO2; exact hA2''; exact hT2.size)
  intro v2 w3 hO3 hg3 hv3
  have hT3 : Touch [] w w3 := hT2.grown hg3 (fun k hk => Or.inr (hO2.lt k hk).1)
  clear hv3
  go_wp2_with fail
  rw [rounds_succ]
  go_wp2_with fail
  go_ret
  exact ⟨v2, rfl, by rw [List.map_append]; exact hO3, hT3⟩
end Go.Proofs.YtdfgcenbkclpbaaDoor
