/- The flash: New. -/
import Derived.Test.YtdfgcenbkclpbaaDoorFlashE
namespace Go.Proofs.YtdfgcenbkclpbaaDoor
open Go.RowKit
set_option linter.unusedSimpArgs false
set_option linter.unusedVariables false
theorem mul64_one (w : World) (n : Nat) (hn : n ≤ 64) : Calls Tryd.prog 61 #[.int .u64 1, .int .u64 n] w fun e w' => e = .returned (.tuple #[.int .u64 0, .int .u64 n]) ∧ w' = w := by
  go_enter Tryd.func61, Tryd.ntmps61
  have b1 : bits .and .u64 1 4294967295 = 1 := by rfl
  have b2 : bits .and .u64 (n : Int) 4294967295 = (n : Int) := by
    rw [show (4294967295 : Int) = ((4294967295 : Nat) : Int) from rfl, u64_and_nat _ _ (by omega) (by omega), show (4294967295 : Nat) = 2 ^ 32 - 1 from rfl, Nat.and_two_pow_sub_one_eq_mod, Nat.mod_eq_of_lt (by omega)]
  have b3 : bits .and .u64 0 4294967295 = 0 := by rfl
  have d1 : (n : Int) / 4294967296 = 0 := by omega
  go_wp2_with fail
  go_ret2
  simp [IntKind.wrap_u64, b1, b2, b3, d1]
theorem mul_one (w : World) (n : Nat) (hn : n ≤ 64) : Calls Tryd.prog 47 #[.int .u64 1, .int .u64 n] w fun e w' => e = .returned (.tuple #[.int .u64 0, .int .u64 n]) ∧ w' = w := by
  go_enter Tryd.func47, Tryd.ntmps47
  go_wp2_with ((with_reducible refine (mul64_one _ n ?_).mono ?_); (exact hn); rintro e w1 ⟨rfl, rfl⟩)
  go_ret2
  exact ⟨rfl, rfl⟩
theorem run_copy_wide {P : Program} (w : World) (dT sT ty elem : TypeId) (b o dLen dCap : Nat) (a : Addr) (sLen sCap z : Nat) (cs : List Value)
    (hu : P.underlying dT = some (.slice elem)) (hs : (P.info? elem).map (·.size) = some z) (hn : cs.length = Nat.min sLen dLen * z)
    (hsrc : ∀ j v, cs[j]? = some v → w.cell? (a.add j) = some v) (ht : w.there b o cs.length) (h1 : ∀ v ∈ cs, v.oneCell' = true) :
    (Builtin.copy_ #[dT, sT] ty #[.slice (some ⟨b, o, none⟩) dLen dCap, .slice (some a) sLen sCap]).run P w = .ok (.int .i64 (Nat.min sLen dLen : Nat)) (w.setCells b o cs) := by
  have hl := run_loadCells_list (P := P) w a cs hsrc
  have hst := run_storeCells_cells (P := P) b o cs 0 w (fun j hj => by simpa using (ht j hj).1) (fun j hj => by simpa using (ht j hj).2) h1
  cases hq : P.info? elem with
  | none => simp [hq] at hs
  | some i =>
    have hi : i.size = z := by simpa [hq] using hs
    rw [hn] at hl
    simp [Builtin.copy_, run_underlying hu, Builtin.lenOf, Builtin.firstCells, sizeOf, typeInfo, hq, hi, hl, hst, goInt]
theorem wpList_copy_wide {P : Program} {ops : Array Oper} {rest : List Oper} {op : Oper} {act : Act} {w : World} {Q : Exit → Act → World → Prop} {d x : Operand} {dT sT : TypeId} (elem : TypeId) {b o dLen dCap : Nat} {a : Addr} {sLen sCap : Nat} (z : Nat) (cs : List Value)
    (ho : op.op = .call { callee := .builtin .copy, args := #[d, x], argTypes := #[dT, sT] }) (hgd : op.guard = none)
    (hd : act.eval d = .slice (some ⟨b, o, none⟩) dLen dCap) (hx : act.eval x = .slice (some a) sLen sCap)
    (hu : P.underlying dT = some (.slice elem)) (hs : (P.info? elem).map (·.size) = some z) (hn : cs.length = Nat.min sLen dLen * z)
    (hsrc : ∀ j v, cs[j]? = some v → w.cell? (a.add j) = some v) (ht : w.there b o cs.length) (h1 : ∀ v ∈ cs, v.oneCell' = true)
    (h : wpList P ops Q rest (act.put op.dst (.int .i64 (Nat.min sLen dLen : Nat))) (w.setCells b o cs)) : wpList P ops Q (op :: rest) act w := by
  refine wpList_plain hgd fun K hK => ?_
  have hr := run_copy_wide (P := P) w dT sT op.type elem b o dLen dCap a sLen sCap z cs hu hs hn hsrc ht h1
  unfold Oper.wp execOp
  simp only [ho, resolve, invoke, builtin, Sem.run_bind, Sem.run_pure, Result.andThen_ok, List.map_toArray, List.map_cons, List.map_nil, hd, hx, hr]
  exact hK _ _ h
theorem madeCells_same (v : Value) (m n : Nat) (hm : 0 < m) : madeCells (Array.replicate m v) n = Array.replicate n v := by
  apply Array.ext
  · simp [madeCells]
  · intro i h1 h2
    simp [madeCells, Nat.mod_lt _ hm]
theorem wordCells_zero (n : Nat) : wordCells (List.replicate n W4.zero) = List.replicate (4 * n) (Value.int .u8 0) := by
  induction n with
  | zero => rfl
  | succ n ih => rw [List.replicate_succ, wordCells_cons, ih, show 4 * (n + 1) = 4 * n + 1 + 1 + 1 + 1 by omega]; rfl
theorem make_sectors (w : World) (n : Nat) (hn : n ≤ 64) : (Instr.makeSlice 60 (.int .i64 n) (.int .i64 n)).run Tryd.prog w = .ok (.slice (some ⟨w.heap.size, 0, none⟩) n n) (w.alloc (.cells (wordCells (List.replicate (256 * n) W4.zero)).toArray 63)) := by
  have hi : (Tryd.prog.info? 63).map (fun i => (i.zero, i.size, i.bytes)) = some (some (.agg (Array.replicate 1024 (.int .u8 0))), 1024, 1024) := by kernel_rfl
  obtain ⟨i, hi0, hz, hs, hb⟩ := info_parts hi
  have := run_make (P := Tryd.prog) w 60 63 i _ Tryd.underlying60 hi0 hz .i64 .i64 n n (by omega) (by omega) (by rw [hb]; omega) (by omega)
  rw [this]
  simp only [Int.toNat_natCast, hs, Value.cells]
  rw [madeCells_same _ _ _ (by omega), wordCells_zero, show 4 * (256 * n) = n * 1024 by omega]
  simp
/-- m of n sectors are erased -/
def partTo (n m : Nat) : List W4 := List.replicate (256 * m) W4.free ++ List.replicate (256 * (n - m)) W4.zero
theorem partTo_length (n m : Nat) (h : m ≤ n) : (partTo n m).length = 256 * n := by
  unfold partTo; rw [List.length_append, List.length_replicate, List.length_replicate, ← Nat.mul_add, Nat.add_sub_cancel' h]
theorem partTo_zero (n : Nat) : partTo n 0 = List.replicate (256 * n) W4.zero := by simp [partTo]
theorem partTo_full (n : Nat) : partTo n n = List.replicate (256 * n) W4.free := by simp [partTo]
/-- k sectors more -/
theorem OwnAt.more {w : World} {g n m k : Nat} (h : OwnAt w g 0 (wordCells (partTo n m))) (hk : m + k ≤ n) : OwnAt (w.setCells g (m * 1024) (wordCells (List.replicate (256 * k) W4.free))) g 0 (wordCells (partTo n (m + k))) := by
  have hl := partTo_length n m (by omega)
  have := h.setCells (4 * (256 * m)) (wordCells (List.replicate (256 * k) W4.free)) (by rw [wordCells_length, wordCells_length, hl, List.length_replicate]; omega)
  rw [Nat.zero_add, wordCells_length, List.length_replicate, ← Nat.mul_add, wordCells_take, wordCells_drop, ← wordCells_append, ← wordCells_append] at this
  rw [show m * 1024 = 4 * (256 * m) by omega]
  have e : (partTo n m).take (256 * m) ++ List.replicate (256 * k) W4.free ++ (partTo n m).drop (256 * m + 256 * k) = partTo n (m + k) := by
    unfold partTo
    rw [List.take_left' (List.length_replicate ..), List.drop_append, List.length_replicate, List.drop_of_length_le (by simp), List.nil_append, List.drop_replicate, List.replicate_append_replicate, ← Nat.mul_add]
    congr 2
    omega
  rw [e] at this
  exact this
theorem free_range {w : World} {g n m : Nat} (h : OwnAt w g 0 (wordCells (partTo n m))) (k : Nat) (hk : k ≤ m) : ∀ j v, (wordCells (List.replicate (256 * k) W4.free))[j]? = some v → w.cell? ((⟨g, 0, none⟩ : Addr).add j) = some v := fun j v hv => by
  rw [Addr.add_mid, Nat.zero_add]
  have hj := (List.getElem?_eq_some_iff.1 hv).1
  have := h.cells j v
  rw [Nat.zero_add] at this
  refine this ?_
  have e : wordCells (partTo n m) = wordCells (List.replicate (256 * k) W4.free) ++ wordCells (List.replicate (256 * (m - k)) W4.free ++ List.replicate (256 * (n - m)) W4.zero) := by
    rw [← wordCells_append, ← List.append_assoc, List.replicate_append_replicate, ← Nat.mul_add, Nat.add_sub_cancel' hk]; rfl
  rw [e, List.getElem?_append_left hj]; exact hv
theorem wordCells_ones (l : List W4) : ∀ v ∈ wordCells l, v.oneCell' = true := fun v hv => by
  have := wordCells_one l
  rw [Array.all_eq_true_iff_forall_mem] at this
  exact this v (by simpa using hv)
theorem copy_first (w : World) (b n : Nat) (hp : 0 < n) (h : w.rangeAt b 0 (wordCells blank)) :
    (Builtin.copy_ #[60, 60] 3 #[.slice (some ⟨w.heap.size, 0, none⟩) n n, .slice (some ⟨b, 0, none⟩) 1 1]).run Tryd.prog (w.alloc (.cells (wordCells (List.replicate (256 * n) W4.zero)).toArray 63)) =
      .ok (.int .i64 1) ((w.alloc (.cells (wordCells (List.replicate (256 * n) W4.zero)).toArray 63)).setCells w.heap.size 0 (wordCells blank)) := by
  have hO := OwnAt.new w (wordCells (List.replicate (256 * n) W4.zero)).toArray 63
  have hm : Nat.min 1 n = 1 := Nat.min_eq_left (by omega)
  have hl : (wordCells blank).length = 1024 := by rw [wordCells_length, blank_length]
  have := run_copy_wide (P := Tryd.prog) (w.alloc (.cells (wordCells (List.replicate (256 * n) W4.zero)).toArray 63)) 60 60 3 63 w.heap.size 0 n n ⟨b, 0, none⟩ 1 1 1024 (wordCells blank)
    Tryd.underlying60 (by kernel_rfl) (by rw [hm, hl]) (fun j v hv => by rw [Addr.add_mid]; exact World.rangeAt_alloc h _ j v hv)
    (by rw [hl]; have := hO.there (i := 0) (n := 1024) (by rw [List.toList_toArray, wordCells_length, List.length_replicate]; omega); rwa [Nat.zero_add] at this) (wordCells_ones _)
  rw [hm] at this
  exact this
theorem copy_more (w : World) (g n m : Nat) (hm : 0 < m) (hmn : m < n) (h : OwnAt w g 0 (wordCells (partTo n m))) :
    (Builtin.copy_ #[60, 60] 3 #[.slice (some ⟨g, m * 1024, none⟩) (n - m) (n - m), .slice (some ⟨g, 0, none⟩) m n]).run Tryd.prog w =
      .ok (.int .i64 ((min m (n - m) : Nat) : Int)) (w.setCells g (m * 1024) (wordCells (List.replicate (256 * min m (n - m)) W4.free))) := by
  have hle : min m (n - m) ≤ n - m := Nat.min_le_right ..
  have hl : (wordCells (List.replicate (256 * min m (n - m)) W4.free)).length = min m (n - m) * 1024 := by rw [wordCells_length, List.length_replicate]; omega
  exact run_copy_wide (P := Tryd.prog) w 60 60 3 63 g (m * 1024) (n - m) (n - m) ⟨g, 0, none⟩ m n 1024 (wordCells (List.replicate (256 * min m (n - m)) W4.free))
    Tryd.underlying60 (by kernel_rfl) hl (free_range h _ (Nat.min_le_left ..))
    (by rw [hl]; have := h.there (i := m * 1024) (n := min m (n - m) * 1024) (by rw [wordCells_length, partTo_length _ _ (by omega)]; omega); rwa [Nat.zero_add] at this) (wordCells_ones _)
theorem sectors_from (w : World) (g n m : Nat) (h : m < n) : (Instr.sliceAt 60 (.slice (some ⟨g, 0, none⟩) n n) (some (.int .i64 (m : Int))) none none).run Tryd.prog w = .ok (.slice (some ⟨g, m * 1024, none⟩) (n - m) (n - m)) w := by
  have he : Tryd.prog.elem 60 = 63 := by kernel_rfl
  have ht : Tryd.prog.underlying 60 = some (.slice (Tryd.prog.elem 60)) := by rw [he]; exact Tryd.underlying60
  rw [run_sliceAt_slice _ _ _ _ _ _ ht, run_slice_l _ _ _ n n ht .i64 (m : Int) (by omega) (by omega), he]
  have hi : (Tryd.prog.info? 63).map (·.size) = some 1024 := by kernel_rfl
  obtain ⟨i, hq, hi⟩ := Option.map_eq_some_iff.1 hi
  · simp [sizeOf, typeInfo, hq, hi, sliced, Addr.add_mid', show ¬ n = m by omega]
theorem sectors_upto (w : World) (g n m : Nat) (h : m ≤ n) : (Instr.sliceAt 60 (.slice (some ⟨g, 0, none⟩) n n) none (some (.int .i64 (m : Int))) none).run Tryd.prog w = .ok (.slice (some ⟨g, 0, none⟩) m n) w := by
  have he : Tryd.prog.elem 60 = 63 := by kernel_rfl
  have ht : Tryd.prog.underlying 60 = some (.slice (Tryd.prog.elem 60)) := by rw [he]; exact Tryd.underlying60
  rw [run_sliceAt_slice _ _ _ _ _ _ ht, run_slice_h _ _ _ n n ht .i64 (m : Int) (by omega) (by omega), he]
  have hi : (Tryd.prog.info? 63).map (·.size) = some 1024 := by kernel_rfl
  obtain ⟨i, hq, hi⟩ := Option.map_eq_some_iff.1 hi
  · simp [sizeOf, typeInfo, hq, hi, sliced_to]
set_option maxRecDepth 100000 in
theorem repeat_blank (w : World) (b n : Nat) (hn : n ≤ 64) (hp : 0 < n) (h : w.rangeAt b 0 (wordCells blank)) :
    Calls Tryd.prog 32 #[.slice (some ⟨b, 0, none⟩) 1 1, .int .i64 n] w fun e w' => ∃ g, e = .returned (.slice (some ⟨g, 0, none⟩) n n) ∧ w.heap.size ≤ g ∧ OwnAt w' g 0 (wordCells (List.replicate (256 * n) W4.free)) ∧ Touch [] w w' := by
  have hw : IntKind.u64.wrap (n : Int) = n := by rw [IntKind.wrap_u64]; omega
  have hmk := fun W => make_sectors W n hn
  have hcp := copy_first w b n hp h
  have hO := OwnAt.new w (wordCells (List.replicate (256 * n) W4.zero)).toArray 63
  rw [List.toList_toArray, ← partTo_zero] at hO
  have hO2 := hO.more (k := 1) (by omega)
  rw [Nat.zero_mul, Nat.zero_add, partTo_zero] at hO2
  have hT := ((Touch.refl [] w).alloc (.cells (wordCells (List.replicate (256 * n) W4.zero)).toArray 63)).setCells (b := w.heap.size) (Or.inr (Nat.le_refl _)) (wordCells blank) (o := 0)
  rw [show List.replicate (256 * 1) W4.free = blank from rfl] at hO2
  go_enter Tryd.func32, Tryd.ntmps32
  go_wp2_with ((with_reducible refine (mul_one _ n ?_).mono ?_); (exact hn); rintro e w1 ⟨rfl, rfl⟩)
  clear hcp hO hmk
  generalize (w1.alloc (.cells (wordCells (List.replicate (256 * n) W4.zero)).toArray 63)).setCells w1.heap.size 0 (wordCells blank) = W at *
  go_loopw [8] (fun v wr => ∃ m : Nat, 0 < m ∧ m ≤ n ∧ v = .int .i64 m ∧ OwnAt wr w1.heap.size 0 (wordCells (partTo n m)) ∧ Touch [] w1 wr) (fun v _ => n - (intOf v).toNat)
  case atStart => exact ⟨1, by omega, by omega, rfl, hO2, hT⟩
  case round =>
    obtain ⟨m, hm, hmn, rfl, hO, hT⟩ := hrel
    by_cases hlt : m < n
    · have hcp := copy_more wr.drew w1.heap.size n m hm hlt hO.drew
      have hs1 := fun W => sectors_from W w1.heap.size n m hlt
      have hs2 := fun W => sectors_upto W w1.heap.size n m hmn
      have hN := hO.drew.more (k := min m (n - m)) (by omega)
      have hT2 := hT.drew.setCells (b := w1.heap.size) (Or.inr (Nat.le_refl _)) (wordCells (List.replicate (256 * min m (n - m)) W4.free)) (o := m * 1024)
      go_wp2_with fail
      refine wp_region_by [⟨false, [0, 1, 2, 3, 4, 5, 6], some 7⟩, ⟨false, [8, 9], none⟩] (by kernel_rfl) (by kernel_rfl) ?_
      refine by_any ?_ (fun w' => ?_) ?_ ?_
      rotate_left
      · simp only [pick, nthOp]; go_wp2_with fail; refine And.intro ?_ ?_ <;> rfl
      · kernel_rfl
      simp only [pick, nthOp]
      go_wp2_with fail
      refine by_row ?_ (fun w' => ?_) ?_ ?_
      rotate_left
      · simp only [pick, nthOp]; go_wp2_with fail; refine And.intro ?_ ?_ <;> rfl
      · kernel_rfl
      refine by_end ?_
      go_wp2
      go_roundw
      case rel => exact ⟨m + min m (n - m), by omega, by omega, by go_num, hN, hT2⟩
      case measure => simp [intOf]; omega
    · have : m = n := by omega
      subst this
      go_wp2_with fail
      go_ret
      exact ⟨_, rfl, Nat.le_refl _, by rw [partTo_full] at hO; exact hO, hT⟩
theorem fold_set (l : List Value) : ∀ (k : Nat) (cs : Array Value), k + l.length ≤ cs.size →
    (l.zipIdx k).foldl (fun (cs : Array Value) (p : Value × Nat) => cs.setIfInBounds (0 + p.2) p.1) cs = (cs.toList.take k ++ l ++ cs.toList.drop (k + l.length)).toArray := by
  induction l with
  | nil => intro k cs h; simp
  | cons v l ih =>
    intro k cs h
    rw [List.zipIdx_cons, List.foldl_cons, ih (k + 1) _ (by simp at h ⊢; omega)]
    congr 1
    have := list_seg_step cs.toList k v l (by simpa using h)
    simpa using this
theorem build_sector (l : List W4) (hl : l.length = 256) (w : World) : (Instr.buildSlice 60 1 #[(0, .agg (wordCells l).toArray)]).run Tryd.prog w = .ok (.slice (some ⟨w.heap.size, 0, none⟩) 1 1) (w.alloc (.cells (wordCells l).toArray 63)) := by
  have hi : (Tryd.prog.info? 63).map (fun i => (i.zero, i.size, i.bytes)) = some (some (.agg (Array.replicate 1024 (.int .u8 0))), 1024, 1024) := by kernel_rfl
  obtain ⟨i, hi0, hz, hs, hb⟩ := info_parts hi
  have hc : (wordCells l).length = 1024 := by rw [wordCells_length, hl]
  have hf : Instr.fill (fun i => some (i * 1024, 1024)) ((Array.range (1 * 1024)).map (fun x => (Value.agg (Array.replicate 1024 (Value.int .u8 0))).cells[x % (Value.agg (Array.replicate 1024 (Value.int .u8 0))).cells.size]!)) [(0, .agg (wordCells l).toArray)] = some (wordCells l).toArray := by
    generalize hA : (Array.range (1 * 1024)).map (fun x => (Value.agg (Array.replicate 1024 (Value.int .u8 0))).cells[x % (Value.agg (Array.replicate 1024 (Value.int .u8 0))).cells.size]!) = A
    have hsz : A.size = 1024 := by rw [← hA, Array.size_map, Array.size_range]
    clear hA
    have h1 : (Value.agg (wordCells l).toArray).cells = (wordCells l).toArray := rfl
    unfold Instr.fill
    simp only [h1, Nat.zero_mul]
    rw [if_neg (by rw [List.size_toArray, hc, hsz]; simp)]
    unfold Instr.fill
    have := fold_set (wordCells l) 0 A (by rw [hc, hsz]; omega)
    rw [List.take_zero, List.nil_append, Nat.zero_add, List.drop_of_length_le (by rw [Array.length_toList, hsz, hc]; exact Nat.le_refl _), List.append_nil] at this
    rw [← Array.foldl_toList, Array.toList_zipIdx]
    exact congrArg some this
  have hso : (sizeOf 63).run Tryd.prog w = .ok 1024 w := by simp [sizeOf, typeInfo, hi0, hs]
  have hzv : (zeroValue 63).run Tryd.prog w = .ok (.agg (Array.replicate 1024 (.int .u8 0))) w := by simp [zeroValue, typeInfo, hi0, hz]
  unfold Instr.buildSlice
  simp only [Sem.run_bind, run_underlying Tryd.underlying60, Result.andThen_ok, hso]
  rw [if_neg (by omega), if_neg (by omega)]
  simp only [Sem.run_bind, Result.andThen_ok, hzv, Sem.run_pure, List.toList_toArray]
  rw [hf]
  simp [newRow]
theorem wp_build_sector {ops : Array Oper} {rest : List Oper} {op : Oper} {act : Act} {w : World} {Q : Exit → Act → World → Prop} {x : Operand} {C : Array Value}
    (hbs : ∀ w, (Instr.buildSlice 60 1 #[(0, .agg C)]).run Tryd.prog w = .ok (.slice (some ⟨w.heap.size, 0, none⟩) 1 1) (w.alloc (.cells C 63)))
    (ho : op.op = .buildSlice 60 1 #[(0, x)]) (hgd : op.guard = none) (hx : act.eval x = .agg C)
    (h : wpList Tryd.prog ops Q rest (act.put op.dst (.slice (some ⟨w.heap.size, 0, none⟩) 1 1)) (w.alloc (.cells C 63))) : wpList Tryd.prog ops Q (op :: rest) act w := by
  refine wpList_plain hgd fun K hK => ?_
  unfold Oper.wp execOp
  simp only [ho, Sem.run_bind, Sem.run_pure, Result.andThen_ok, List.map_toArray, List.map_cons, List.map_nil, hx, hbs]
  exact hK _ _ h
theorem flash_new (w : World) (n : Nat) (hn : n ≤ 64) (hp : 0 < n) :
    Calls Tryd.prog 9 #[.int .i64 n] w fun e w' => ∃ f s, e = .returned (.tuple #[ptr f, .int .i64 0]) ∧ w.heap.size ≤ f ∧ w.heap.size ≤ s ∧ FlashAt w' f s ⟨List.replicate (256 * n) W4.free, n, false, 0, false, 0⟩ ∧ Touch [] w w' := by
  have hbs := build_sector blank blank_length
  have her := erased_any
  have hnw : ∀ W : World, (W.alloc (.cells (wordCells blank).toArray 63)).rangeAt W.heap.size 0 (wordCells blank) := fun W => (OwnAt.new W _ _).all
  generalize hC : (wordCells blank).toArray = C at hbs her hnw
  clear hC
  go_enter Tryd.func9, Tryd.ntmps9
  go_wp2_with fail
  refine (her _).mono ?_
  rintro e w1 ⟨rfl, hT1⟩
  go_wp2_with (refine wp_build_sector hbs rfl rfl rfl ?_)
  refine (repeat_blank _ w1.heap.size n hn hp (hnw w1)).mono ?_
  rintro e w2 ⟨g, rfl, hg, hO, hT2⟩
  go_wp2_with fail
  go_ret2
  have z1 := hT1.size
  have z2 := hT2.size
  simp at hg z2
  have hg2 : g < w2.heap.size := hO.lt (by rw [wordCells_length, List.length_replicate]; omega)
  refine ⟨w2.heap.size, g, rfl, by omega, by omega, ⟨by simp, hn, hp, by omega, ?_, hO.alloc _⟩, ?_⟩
  · exact OwnAt.new w2 _ _
  · exact (hT1.trans (((Touch.refl [] w1).alloc _).trans hT2)).alloc _
end Go.Proofs.YtdfgcenbkclpbaaDoor
