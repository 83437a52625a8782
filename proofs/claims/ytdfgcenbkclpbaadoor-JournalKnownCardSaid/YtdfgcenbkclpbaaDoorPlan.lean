/- A statement whose order Go leaves open: operations that only compute may be carried out in a plan's order, if the kernel sees that in every order just one other operation can come up at a time. -/
import Derived.OrdersHeld
import Derived.WalkKit
import Derived.KernelRfl
namespace Go.Proofs.YtdfgcenbkclpbaaDoor
open Go.RowKit
set_option linter.unusedVariables false
set_option linter.unusedSimpArgs false

/-! ### What leaves the world as it is, where it ends well -/
def Quiet {α : Type} (P : Program) (s : Sem α) : Prop := ∀ w x w1, s.run P w = .ok x w1 → w1 = w
section
variable {P : Program} {α β : Type}
theorem Quiet.pure (x : α) : Quiet P (Pure.pure x : Sem α) := fun w y w1 h => by simp at h; exact h.2.symm
theorem Quiet.bind {s : Sem α} {f : α → Sem β} (hs : Quiet P s) (hf : ∀ x, Quiet P (f x)) : Quiet P (s >>= f) := fun w y w1 h => by
  rw [Sem.run_bind] at h
  cases hr : s.run P w with
  | ok x w2 =>
    rw [hr, Result.andThen_ok] at h
    rw [hf x w2 y w1 h, hs w x w2 hr]
  | halt e w2 => rw [hr] at h; cases h
theorem Quiet.known {s : Sem α} {f : α → Sem β} {x : α} (h : ∀ w, s.run P w = .ok x w) (hf : Quiet P (f x)) : Quiet P (s >>= f) := fun w y w1 hr => by
  rw [Sem.run_bind, h w, Result.andThen_ok] at hr
  exact hf w y w1 hr
theorem Quiet.ite {c : Prop} [Decidable c] {s t : Sem α} (hs : Quiet P s) (ht : Quiet P t) : Quiet P (if c then s else t) := by split <;> assumption
theorem Quiet.never {s : Sem α} (h : ∀ w x w1, s.run P w ≠ .ok x w1) : Quiet P s := fun w x w1 he => absurd he (h w x w1)
theorem quiet_halt (e : Halt) : Quiet P (Sem.halt e : Sem α) := fun w x w1 h => by simp [Sem.run] at h
theorem quiet_stuck (m : String) : Quiet P (stuck m : Sem α) := quiet_halt _
theorem quiet_unsupported (d : Unsupported) : Quiet P (unsupported d : Sem α) := quiet_halt _
theorem quiet_program : Quiet P program := fun w x w1 h => by simp [program, Sem.run] at h; exact h.2.symm
theorem quiet_typeInfo (t : TypeId) : Quiet P (typeInfo t) := Quiet.bind quiet_program fun p => by
  split
  · exact .pure _
  · exact quiet_stuck _
theorem quiet_underlying (t : TypeId) : Quiet P (underlying t) := Quiet.bind quiet_program fun p => by
  split
  · exact .pure _
  · exact quiet_stuck _
theorem quiet_sizeOf (t : TypeId) : Quiet P (sizeOf t) := Quiet.bind (quiet_typeInfo t) fun _ => .pure _
theorem quiet_isAgg (t : TypeId) : Quiet P (isAgg t) := Quiet.bind (quiet_underlying t) fun d => by split <;> exact .pure _
theorem quiet_load (a : Addr) (m : Mode) : Quiet P (load a m) := fun w x w1 h => by
  simp only [load, Sem.run] at h
  split at h
  · simp [Sem.run] at h; exact h.2.symm
  · split at h
    · simp [Sem.run] at h; exact h.2.symm
    · cases h
theorem quiet_loadCellsFrom (a : Addr) : ∀ (n i : Nat) (acc : Array Value), Quiet P (loadCellsFrom a i n acc)
  | 0, _, _ => .pure _
  | n + 1, i, _ => Quiet.bind (quiet_load _ _) fun _ => quiet_loadCellsFrom a n (i + 1) _
theorem quiet_loadVar (t : TypeId) (a : Addr) : Quiet P (loadVar t a) := Quiet.bind (quiet_isAgg t) fun b => by
  split
  · exact Quiet.bind (quiet_sizeOf t) fun _ => Quiet.bind (quiet_loadCellsFrom _ _ _ _) fun _ => .pure _
  · exact quiet_load _ _
theorem quiet_goPanic (v : Value) : Quiet P (goPanic v : Sem α) := quiet_halt _
theorem never_goPanic (v : Value) (w : World) (x : α) (w1 : World) : (goPanic v : Sem α).run P w ≠ .ok x w1 := fun h => by simp [goPanic, Sem.run] at h
theorem Quiet.then_never {s : Sem α} {f : α → Sem β} (hf : ∀ x w y w1, (f x).run P w ≠ .ok y w1) : Quiet P (s >>= f) := fun w y w1 h => by
  rw [Sem.run_bind] at h
  cases hr : s.run P w with
  | ok x w2 => rw [hr, Result.andThen_ok] at h; exact absurd h (hf x w2 y w1)
  | halt e w2 => rw [hr] at h; cases h
theorem never_bind {s : Sem α} {f : α → Sem β} (hf : ∀ x w y w1, (f x).run P w ≠ .ok y w1) (w : World) (y : β) (w1 : World) : (s >>= f).run P w ≠ .ok y w1 := fun h => by
  rw [Sem.run_bind] at h
  cases hr : s.run P w with
  | ok x w2 => rw [hr, Result.andThen_ok] at h; exact absurd h (hf x w2 y w1)
  | halt e w2 => rw [hr] at h; cases h
theorem never_runtimePanic (e : RuntimeError) (w : World) (x : α) (w1 : World) : (runtimePanic e : Sem α).run P w ≠ .ok x w1 := by
  unfold runtimePanic
  refine never_bind (fun p w y w1 => ?_) w x w1
  cases e
  case bounds => exact never_goPanic _ _ _ _
  case error => exact never_goPanic _ _ _ _
  case plain => exact never_goPanic _ _ _ _
  case nilDeref => exact never_goPanic _ _ _ _
  all_goals (repeat' (first | exact never_goPanic _ _ _ _ | refine never_bind (fun _ _ _ _ => ?_) _ _ _))
theorem never_boundsPanic (k : IntKind) (i y : Int) (c : BoundsCode) (w : World) (x : α) (w1 : World) : (boundsPanic k i y c : Sem α).run P w ≠ .ok x w1 := by
  unfold boundsPanic
  repeat' (first | exact never_runtimePanic _ _ _ _ | refine never_bind (fun _ _ _ _ => ?_) _ _ _ | split)
theorem quiet_runtimePanic (e : RuntimeError) : Quiet P (runtimePanic e : Sem α) := .never (never_runtimePanic e)
theorem quiet_boundsPanic (k : IntKind) (i y : Int) (c : BoundsCode) : Quiet P (boundsPanic k i y c : Sem α) := .never (never_boundsPanic k i y c)
theorem quiet_asIntOf (v : Value) : Quiet P (asIntOf v) := by
  unfold asIntOf
  split
  · exact .pure _
  · exact quiet_unsupported _
  · exact quiet_stuck _
theorem quiet_asBool (v : Value) : Quiet P (asBool v) := by
  unfold asBool
  split
  · exact .pure _
  · exact quiet_stuck _
theorem quiet_sureAddr (v : Value) : Quiet P (Instr.sureAddr v) := by
  unfold Instr.sureAddr
  split
  · exact .pure _
  · exact quiet_stuck _
theorem quiet_asAddr (v : Value) : Quiet P (asAddr v) := by
  unfold asAddr
  split
  · exact .pure _
  · exact quiet_runtimePanic _
  · exact quiet_stuck _
theorem quiet_asAgg (v : Value) : Quiet P (asAgg v) := by
  unfold asAgg
  split
  · exact .pure _
  · exact quiet_stuck _
theorem quiet_part (t : TypeId) (cs : Array Value) (off : Nat) : Quiet P (part t cs off) := Quiet.bind (quiet_isAgg t) fun b => by
  split
  · exact Quiet.bind (quiet_sizeOf t) fun _ => .pure _
  · split
    · exact .pure _
    · exact quiet_stuck _
theorem quiet_sliceBound (x : Value) (y : Nat) (c : BoundsCode) : Quiet P (Instr.sliceBound x y c) := Quiet.bind (quiet_asIntOf x) fun (k, i) => by
  dsimp only
  split
  · exact .pure _
  · exact quiet_boundsPanic _ _ _ _
theorem quiet_sliceBounds (b : Bool) (len cap : Nat) (lo hi mx : Option Value) : Quiet P (Instr.sliceBounds b len cap lo hi mx) := by
  unfold Instr.sliceBounds
  (repeat' (first | exact .pure _ | exact quiet_stuck _ | exact quiet_unsupported _ | exact quiet_sliceBound _ _ _ | exact quiet_sizeOf _ | exact quiet_underlying _ | exact quiet_sureAddr _ | exact quiet_asAddr _ | exact quiet_asIntOf _ | exact quiet_boundsPanic _ _ _ _ | exact quiet_runtimePanic _ | exact quiet_intArith _ _ _ _ | exact quiet_intBits _ _ _ _ | exact quiet_part _ _ _ | exact quiet_asAgg _ | refine Quiet.bind ?_ (fun _ => ?_) | split | dsimp only))
theorem quiet_slice (t : TypeId) (x : Value) (lo hi mx : Option Value) : Quiet P (Instr.slice t x lo hi mx) := by
  unfold Instr.slice
  (repeat' (first | exact .pure _ | exact quiet_stuck _ | exact quiet_unsupported _ | exact quiet_sliceBound _ _ _ | exact quiet_sliceBounds _ _ _ _ _ _ | exact quiet_sizeOf _ | exact quiet_underlying _ | exact quiet_sureAddr _ | exact quiet_asAddr _ | exact quiet_asIntOf _ | exact quiet_boundsPanic _ _ _ _ | exact quiet_runtimePanic _ | exact quiet_intArith _ _ _ _ | exact quiet_intBits _ _ _ _ | exact quiet_part _ _ _ | exact quiet_asAgg _ | refine Quiet.bind ?_ (fun _ => ?_) | split | dsimp only))
theorem quiet_sliceAt (t : TypeId) (x : Value) (lo hi mx : Option Value) : Quiet P (Instr.sliceAt t x lo hi mx) := by
  unfold Instr.sliceAt
  refine Quiet.bind (quiet_underlying t) fun d => ?_
  split
  · exact Quiet.bind (quiet_sureAddr _) fun _ => Quiet.bind (quiet_sliceBounds _ _ _ _ _ _) fun _ => Quiet.bind (quiet_sizeOf _) fun _ => .pure _
  · exact quiet_slice _ _ _ _ _
theorem quiet_indexAt (t : TypeId) (x ix : Value) : Quiet P (Instr.indexAt t x ix) := by
  unfold Instr.indexAt
  (repeat' (first | exact .pure _ | exact quiet_stuck _ | exact quiet_unsupported _ | exact quiet_sliceBound _ _ _ | exact quiet_sliceBounds _ _ _ _ _ _ | exact quiet_sizeOf _ | exact quiet_underlying _ | exact quiet_sureAddr _ | exact quiet_asAddr _ | exact quiet_asIntOf _ | exact quiet_boundsPanic _ _ _ _ | exact quiet_runtimePanic _ | exact quiet_intArith _ _ _ _ | exact quiet_intBits _ _ _ _ | exact quiet_part _ _ _ | exact quiet_asAgg _ | refine Quiet.bind ?_ (fun _ => ?_) | split | dsimp only))
theorem quiet_index (t : TypeId) (x ix : Value) : Quiet P (Instr.index t x ix) := by
  unfold Instr.index
  (repeat' (first | exact .pure _ | exact quiet_stuck _ | exact quiet_unsupported _ | exact quiet_sliceBound _ _ _ | exact quiet_sliceBounds _ _ _ _ _ _ | exact quiet_sizeOf _ | exact quiet_underlying _ | exact quiet_sureAddr _ | exact quiet_asAddr _ | exact quiet_asIntOf _ | exact quiet_boundsPanic _ _ _ _ | exact quiet_runtimePanic _ | exact quiet_intArith _ _ _ _ | exact quiet_intBits _ _ _ _ | exact quiet_part _ _ _ | exact quiet_asAgg _ | refine Quiet.bind ?_ (fun _ => ?_) | split | dsimp only))
theorem quiet_field (t : TypeId) (x : Value) (f : Nat) : Quiet P (Instr.field t x f) := by
  unfold Instr.field
  refine Quiet.bind (quiet_underlying t) fun d => ?_
  split
  · split
    · exact Quiet.bind (quiet_asAgg _) fun _ => quiet_part _ _ _
    · exact quiet_stuck _
  · exact quiet_stuck _
theorem quiet_extract (t : Value) (i : Nat) : Quiet P (Instr.extract t i) := by
  unfold Instr.extract
  split
  · split
    · exact .pure _
    · exact quiet_stuck _
  · exact quiet_stuck _
theorem quiet_intArith (op : BinOp) (k : IntKind) (x y : Int) : Quiet P (Op.intArith op k x y) := by
  unfold Op.intArith
  split <;> first | exact .pure _ | exact quiet_stuck _
theorem quiet_intBits (op : BinOp) (k : IntKind) (x y : Int) : Quiet P (Op.intBits op k x y) := by
  unfold Op.intBits
  split <;> first | exact .pure _ | exact quiet_stuck _
theorem quiet_intCmp (op : BinOp) (x y : Int) : Quiet P (Op.intCmp op x y) := by
  unfold Op.intCmp
  split <;> first | exact .pure _ | exact quiet_stuck _
theorem quiet_intDiv (op : BinOp) (k : IntKind) (x y : Int) : Quiet P (Op.intDiv op k x y) := by
  unfold Op.intDiv
  split
  · exact quiet_runtimePanic _
  · split <;> first | exact .pure _ | exact quiet_stuck _
theorem quiet_shift (op : BinOp) (k : IntKind) (x : Int) (yk : IntKind) (y : Int) : Quiet P (Op.shift op k x yk y) := by
  unfold Op.shift
  split
  · exact quiet_runtimePanic _
  · dsimp only; split <;> first | exact .pure _ | exact quiet_stuck _
theorem quiet_stringOp (op : BinOp) (x y : ByteArray) : Quiet P (Op.stringOp op x y) := by
  unfold Op.stringOp
  split
  · split
    · exact quiet_unsupported _
    · exact .pure _
  all_goals first | exact .pure _ | exact quiet_stuck _
theorem quiet_unary (op : UnOp) (x : Value) : Quiet P (Op.unary op x) := by
  unfold Op.unary
  (repeat' (first | exact .pure _ | exact quiet_stuck _ | exact quiet_unsupported _ | exact quiet_sliceBound _ _ _ | exact quiet_sliceBounds _ _ _ _ _ _ | exact quiet_sizeOf _ | exact quiet_underlying _ | exact quiet_sureAddr _ | exact quiet_asAddr _ | exact quiet_asIntOf _ | exact quiet_boundsPanic _ _ _ _ | exact quiet_runtimePanic _ | exact quiet_intArith _ _ _ _ | exact quiet_intBits _ _ _ _ | exact quiet_part _ _ _ | exact quiet_asAgg _ | refine Quiet.bind ?_ (fun _ => ?_) | split | dsimp only))
theorem quiet_equal_bool (t : TypeId) (a b : Bool) : Quiet P (Op.equal t (.bool a) (.bool b)) := by
  show Quiet P (Op.equalIn 10000 t (.bool a) (.bool b))
  rw [show (10000 : Nat) = 9999 + 1 from rfl]
  unfold Op.equalIn
  refine Quiet.bind (quiet_underlying t) fun d => ?_
  split <;> first | exact .pure _ | exact quiet_stuck _ | (rename_i h; cases h; done) | (rename_i h _; cases h; done) | (rename_i h _ _ ; cases h; done) | simp_all
theorem quiet_equal_nil (t : TypeId) (a : Option Addr) : Quiet P (Op.equal t (.pointer a) (.pointer none)) := by
  show Quiet P (Op.equalIn 10000 t (.pointer a) (.pointer none))
  rw [show (10000 : Nat) = 9999 + 1 from rfl]
  unfold Op.equalIn
  refine Quiet.bind (quiet_underlying t) fun d => ?_
  cases d <;> cases a <;> simp only [] <;> first | exact .pure _ | exact quiet_stuck _ | exact quiet_unsupported _ | skip
theorem quiet_forInList {γ : Type} (f : α → γ → Sem (ForInStep γ)) (hf : ∀ x b, Quiet P (f x b)) : ∀ (l : List α) (b : γ), Quiet P (forIn l b f)
  | [], b => by rw [List.forIn_nil]; exact .pure _
  | x :: l, b => by
    rw [List.forIn_cons]
    refine Quiet.bind (hf x b) fun r => ?_
    cases r with
    | done b' => exact .pure _
    | yield b' => exact quiet_forInList f hf l b'
theorem quiet_forIn {γ : Type} (f : α → γ → Sem (ForInStep γ)) (hf : ∀ x b, Quiet P (f x b)) (xs : Array α) (b : γ) : Quiet P (forIn xs b f) := by
  rw [← Array.forIn_toList]
  exact quiet_forInList f hf _ _
theorem quiet_bytesToString (x : Value) : Quiet P (Conv.bytesToString x) := by
  unfold Conv.bytesToString
  split
  · exact .pure _
  · refine Quiet.bind (quiet_loadCellsFrom _ _ _ _) fun cs => Quiet.bind (quiet_forIn _ (fun c s => ?_) _ _) fun _ => .pure _
    split
    · exact .pure _
    · exact quiet_stuck _
  · exact quiet_stuck _
theorem quiet_runesToString (x : Value) : Quiet P (Conv.runesToString x) := by
  unfold Conv.runesToString
  split
  · exact .pure _
  · refine Quiet.bind (quiet_loadCellsFrom _ _ _ _) fun cs => Quiet.bind (quiet_forIn _ (fun c s => ?_) _ _) fun _ => .pure _
    split
    · exact .pure _
    · exact quiet_stuck _
  · exact quiet_stuck _
theorem quiet_convert_slice (s d : TypeId) (hd : P.underlying d = some .string) (a : Option Addr) (n c : Nat) : Quiet P (convert s d (.slice a n c)) := by
  unfold convert
  refine Quiet.bind (quiet_underlying _) fun ds => Quiet.known (run_underlying hd) ?_
  cases ds <;> simp only [] <;> first | exact quiet_unsupported _ | skip
  case slice e =>
    refine Quiet.bind (quiet_underlying _) fun d => ?_
    split
    · exact quiet_bytesToString _
    · exact quiet_runesToString _
    · exact quiet_stuck _
  case unsafePointer =>
    unfold Conv.unsafePointer
    refine Quiet.bind (quiet_underlying _) fun d => Quiet.known (run_underlying hd) ?_
    cases d <;> simp only [] <;> first | exact quiet_unsupported _ | exact quiet_stuck _
theorem quiet_value {s : Sem Value} (h : Quiet P s) (w : World) (n : Next) (w1 : World) (hr : (do pure (.value (← s)) : Sem Next).run P w = .ok n w1) : w1 = w ∧ ∃ v, n = .value v := by
  rw [Sem.run_bind] at hr
  cases hs : s.run P w with
  | ok x w2 =>
    rw [hs, Result.andThen_ok] at hr
    simp at hr
    exact ⟨by rw [← hr.2, h w x w2 hs], _, hr.1.symm⟩
  | halt e w2 => rw [hs] at hr; cases hr
end

/-- Does an operation, at these operands, only compute (or read)? -/
def purish (P : Program) (o : Oper) (a : Act) : Bool :=
  match o.op with
  | .move _ | .assign _ | .pick .. | .unOp .. | .indexAddr .. | .index .. | .field .. | .extract .. | .slice .. | .load .. | .makeFunc .. => true
  | .fieldAddr s _ f => match P.underlying s with
    | some (.struct fs) => match (fs[f]?).bind (fun x => P.info? x.type) with
      | some i => i.size != 0
      | none => false
    | _ => false
  | .nilCheck x => match a.eval x with
    | .pointer (some _) => true
    | _ => false
  | .binOp op t x y _ => match a.eval x, a.eval y with
    | .int .., .int .. => true
    | .string _, .string _ => true
    | .bool _, .bool _ => (match op with | .eql | .neq => true | _ => false)
    | .pointer _, .pointer none => (match op with | .eql | .neq => true | _ => false)
    | _, _ => false
  | .convert s d x => match a.eval x, P.underlying d with
    | .int .., some (.int _) => true
    | .string _, some .string => true
    | .slice .., some .string => true
    | _, _ => false
  | .makeInterface .. => true
  | .call c => match c.callee, c.args.toList with
    | .builtin .len, [x] => (match a.eval x with | .slice .. | .string _ => true | _ => false)
    | .builtin .cap, [x] => (match a.eval x with | .slice .. => true | _ => false)
    | .builtin .min, [x, y] => (match a.eval x, a.eval y with | .int .., .int .. => true | _, _ => false)
    | .builtin .max, [x, y] => (match a.eval x, a.eval y with | .int .., .int .. => true | _, _ => false)
    | _, _ => false
  | _ => false

theorem quiet_fieldAt {P : Program} (s : TypeId) (x : Value) (f : Nat) (fs : Array Field) (hu : P.underlying s = some (.struct fs)) (i : TypeInfo) (hi : (fs[f]?).bind (fun x => P.info? x.type) = some i) (hz : i.size ≠ 0) :
    Quiet P (Instr.fieldAt s x f) := by
  intro w y w1 h
  unfold Instr.fieldAt at h
  rw [Sem.run_bind, run_underlying hu, Result.andThen_ok] at h
  cases hf : fs[f]? with
  | none => rw [hf] at hi; cases hi
  | some fd =>
    rw [hf] at hi
    simp only [Option.bind_some] at hi
    simp only [hf] at h
    refine Quiet.bind (quiet_sureAddr _) (fun a => ?_) w y w1 h
    refine Quiet.bind ?_ fun _ => .pure _
    intro w y w1 h
    unfold fieldPlace at h
    have hi2 : P.info? fd.type = some i := hi
    simp [sizeOf, typeInfo, hi2, hz] at h
    exact h.2.symm
theorem quiet_binOp_int {P : Program} (op : BinOp) (t : TypeId) (k k' : IntKind) (a b : Int) : Quiet P (binOp op t (.int k a) (.int k' b)) := by
  unfold binOp
  cases op <;> simp only [] <;> repeat' (first | exact quiet_shift _ _ _ _ _ | exact quiet_stuck _ | exact quiet_intArith _ _ _ _ | exact quiet_intDiv _ _ _ _ | exact quiet_intBits _ _ _ _ | exact quiet_intCmp _ _ _ | split)
theorem quiet_binOp_string {P : Program} (op : BinOp) (t : TypeId) (a b : ByteArray) : Quiet P (binOp op t (.string a) (.string b)) := by
  unfold binOp
  cases op <;> exact quiet_stringOp _ _ _
theorem quiet_eqGuard {P : Program} (op : BinOp) (t : TypeId) (x y : Operand) (a b : Value) (h : ∀ c d, a = .agg c → b = .agg d → False) (h' : a = .nilIface → b = .nilIface → False) : Quiet P (eqGuard op t x y a b) := by
  unfold eqGuard
  cases op <;> simp only [] <;> (try exact .pure _) <;> (cases a <;> cases b <;> simp_all <;> exact .pure _)
theorem purish_spec {P : Program} {o : Oper} {a : Act} (h : purish P o a = true) (w : World) (n : Next) (w1 : World) (hr : (execOp a.eval o).run P w = .ok n w1) : w1 = w ∧ ∃ v, n = .value v := by
  obtain ⟨dst, op, type, pos, after, guard⟩ := o
  unfold execOp at hr
  unfold purish at h
  cases op <;> simp only [] at h hr <;> try (first | cases h | done)
  case move x => simp at hr; exact ⟨hr.2.symm, _, hr.1.symm⟩
  case assign x => simp at hr; exact ⟨hr.2.symm, _, hr.1.symm⟩
  case pick c x y =>
    rw [Sem.run_bind] at hr
    cases hs : (asBool (a.eval c)).run P w with
    | ok b w2 =>
      rw [hs, Result.andThen_ok] at hr
      simp at hr
      exact ⟨by rw [← hr.2, quiet_asBool _ w b w2 hs], _, hr.1.symm⟩
    | halt e w2 => rw [hs] at hr; cases hr
  case load t x => exact quiet_value (Quiet.bind (quiet_sureAddr _) fun _ => quiet_loadVar _ _) w n w1 hr
  case nilCheck x =>
    cases hx : a.eval x <;> rw [hx] at h hr <;> (try simp only [] at h hr) <;> try (first | cases h | done)
    rename_i p
    cases p with
    | none => cases h
    | some p => simp at hr; exact ⟨hr.2.symm, _, hr.1.symm⟩
  case binOp op t x y yt =>
    refine quiet_value ?_ w n w1 hr
    revert h
    cases hx : a.eval x <;> cases hy : a.eval y <;> (try simp only []) <;> intro h <;> try (first | cases h | done)
    case int.int => exact Quiet.bind (quiet_eqGuard _ _ _ _ _ _ (by simp) (by simp)) fun _ => quiet_binOp_int _ _ _ _ _ _
    case string.string => exact Quiet.bind (quiet_eqGuard _ _ _ _ _ _ (by simp) (by simp)) fun _ => quiet_binOp_string _ _ _ _
    case bool.bool u v =>
      refine Quiet.bind (quiet_eqGuard _ _ _ _ _ _ (by simp) (by simp)) fun _ => ?_
      cases op <;> (try simp only [] at h) <;> (try cases h) <;> (unfold binOp; exact Quiet.bind (quiet_equal_bool _ _ _) fun _ => .pure _)
    case pointer.pointer u v =>
      refine Quiet.bind (quiet_eqGuard _ _ _ _ _ _ (by simp) (by simp)) fun _ => ?_
      cases v with
      | some v => cases h
      | none => cases op <;> (try simp only [] at h) <;> (try cases h) <;> (unfold binOp; exact Quiet.bind (quiet_equal_nil _ _) fun _ => .pure _)
  case unOp op t x => exact quiet_value (quiet_unary _ _) w n w1 hr
  case convert s d x =>
    refine quiet_value ?_ w n w1 hr
    revert h
    cases hx : a.eval x <;> (try simp only []) <;> intro h <;> try (first | cases h | done)
    case int k z =>
      cases hd : P.underlying d with
      | none => rw [hd] at h; cases h
      | some u =>
        rw [hd] at h
        cases u <;> (try simp only [] at h) <;> try (first | cases h | done)
        intro w y w1 h
        unfold convert at h
        rw [Sem.run_bind] at h
        cases hq : (underlying s).run P w with
        | halt e w2 => rw [hq] at h; cases h
        | ok ds w2 =>
          rw [hq, Result.andThen_ok, Sem.run_bind, run_underlying hd, Result.andThen_ok] at h
          have := quiet_underlying s w ds w2 hq
          subst this
          simp [Conv.intToInt] at h
          exact h.2.symm
    case string z =>
      cases hd : P.underlying d with
      | none => rw [hd] at h; cases h
      | some u =>
        rw [hd] at h
        cases u <;> (try simp only [] at h) <;> try (first | cases h | done)
        intro w y w1 h
        unfold convert at h
        rw [Sem.run_bind] at h
        cases hq : (underlying s).run P w with
        | halt e w2 => rw [hq] at h; cases h
        | ok ds w2 =>
          rw [hq, Result.andThen_ok, Sem.run_bind, run_underlying hd, Result.andThen_ok] at h
          have := quiet_underlying s w ds w2 hq
          subst this
          simp at h
          exact h.2.symm
    case slice u m c =>
      cases hd : P.underlying d with
      | none => rw [hd] at h; cases h
      | some u' =>
        rw [hd] at h
        cases u' <;> (try simp only [] at h) <;> try (first | cases h | done)
        exact quiet_convert_slice s d hd _ _ _
  case makeInterface t x =>
    refine quiet_value ?_ w n w1 hr
    unfold Instr.makeInterface
    exact Quiet.bind (quiet_underlying _) fun d => by split <;> first | exact quiet_stuck _ | exact .pure _
  case makeFunc f u v => exact quiet_value (.pure _) w n w1 hr
  case slice t x lo hi mx => exact quiet_value (quiet_sliceAt _ _ _ _ _) w n w1 hr
  case fieldAddr s x f =>
    cases hu : P.underlying s with
    | none => rw [hu] at h; cases h
    | some u =>
      rw [hu] at h
      cases u <;> (try simp only [] at h) <;> try (first | cases h | done)
      rename_i fs
      cases hi : (fs[f]?).bind (fun x => P.info? x.type) with
      | none => rw [hi] at h; cases h
      | some i =>
        rw [hi] at h
        exact quiet_value (quiet_fieldAt s _ f fs hu i hi (by simpa using h)) w n w1 hr
  case field t x f => exact quiet_value (quiet_field _ _ _) w n w1 hr
  case indexAddr t x i => exact quiet_value (quiet_indexAt _ _ _) w n w1 hr
  case index t x i => exact quiet_value (quiet_index _ _ _) w n w1 hr
  case extract t i => exact quiet_value (quiet_extract _ _) w n w1 hr
  case call c =>
    obtain ⟨callee, args, ats⟩ := c
    cases callee <;> (try simp only [] at h) <;> try (first | cases h | done)
    rename_i b
    have hrun : ∀ v, builtin b ats type (args.map fun | .const _ => true | _ => false) (args.map a.eval) = v → (do let d ← resolve a.eval ⟨.builtin b, args, ats⟩ type; invoke d.target d.args : Sem Next) = v := fun v hv => by
      rw [← hv]; rfl
    rw [hrun _ rfl] at hr
    obtain ⟨as⟩ := args
    rcases as with _ | ⟨x, _ | ⟨y, _ | ⟨z, as⟩⟩⟩ <;> cases b <;> (try simp only [] at h) <;> try (first | cases h | done)
    all_goals (simp only [builtin] at hr; refine quiet_value ?_ w n w1 hr; clear hr hrun)
    case cons.nil.len =>
      revert h
      cases hx : a.eval x <;> intro h <;> try (first | cases h | done)
      all_goals
        simp only [List.map_toArray, List.map_cons, List.map_nil, hx, Builtin.len_]
        split
        · rename_i h1 h2
          simp at h2
          obtain ⟨_, rfl⟩ := h2
          refine Quiet.bind (quiet_underlying _) fun d => ?_
          split <;> first | exact .pure _ | exact quiet_stuck _ | (rename_i h3; cases h3; done) | (refine Quiet.bind (quiet_underlying _) fun d => ?_; split <;> first | exact .pure _ | exact quiet_stuck _)
        · exact quiet_stuck _
    case cons.nil.cap =>
      revert h
      cases hx : a.eval x <;> intro h <;> try (first | cases h | done)
      all_goals
        simp only [List.map_toArray, List.map_cons, List.map_nil, hx, Builtin.cap_]
        split
        · rename_i h1 h2
          simp at h2
          obtain ⟨_, rfl⟩ := h2
          refine Quiet.bind (quiet_underlying _) fun d => ?_
          split <;> first | exact .pure _ | exact quiet_stuck _ | (rename_i h3; cases h3; done) | (refine Quiet.bind (quiet_underlying _) fun d => ?_; split <;> first | exact .pure _ | exact quiet_stuck _)
        · exact quiet_stuck _
    all_goals
      revert h
      cases hx : a.eval x <;> intro h <;> (try (first | cases h | done)) <;> (cases hy : a.eval y <;> rw [hy] at h <;> (try (first | cases h | done)))
      simp only [List.map_toArray, List.map_cons, List.map_nil, hx, hy, Builtin.min_, Builtin.max_, List.foldlM]
      exact Quiet.bind (.pure _) fun _ => .pure _

/-! ### A row of such operations, one behind the other -/
section
variable {P : Program} {ops : Array Oper} {S : World → Prop}
def atEnd (A : Act) (w' : World) : Exit → Act → World → Prop
  | .normal, a, w => a = A ∧ w = w'
  | _, _, _ => False
theorem calls_some {f : FuncId} {args : Array Value} {w : World} {R : Ending → World → Prop} (h : Calls P f args w R) : ∃ e w', R e w' :=
  let ⟨e, w', _, r, _⟩ := h []; ⟨e, w', r⟩
theorem rows_some {row : String} {args : Array Value} {w : World} {R : Value → World → Prop} (h : Rows P row args w R) : ∃ v w', R v w' :=
  let ⟨v, w', r, _⟩ := h default []; ⟨v, w', r⟩
/-- whatever an operation does, if only an ordinary end is allowed, the rest goes on from some state that differs in its own temporary alone -/
theorem wp_some {o : Oper} {a A : Act} {w w0 : World} {K : Act → World → Prop} (h : o.wp P a w K (atEnd A w0)) : ∃ ds v w1, K ({ a with defers := ds }.put o.dst v) w1 := by
  unfold Oper.wp at h
  generalize (execOp a.eval o).run P w = r at h
  cases r with
  | ok n w1 =>
    cases n <;> simp only [Oper.upon] at h
    case value v => exact ⟨a.defers, v, w1, h⟩
    case skip => exact ⟨a.defers, undef, w1, h⟩
    case defer d => exact ⟨_, _, _, h⟩
    case enter f args =>
      obtain ⟨e, w2, he⟩ := calls_some h
      cases e with
      | returned v => exact ⟨a.defers, v, w2, he⟩
      | panicked c => exact he.elim
      | outgrown => obtain ⟨a', w', h'⟩ := he; exact h'.elim
    case row row args =>
      obtain ⟨v, w2, he⟩ := rows_some h
      exact ⟨a.defers, v, w2, he⟩
  | halt x w1 => cases x <;> simp only [Oper.upon] at h <;> exact h.elim
theorem put_tmps_other (a : Act) (dst : Option Tmp) (v : Value) (t : Tmp) (h : dst ≠ some t) : (a.put dst v).tmps[t]? = a.tmps[t]? := by
  cases dst with
  | none => rfl
  | some d => exact Array.getElem?_setIfInBounds_ne (fun e => h (by rw [e]))
theorem put_size (a : Act) (dst : Option Tmp) (v : Value) : (a.put dst v).tmps.size = a.tmps.size := by
  cases dst <;> simp [Act.put]
theorem list_frame {A : Act} {w0 : World} : ∀ (os : List Oper) (a : Act) (w : World), wpList P ops (atEnd A w0) os a w → A.tmps.size = a.tmps.size ∧ ∀ t, (∀ o ∈ os, o.dst ≠ some t) → A.tmps[t]? = a.tmps[t]?
  | [], a, w, h => by obtain ⟨rfl, _⟩ := h; exact ⟨rfl, fun _ _ => rfl⟩
  | o :: os, a, w, h => by
    have hx : ∃ ds v w1, wpList P ops (atEnd A w0) os ({ a with defers := ds }.put o.dst v) w1 := by
      unfold wpList at h
      split at h
      · rcases h with h | ⟨_, a', w', h'⟩
        · exact wp_some h
        · exact h'.elim
      · exact ⟨a.defers, undef, w, h⟩
    obtain ⟨ds, v, w1, hk⟩ := hx
    obtain ⟨h1, h2⟩ := list_frame os _ _ hk
    refine ⟨h1.trans (put_size _ _ _), fun t ht => ?_⟩
    rw [h2 t fun o' ho' => ht o' (List.mem_cons_of_mem _ ho'), put_tmps_other _ _ _ _ (ht o (List.mem_cons_self ..))]

/-- an operation's temporaries, its guard's and its own, are not written again by these -/
def untouched (ops : Array Oper) (o : Oper) (os : List Oper) : Bool :=
  os.all fun o' => match o'.dst with
    | some d => !(o.looksAt ops).contains d && o.dst != some d
    | none => true
/-- the row is one of operations that only compute, as its last state shows -/
def rowOk (P : Program) (ops : Array Oper) (A : Act) : List Oper → Bool
  | [] => true
  | o :: os => (match o.dst with | some d => decide (d < A.tmps.size) && !(o.looksAt ops).contains d | none => false) &&
      untouched ops o os && (!Region.wanted o (yielded ops A.tmps) || purish P o A) && rowOk P ops A os

def chain (P : Program) (ops : Array Oper) (S : World → Prop) (A : Act) : List Oper → Act → Prop
  | [], a => a = A
  | o :: os, a => ∃ v, YieldsIf P ops S o v a ∧ chain P ops S A os (a.put o.dst v)

theorem eval_same {a A : Act} {x : Operand} (h : ∀ t, x = .tmp t → A.tmps[t]? = a.tmps[t]?) : A.eval x = a.eval x := by
  cases x with
  | tmp t => simp [Act.eval, h t rfl]
  | _ => rfl
theorem looks_tmp {o : Oper} {t : Tmp} (h : (.tmp t) ∈ o.op.operands) : t ∈ o.looksAt ops := by
  unfold Oper.looksAt
  rw [List.mem_append]
  exact .inl (List.mem_filterMap.2 ⟨.tmp t, by simpa using h, rfl⟩)
theorem wanted_same {o : Oper} {a A : Act} (h : ∀ t ∈ o.looksAt ops, A.tmps[t]? = a.tmps[t]?) : Region.wanted o (yielded ops A.tmps) = Region.wanted o (yielded ops a.tmps) := by
  unfold Region.wanted
  cases hg : o.guard with
  | none => rfl
  | some gw =>
    obtain ⟨g, want⟩ := gw
    have : yielded ops A.tmps g = yielded ops a.tmps g := by
      unfold yielded
      cases hd : (ops[g]?).bind (·.dst) with
      | none => rfl
      | some t =>
        simp only [Option.bind_some]
        rw [h t (by unfold Oper.looksAt; rw [List.mem_append]; exact .inr (by simp [hg, hd]))]
    simp only [this]
theorem purish_same {o : Oper} {a A : Act} (h : ∀ x ∈ o.op.operands, A.eval x = a.eval x) : purish P o A = purish P o a := by
  obtain ⟨dst, op, type, pos, after, guard⟩ := o
  unfold purish
  cases op <;> simp only [Op.operands] at h <;> try rfl
  case nilCheck x => simp only [h x (by simp)]
  case binOp p t x y yt => simp only [h x (by simp), h y (by simp)]
  case convert s d x => simp only [h x (by simp)]
  case call c =>
    obtain ⟨callee, args, ats⟩ := c
    cases callee <;> try rfl
    rename_i b
    simp only [Call.operands] at h
    obtain ⟨as⟩ := args
    have hm : ∀ x ∈ as, A.eval x = a.eval x := fun x hx => h x (by simp [hx])
    rcases as with _ | ⟨x, _ | ⟨y, _ | ⟨z, as⟩⟩⟩
    · cases b <;> rfl
    · cases b <;> simp only [hm x (by simp)]
    · cases b <;> simp only [hm x (by simp), hm y (by simp)]
    · cases b <;> rfl

theorem row_sound {A : Act} {w1 : World} (hw1 : S w1) : ∀ (os : List Oper) (a : Act), rowOk P ops A os = true → (∀ w', S w' → wpList P ops (atEnd A w') os a w') → chain P ops S A os a
  | [], a, _, h => (h w1 hw1).1.symm ▸ rfl
  | o :: os, a, hk, h => by
    simp only [rowOk, Bool.and_eq_true] at hk
    obtain ⟨⟨⟨h1, h2⟩, h3⟩, h4⟩ := hk
    cases hd : o.dst with
    | none => rw [hd] at h1; cases h1
    | some d =>
      rw [hd] at h1
      simp only [Bool.and_eq_true, decide_eq_true_eq] at h1
      obtain ⟨h1, h1'⟩ := h1
      have hun : ∀ t ∈ o.looksAt ops, (∀ o' ∈ os, o'.dst ≠ some t) ∧ some d ≠ some t := fun t ht => by
        refine ⟨fun o' ho' e => ?_, fun e => ?_⟩
        · have := List.all_eq_true.1 h2 o' ho'
          rw [e] at this
          simp [ht] at this
        · injection e with e
          subst e
          simp [ht] at h1'
      have hdn : ∀ o' ∈ os, o'.dst ≠ some d := fun o' ho' e => by
        have := List.all_eq_true.1 h2 o' ho'
        rw [e] at this
        simp [hd] at this
      -- what the last state has, is what this one has
      have hsame : ∀ t ∈ o.looksAt ops, A.tmps[t]? = a.tmps[t]? := fun t ht => by
        have hl := h w1 hw1
        have := (list_frame (o :: os) a w1 hl).2 t (fun o' ho' => by
          rcases List.mem_cons.1 ho' with rfl | ho'
          · rw [hd]; exact (hun t ht).2
          · exact (hun t ht).1 o' ho')
        exact this
      have hsz : A.tmps.size = a.tmps.size := (list_frame (o :: os) a w1 (h w1 hw1)).1
      have hwt := wanted_same (ops := ops) hsame
      cases hb : Region.wanted o (yielded ops a.tmps) with
      | false =>
        refine ⟨undef, .inr ⟨hb, rfl⟩, row_sound hw1 os _ h4 fun w' hS => ?_⟩
        have := h w' hS
        unfold wpList at this
        rw [hb] at this
        simpa using this
      | true =>
        have hpur : purish P o a = true := by
          rw [← purish_same (P := P) (o := o) (a := a) (A := A) fun x hx => eval_same fun t ht => hsame t (looks_tmp (by rw [← ht]; exact hx))]
          rw [hwt, hb] at h3
          simpa using h3
        have step : ∀ w', S w' → ∃ v, (execOp a.eval o).run P w' = .ok (.value v) w' ∧ wpList P ops (atEnd A w') os (a.put o.dst v) w' := fun w' hS => by
          have hl := h w' hS
          unfold wpList at hl
          rw [hb] at hl
          simp only [if_true] at hl
          rcases hl with hl | ⟨_, a', w', h'⟩
          · unfold Oper.wp at hl
            cases hr : (execOp a.eval o).run P w' with
            | ok n w2 =>
              obtain ⟨rfl, v, rfl⟩ := purish_spec hpur w' n w2 hr
              rw [hr] at hl
              exact ⟨v, rfl, hl⟩
            | halt x w2 => rw [hr] at hl; cases x <;> simp only [Oper.upon] at hl <;> exact hl.elim
          · exact h'.elim
        have vis : ∀ w' v, wpList P ops (atEnd A w') os (a.put o.dst v) w' → A.tmps[d]? = some v := fun w' v hl => by
          rw [(list_frame os _ _ hl).2 d hdn, hd]
          have hd' : d < a.tmps.size := by rw [← hsz]; exact h1
          simp [Act.put, hd']
        obtain ⟨v, hr, hl⟩ := step w1 hw1
        have hv := vis w1 v hl
        refine ⟨v, .inl ⟨hb, fun w' hS => ?_⟩, row_sound hw1 os _ h4 fun w' hS => ?_⟩
        · obtain ⟨v', hr', hl'⟩ := step w' hS
          have := vis w' v' hl'
          rw [hv] at this
          injection this with this
          subst this
          exact hr'
        · obtain ⟨v', hr', hl'⟩ := step w' hS
          have := vis w' v' hl'
          rw [hv] at this
          injection this with this
          subst this
          exact hl'
end

/-! ### A region by rows and single operations -/
/-- One step of a plan: an operation that only computes (or reads what stays), or another one. -/
structure Move where
  pure : Bool
  on : Nat
section
variable {P : Program} {l : List Oper} {Q : Exit → Act → World → Prop} {S : World → Prop}

/-- Is a plan one for these operations? -/
def planOk (ops : Array Oper) : Nat → Array Bool → List Move → Bool
  | _, listed, [] => (Region.ready .any ops listed).isEmpty
  | 0, _, _ :: _ => false
  | n + 1, listed, m :: rest =>
    (if m.pure then Region.free .any ops listed m.on && (Region.ready .any ops listed).contains m.on else Region.ready .any ops listed == [m.on]) &&
    planOk ops n (listed.setIfInBounds m.on true) rest

/-- What is left to be shown, in the plan's order. -/
def wpPlan (P : Program) (l : List Oper) (Q : Exit → Act → World → Prop) (S : World → Prop) : List Move → Act → World → Prop
  | [], a, w => Q .normal a w
  | m :: rest, a, w =>
    match l[m.on]? with
    | none => False
    | some o =>
      if m.pure then S w ∧ ∃ v, YieldsIf P l.toArray S o v a ∧ wpPlan P l Q S rest (a.put o.dst v) w
      else wpOp P l.toArray Q m.on (fun a' w' => S w' ∧ wpPlan P l Q S rest a' w') a w

/-- only an ordinary end, and then this -/
def onward (K : Act → World → Prop) : Exit → Act → World → Prop
  | .normal, a, w => K a w
  | _, _, _ => False
theorem not_out (K : Act → World → Prop) : ¬ LetsOut (onward K) := fun ⟨_, _, h⟩ => h

theorem plan_sound {K : Act → World → Prop} (hs : Region.noSelect l.toArray = true) : ∀ (n : Nat) (listed : Array Bool) (ms : List Move) (a : Act) (w : World), planOk l.toArray n listed ms = true →
    wpPlan P l (onward K) S ms a w → wpAnyH P .any l.toArray (onward K) S n listed a w := by
  intro n
  induction n with
  | zero =>
    intro listed ms a w hk h
    cases ms with
    | nil => exact wpAnyH_done (by simpa [planOk] using hk) h 0
    | cons m rest => simp [planOk] at hk
  | succ n ih =>
    intro listed ms a w hk h
    cases ms with
    | nil => exact wpAnyH_done (by simpa [planOk] using hk) h _
    | cons m rest =>
      simp only [planOk, Bool.and_eq_true] at hk
      obtain ⟨h1, h2⟩ := hk
      simp only [wpPlan] at h
      cases ho : l[m.on]? with
      | none => rw [ho] at h; exact h.elim
      | some o =>
        rw [ho] at h
        have ho' : l.toArray[m.on]? = some o := by simpa using ho
        by_cases hp : m.pure = true
        · simp only [hp, if_true, Bool.and_eq_true] at h h1
          obtain ⟨hS, v, hy, h⟩ := h
          exact wpAnyH_take ho' hs h1.1 h1.2 (fun c a w hq => hq.elim) hy hS (ih _ _ _ _ h2 h)
        · have hp' : m.pure = false := by simpa using hp
          simp only [hp', Bool.false_eq_true, if_false] at h h1
          refine wpAnyH_all (rs := [m.on]) (by simpa using h1) (by simp) fun i hi => ?_
          obtain rfl : i = m.on := by simpa using hi
          exact wpOp_mono (fun a' w' hh => ⟨hh.1, ih _ _ _ _ h2 hh.2⟩) h

/-- some operations that only compute, in this order; then, if told, another one -/
structure Leg where
  row : List Nat
  on : Option Nat
def Leg.moves (g : Leg) : List Move := g.row.map (⟨true, ·⟩) ++ (match g.on with | some i => [⟨false, i⟩] | none => [])
def nthOp : List Oper → Nat → Option Oper
  | [], _ => none
  | o :: _, 0 => some o
  | _ :: r, n + 1 => nthOp r n
theorem nthOp_eq : ∀ (l : List Oper) (i : Nat), nthOp l i = l[i]?
  | [], _ => by simp [nthOp]
  | o :: _, 0 => rfl
  | _ :: r, n + 1 => by simp [nthOp, nthOp_eq r n]
def pick (l : List Oper) : List Nat → List Oper
  | [] => []
  | i :: js => match nthOp l i with
    | some o => o :: pick l js
    | none => []
def allIn (l : List Oper) (gs : List Leg) : Bool := gs.all fun g => g.row.all (· < l.length) && (match g.on with | some i => decide (i < l.length) | none => true)
/-- the obligations of a region, leg by leg -/
def wpLegs (P : Program) (l : List Oper) (K : Act → World → Prop) (S : World → Prop) : List Leg → Act → World → Prop
  | [], a, w => K a w
  | g :: rest, a, w => S w ∧ ∃ A, (∀ w', S w' → wpList P l.toArray (atEnd A w') (pick l g.row) a w') ∧ rowOk P l.toArray A (pick l g.row) = true ∧
    match g.on with
    | none => wpLegs P l K S rest A w
    | some i => wpList P l.toArray (onward fun a' w' => S w' ∧ wpLegs P l K S rest a' w') (pick l [i]) A w

theorem plan_row {K : Act → World → Prop} {A : Act} {w : World} (hS : S w) (rest : List Move) (h : wpPlan P l (onward K) S rest A w) : ∀ (js : List Nat) (a : Act), js.all (· < l.length) = true → chain P l.toArray S A (pick l js) a →
    wpPlan P l (onward K) S (js.map (⟨true, ·⟩) ++ rest) a w
  | [], a, _, hc => by obtain rfl : a = A := hc; exact h
  | i :: js, a, hi, hc => by
    simp only [List.all_cons, Bool.and_eq_true, decide_eq_true_eq] at hi
    have ho : l[i]? = some l[i] := List.getElem?_eq_getElem hi.1
    simp only [pick, nthOp_eq, ho, chain] at hc
    obtain ⟨v, hy, hc⟩ := hc
    simp only [List.map_cons, List.cons_append, wpPlan, ho, if_true]
    exact ⟨hS, v, hy, plan_row hS rest h js _ hi.2 hc⟩
theorem wp_onward {o : Oper} {a : Act} {w : World} {K K1 K2 : Act → World → Prop} (h : o.wp P a w K (onward K1)) : o.wp P a w K (onward K2) := by
  unfold Oper.wp at *
  generalize (execOp a.eval o).run P w = r at *
  cases r with
  | ok n w1 =>
    cases n <;> simp only [Oper.upon] at h ⊢ <;> try exact h
  | halt x w1 => cases x <;> simp only [Oper.upon] at h ⊢ <;> exact h.elim
theorem legs_sound {K : Act → World → Prop} : ∀ (gs : List Leg) (a : Act) (w : World), allIn l gs = true → wpLegs P l K S gs a w → wpPlan P l (onward K) S (gs.flatMap Leg.moves) a w
  | [], a, w, _, h => h
  | g :: rest, a, w, hi, h => by
    simp only [allIn, List.all_cons, Bool.and_eq_true] at hi
    obtain ⟨hS, A, h1, h2, h3⟩ := h
    have hc := row_sound hS _ _ h2 h1
    obtain ⟨row, on⟩ := g
    simp only [List.flatMap_cons, Leg.moves, List.append_assoc]
    refine plan_row hS _ ?_ row a hi.1.1 hc
    cases on with
    | none => exact legs_sound rest A w hi.2 h3
    | some i =>
      simp only [List.singleton_append, wpPlan]
      simp only [pick, nthOp_eq] at h3
      cases ho : l[i]? with
      | none =>
        have := hi.1.2
        simp only [decide_eq_true_eq] at this
        rw [List.getElem?_eq_getElem this] at ho
        cases ho
      | some o =>
        rw [ho] at h3
        have ho' : l.toArray[i]? = some o := by simpa using ho
        simp only [Bool.false_eq_true, if_false, wpOp, ho']
        simp only [wpList] at h3
        split
        · rename_i hw
          rw [hw] at h3
          simp only [if_true] at h3
          rcases h3 with h3 | ⟨_, h3⟩
          · exact .inl (wp_onward (Oper.wp_mono (fun a' w' hh => ⟨hh.1, legs_sound rest a' w' hi.2 hh.2⟩) h3))
          · exact absurd h3 (not_out _)
        · rename_i hw
          simp only [hw] at h3
          exact ⟨h3.1, legs_sound rest _ _ hi.2 h3.2⟩
/-- THE BEGINNING: a region whose order Go leaves open, by a plan. -/
theorem wp_region_legs {id : Nat} {a : Act} {w : World} (S : World → Prop) (gs : List Leg) (hm : P.follows .mixedOrders = true) (hs : (Region.noSelect l.toArray && allIn l gs && planOk l.toArray l.length (Array.replicate l.length false) (gs.flatMap Leg.moves)) = true)
    (h : wpLegs P l (fun a' w' => Q .normal a' w') S gs a w.drew) : (Code.region id l.toArray true).wp P Q a w := by
  simp only [Bool.and_eq_true] at hs
  refine wp_mono (wp_region_held (S := S) hm (Q := onward fun a' w' => Q .normal a' w') ?_) fun e a w hq => by cases e <;> first | exact hq | exact hq.elim
  have := plan_sound (P := P) (S := S) hs.1.1 l.length (Array.replicate l.length false) _ a w.drew hs.2 (legs_sound gs a w.drew hs.1.2 h)
  simpa using this
/-- a leg with another operation at its end, where nothing is asked of the worlds -/
theorem legs_on {K : Act → World → Prop} {row : List Nat} {i : Nat} {rest : List Leg} {a : Act} {w : World} (A : Act)
    (h1 : ∀ w', wpList P l.toArray (atEnd A w') (pick l row) a w') (h2 : rowOk P l.toArray A (pick l row) = true)
    (h3 : wpList P l.toArray (onward (wpLegs P l K (fun _ => True) rest)) (pick l [i]) A w) : wpLegs P l K (fun _ => True) (⟨row, some i⟩ :: rest) a w := by
  refine ⟨trivial, A, fun w' _ => h1 w', h2, ?_⟩
  simpa using h3
theorem legs_last {K : Act → World → Prop} {row : List Nat} {a : Act} {w : World} (A : Act)
    (h1 : ∀ w', wpList P l.toArray (atEnd A w') (pick l row) a w') (h2 : rowOk P l.toArray A (pick l row) = true)
    (h3 : K A w) : wpLegs P l K (fun _ => True) [⟨row, none⟩] a w :=
  ⟨trivial, A, fun w' _ => h1 w', h2, h3⟩
/-- the same, under a condition on the worlds that every other operation keeps -/
theorem legs_onS {K : Act → World → Prop} {row : List Nat} {i : Nat} {rest : List Leg} {a : Act} {w : World} (A : Act) (hS : S w)
    (h1 : ∀ w', S w' → wpList P l.toArray (atEnd A w') (pick l row) a w') (h2 : rowOk P l.toArray A (pick l row) = true)
    (h3 : wpList P l.toArray (onward fun a' w' => S w' ∧ wpLegs P l K S rest a' w') (pick l [i]) A w) : wpLegs P l K S (⟨row, some i⟩ :: rest) a w := ⟨hS, A, h1, h2, h3⟩
theorem legs_rowS {K : Act → World → Prop} {row : List Nat} {rest : List Leg} {a : Act} {w : World} (A : Act) (hS : S w)
    (h1 : ∀ w', S w' → wpList P l.toArray (atEnd A w') (pick l row) a w') (h2 : rowOk P l.toArray A (pick l row) = true)
    (h3 : wpLegs P l K S rest A w) : wpLegs P l K S (⟨row, none⟩ :: rest) a w := ⟨hS, A, h1, h2, h3⟩
theorem legs_nextS {K : Act → World → Prop} {rest : List Leg} {a : Act} {w : World} (h1 : S w) (h2 : wpLegs P l K S rest a w) : onward (fun a' w' => S w' ∧ wpLegs P l K S rest a' w') .normal a w := ⟨h1, h2⟩
theorem legs_endS {K : Act → World → Prop} {a : Act} {w : World} (h : K a w) : wpLegs P l K S [] a w := h
end
end Go.Proofs.YtdfgcenbkclpbaaDoor
