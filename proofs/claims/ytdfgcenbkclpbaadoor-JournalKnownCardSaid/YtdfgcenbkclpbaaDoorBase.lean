/- Words that all walks of this seat share: what a slice holds; conversions between bytes and strings. -/
import Derived.Test.YtdfgcenbkclpbaaDoorProg
import Derived.WalkKit
import Derived.KernelRfl
import Derived.Outline
import Derived.Below
import Derived.Deep.LoopGhost
import Derived.Laws.Rows
import Derived.Deep.WholeRow
import Derived.Laws.BitsLemmas
import Derived.Laws.BytesArg
import Derived.Lib.ConvBytes
import Derived.Lib.Hide
import Derived.Lib.SlBytesConst
import Derived.Deep.OwnRows
import Derived.Deep.RegionWith
namespace Go.Proofs.YtdfgcenbkclpbaaDoor
open Go.RowKit
set_option linter.unusedSimpArgs false
set_option linter.unusedVariables false
abbrev u8v (x : UInt8) : Value := .int .u8 (x.toNat : Int)
abbrev u16v (s : BitVec 16) : Value := .int .u16 (s.toNat : Int)

theorem Addr.add_mid' (b o j : Nat) : (⟨b, o, none⟩ : Addr).add j = ⟨b, o + j, none⟩ := by unfold Addr.add; split <;> simp_all
/-- the cells of a slice -/
structure SliceAt (w : World) (A : Option Addr) (l : List Value) : Prop where
  is : l = [] ∨ ∃ b off, A = some ⟨b, off, none⟩ ∧ ∀ j v, l[j]? = some v → w.cell? ⟨b, off + j, none⟩ = some v
theorem SliceAt.nil (w : World) (A : Option Addr) : SliceAt w A [] := ⟨.inl rfl⟩
theorem SliceAt.mk' {w : World} {b off : Nat} {l : List Value} (h : ∀ j v, l[j]? = some v → w.cell? ⟨b, off + j, none⟩ = some v) : SliceAt w (some ⟨b, off, none⟩) l := ⟨.inr ⟨b, off, rfl, h⟩⟩
theorem SliceAt.at_ {w : World} {A : Option Addr} {l : List Value} (h : SliceAt w A l) (j : Nat) (hj : j < l.length) : ∃ b off, A = some ⟨b, off, none⟩ ∧ w.cell? ⟨b, off + j, none⟩ = some l[j] := by
  rcases h.is with rfl | ⟨b, off, rfl, hcel⟩
  · simp at hj
  · exact ⟨b, off, rfl, hcel j _ (List.getElem?_eq_getElem hj)⟩
theorem SliceAt.keep {w w' : World} {A : Option Addr} {l : List Value} (h : SliceAt w A l) (hb : ∀ a v, w.cell? a = some v → w'.cell? a = some v) : SliceAt w' A l := by
  rcases h.is with rfl | ⟨b, off, rfl, hcel⟩
  · exact .nil _ _
  · exact .mk' fun j v hv => hb _ _ (hcel j v hv)
theorem SliceAt.below {w w' : World} {A : Option Addr} {l : List Value} (h : SliceAt w A l) (hb : Below w.heap.size w w') : SliceAt w' A l :=
  h.keep fun a v hv => by rw [hb.cell]; exact hv; exact block_lt_of_cell hv
theorem SliceAt.drew {w : World} {A : Option Addr} {l : List Value} (h : SliceAt w A l) : SliceAt w.drew A l := ⟨h.is⟩
theorem SliceAt.block {w : World} {g : Nat} {cs : Array Value} {t : TypeId} {fr : Nat × Nat} (hg : w.heap[g]? = some (.cells cs t fr)) : SliceAt w (some ⟨g, 0, none⟩) cs.toList := by
  refine .mk' fun j v hv => ?_
  rw [cell_of_row _ _ _ _ _ _ hg]
  simpa using hv
theorem SliceAt.cons_block {w : World} {A : Option Addr} {x : Value} {l : List Value} (h : SliceAt w A (x :: l)) : ∃ b off, A = some ⟨b, off, none⟩ := by
  rcases h.is with h | ⟨b, off, rfl, _⟩
  · cases h
  · exact ⟨b, off, rfl⟩
theorem SliceAt.take {w : World} {A : Option Addr} {l : List Value} (h : SliceAt w A l) (n : Nat) : SliceAt w A (l.take n) := by
  rcases h.is with rfl | ⟨b, off, rfl, hcel⟩
  · rw [List.take_nil]; exact .nil _ _
  · refine .mk' fun j v hv => hcel j v ?_
    rw [List.getElem?_take] at hv
    split at hv
    · exact hv
    · cases hv
theorem SliceAt.drop {w : World} {b off : Nat} {l : List Value} (h : SliceAt w (some ⟨b, off, none⟩) l) (n : Nat) : SliceAt w (some ⟨b, off + n, none⟩) (l.drop n) := by
  rcases h.is with rfl | ⟨b', off', e, h⟩
  · rw [List.drop_nil]; exact .nil _ _
  · injection e with e; injection e with e1 e2; subst e1; subst e2
    refine .mk' fun j v hv => ?_
    rw [List.getElem?_drop] at hv
    rw [Nat.add_assoc]
    exact h _ v hv

/-- what 's[k:]' holds -/
def fromA (A : Option Addr) (c k : Nat) : Option Addr := if c = k then A else A.map (·.add (k * 1))
theorem sliced_from (A : Option Addr) (n c k : Nat) : sliced A k n c 1 = .slice (fromA A c k) (n - k) (c - k) := rfl
theorem sliced_to (A : Option Addr) (c k s : Nat) : sliced A 0 k c s = .slice A k c := by
  unfold sliced
  simp
  intro _
  cases A <;> simp [Addr.add]
theorem SliceAt.from {w : World} {A : Option Addr} {l : List Value} (h : SliceAt w A l) (c k : Nat) (hc : l.length ≤ c) : SliceAt w (fromA A c k) (l.drop k) := by
  by_cases hk : l.length ≤ k
  · rw [List.drop_of_length_le hk]; exact .nil _ _
  · rcases h.is with rfl | ⟨b, off, rfl, hcel⟩
    · simp at hk
    · unfold fromA
      rw [if_neg (by omega), Option.map_some, Addr.add_mid', Nat.mul_one]
      exact SliceAt.drop (.mk' hcel) k
theorem run_from {P : Program} {t : TypeId} (ht : P.underlying t = some (.slice (P.elem t))) (hs : (P.info? (P.elem t)).map (·.size) = some 1) (A : Option Addr) (n c k : Nat) (kd : IntKind) (h : k ≤ n) (w : World) :
    (Instr.sliceAt t (.slice A n c) (some (.int kd (k : Int))) none none).run P w = .ok (.slice (fromA A c k) (n - k) (c - k)) w := by
  rw [run_sliceAt_slice _ t _ _ _ _ ht, run_slice_l _ t A n c ht kd (k : Int) (by omega) (by omega)]
  cases hi : P.info? (P.elem t) with
  | none => simp [hi] at hs
  | some i =>
    simp [hi] at hs
    simp [sizeOf, typeInfo, hi, hs, sliced_from]
theorem run_upto {P : Program} {t : TypeId} (ht : P.underlying t = some (.slice (P.elem t))) (hs : (P.info? (P.elem t)).map (·.size) = some 1) (A : Option Addr) (n c k : Nat) (kd : IntKind) (h : k ≤ c) (w : World) :
    (Instr.sliceAt t (.slice A n c) none (some (.int kd (k : Int))) none).run P w = .ok (.slice A k c) w := by
  rw [run_sliceAt_slice _ t _ _ _ _ ht, run_slice_h _ t A n c ht kd (k : Int) (by omega) (by omega)]
  cases hi : P.info? (P.elem t) with
  | none => simp [hi] at hs
  | some i =>
    simp [hi] at hs
    simp [sizeOf, typeInfo, hi, hs, sliced_to]
/-- bytes to a string -/
theorem run_str {P : Program} {src e dst : TypeId} (hs : P.underlying src = some (.slice e)) (he : P.underlying e = some (.int .u8)) (hd : P.underlying dst = some .string)
    {w : World} {A : Option Addr} {l : List UInt8} (h : SliceAt w A (l.map u8v)) (c : Nat) :
    (convert src dst (.slice A l.length c)).run P w = .ok (.string ⟨l.toArray⟩) w := by
  have hx : strOfNums (l.map fun x => (x.toNat : Int)) = ⟨l.toArray⟩ := by
    unfold strOfNums
    congr 2
    rw [List.map_map]
    conv => rhs; rw [← List.map_id l]
    apply List.map_congr_left
    intro x _
    simp
  rcases A with _ | ⟨b, off, sp⟩
  · rcases h.is with h | ⟨b, off, h, _⟩
    · have : l = [] := by simpa using h
      subst this
      exact run_convert_bytes_nil w src e hs he _ c dst hd
    · cases h
  · by_cases hl : l = []
    · subst hl
      rw [run_convert_bytes_string w src dst e _ _ c hs he hd]
      simp [Conv.bytesToString, loadCells, loadCellsFrom]
      try rfl
    · rcases h.is with h | ⟨b', off', h, hc⟩
      · exact absurd (by simpa using h) hl
      · injection h with h; injection h with h1 h2 h3; subst h1; subst h2; subst h3
        rw [run_convert_bytes_arg w src e hs he b off l.length c (l.map fun x => (x.toNat : Int)) (by simp) (fun i hi => ?_) dst hd, hx]
        rw [hc i (u8v (l[i]'hi)) (by simp [hi])]
        simp [hi]
/-- a string to bytes: the world behind it -/
theorem bytesWorld_below (w : World) (e : TypeId) (s : ByteArray) : Below w.heap.size w (Lib.bytesWorld w e s) :=
  ⟨rfl, rfl, rfl, by rw [Lib.bytesWorld_size]; omega, fun i hi => Lib.bytesWorld_at_old w e s i hi⟩
theorem bytesWorld_slice (w : World) (e : TypeId) (l : List UInt8) : SliceAt (Lib.bytesWorld w e ⟨l.toArray⟩) (some ⟨w.heap.size, 0, none⟩) (l.map u8v) := by
  refine .mk' fun j v hv => ?_
  have hj : j < l.length := by
    rcases Nat.lt_or_ge j l.length with h | h
    · exact h
    · rw [List.getElem?_eq_none (by simpa using h)] at hv; cases hv
  rw [Nat.zero_add, Lib.bytesWorld_cell _ _ _ _ (by simpa [ByteArray.size] using hj)]
  simp [hj] at hv ⊢
  exact hv
theorem str_eq (a b : List UInt8) : ((⟨a.toArray⟩ : ByteArray) == ⟨b.toArray⟩) = decide (a = b) := by
  show (a.toArray == b.toArray) = decide (a = b)
  rw [Bool.eq_iff_iff]; simp
/-- an argument that is a slice of whole numbers, as the row gives it -/
def IsRow (k : IntKind) (w : World) (a : Option Addr) (len cap : Nat) (zs : List Int) : Prop :=
  (a = none ∧ len = 0 ∧ cap = 0 ∧ zs = []) ∨
  ∃ x, a = some x ∧ len ≤ cap ∧ cap ≤ maxLen ∧ zs.length = cap ∧ (∀ i, i < zs.length → w.cell? (x.add i) = some (.int k (zs.getD i 0))) ∧ ∀ n ∈ zs, (Lit.int k n).wf = true
theorem wf_u8 {n : Int} (h : (Lit.int .u8 n).wf = true) : 0 ≤ n ∧ n < 256 := by
  simp [Lit.wf, IntKind.min, IntKind.max, IntKind.bits, IntKind.signed] at h; omega
theorem wf_u16 {n : Int} (h : (Lit.int .u16 n).wf = true) : 0 ≤ n ∧ n < 65536 := by
  simp [Lit.wf, IntKind.min, IntKind.max, IntKind.bits, IntKind.signed] at h; omega
theorem bits_of_u16 {n : Int} (h : (Lit.int .u16 n).wf = true) : ∃ s : BitVec 16, n = (s.toNat : Int) := by
  have := wf_u16 h
  exact ⟨BitVec.ofNat 16 n.toNat, by simp; omega⟩
theorem IsRow.ints {k : IntKind} {w : World} {a : Option Addr} {len cap : Nat} {zs : List Int} (h : IsRow k w a len cap zs) :
    ∃ l : List Int, len = l.length ∧ l.length ≤ 9223372036854775807 ∧ SliceAt w a (l.map (Value.int k)) ∧ ∀ n ∈ l, (Lit.int k n).wf = true := by
  rcases h with ⟨rfl, rfl, rfl, rfl⟩ | ⟨⟨b, off, sp⟩, rfl, h1, h2, h3, h4, h5⟩
  · exact ⟨[], rfl, by simp, .nil _ _, by simp⟩
  · refine ⟨zs.take len, by simp; omega, by unfold maxLen at h2; simp; omega, ?_, fun n hn => h5 n (List.mem_of_mem_take hn)⟩
    by_cases hz : len = 0
    · subst hz; exact .nil _ _
    · have hsp : sp = none := by
        have := h4 0 (by omega)
        cases sp with
        | none => rfl
        | some p => unfold World.cell? Addr.add at this; simp at this; split at this <;> simp at this
      subst hsp
      refine .mk' fun j v hv => ?_
      have hj : j < len := by
        rcases Nat.lt_or_ge j len with h | h
        · exact h
        · rw [List.getElem?_eq_none (by simp; omega)] at hv; cases hv
      have := h4 j (by omega)
      rw [Addr.add_mid'] at this
      rw [this]
      simp [List.getElem?_map, List.getElem?_take, hj, show j < zs.length by omega] at hv
      simp [List.getD, show j < zs.length by omega, hv]
theorem bytes_of_wf (l : List Int) (h : ∀ n ∈ l, (Lit.int .u8 n).wf = true) : ∃ b : List UInt8, l = b.map fun x => (x.toNat : Int) := by
  induction l with
  | nil => exact ⟨[], rfl⟩
  | cons n l ih =>
    obtain ⟨b, rfl⟩ := ih fun n hn => h n (List.mem_cons_of_mem _ hn)
    have := wf_u8 (h n (List.mem_cons_self ..))
    exact ⟨UInt8.ofNat n.toNat :: b, by simp [UInt8.toNat_ofNat']; omega⟩
theorem IsRow.bytes {w : World} {a : Option Addr} {len cap : Nat} {zs : List Int} (h : IsRow .u8 w a len cap zs) :
    ∃ l : List UInt8, len = l.length ∧ l.length ≤ 9223372036854775807 ∧ SliceAt w a (l.map u8v) := by
  obtain ⟨l, rfl, hl, hs, hw⟩ := h.ints
  obtain ⟨b, rfl⟩ := bytes_of_wf l hw
  exact ⟨b, by simp, by simpa using hl, by simpa [Function.comp_def] using hs⟩
theorem IsRow.le {k : IntKind} {w : World} {a : Option Addr} {len cap : Nat} {zs : List Int} (h : IsRow k w a len cap zs) : len ≤ cap := by
  rcases h with ⟨_, rfl, rfl, _⟩ | ⟨_, _, h, _⟩
  · exact Nat.le_refl _
  · exact h
theorem made_row (z : Value) (n : Nat) : madeCells #[z] n = Array.replicate n z := by
  apply Array.ext
  · simp [madeCells]
  · intro i h1 h2; simp [madeCells, Nat.mod_one]
/-- a row that is filled from its begin on: k of n -/
def filled (vs : List Value) (k n : Nat) (z : Value) : Array Value := (vs.take k ++ List.replicate (n - k) z).toArray
theorem filled_zero (vs : List Value) (n : Nat) (z : Value) : filled vs 0 n z = Array.replicate n z := by simp [filled]
theorem filled_at {vs : List Value} {k n : Nat} {z : Value} (hk : k < n) (hv : vs.length = n) : (filled vs k n z)[k]? = some z := by
  simp [filled, List.getElem?_append, List.length_take, show min k vs.length = k by omega, show 0 < n - k by omega, List.getElem?_replicate]
theorem filled_set {vs : List Value} {k n : Nat} {z : Value} (hk : k < n) (hv : vs.length = n) : (filled vs k n z).setIfInBounds k (vs[k]'(by omega)) = filled vs (k + 1) n z := by
  unfold filled
  rw [List.setIfInBounds_toArray]
  congr 1
  apply List.ext_getElem?
  intro i
  rw [List.getElem?_set, List.getElem?_append, List.getElem?_append]
  simp only [List.length_take, List.length_append, List.length_replicate, show min k vs.length = k by omega, show min (k + 1) vs.length = k + 1 by omega]
  by_cases h1 : k = i
  · subst h1
    simp [show k < k + (n - k) by omega, List.getElem?_take, show k < vs.length by omega]
  · by_cases h2 : i < k
    · simp [h1, h2, show i < k + 1 by omega, List.getElem?_take]
    · simp [h1, h2, show ¬ i < k + 1 by omega, List.getElem?_replicate]
      congr 1
      simp; omega
theorem filled_full {vs : List Value} {n : Nat} {z : Value} (hv : vs.length = n) : filled vs n n z = vs.toArray := by
  simp [filled, ← hv]
/-- a row of cells that may be written -/
structure OwnAt (w : World) (b off : Nat) (l : List Value) : Prop where
  cells : ∀ (j : Nat) (v : Value), l[j]? = some v → w.cell? ⟨b, off + j, none⟩ = some v
  free : ∀ j, j < l.length → w.frozen? ⟨b, off + j, none⟩ = false
theorem OwnAt.slice {w : World} {b off : Nat} {l : List Value} (h : OwnAt w b off l) : SliceAt w (some ⟨b, off, none⟩) l := .mk' h.cells
theorem OwnAt.drew {w : World} {b off : Nat} {l : List Value} (h : OwnAt w b off l) : OwnAt w.drew b off l := ⟨h.cells, h.free⟩
theorem OwnAt.get {w : World} {b off : Nat} {l : List Value} (h : OwnAt w b off l) (j : Nat) (hj : j < l.length) : w.cell? ⟨b, off + j, none⟩ = some l[j] := h.cells j _ (List.getElem?_eq_getElem hj)
theorem OwnAt.set {w : World} {b off : Nat} {l : List Value} (h : OwnAt w b off l) (j : Nat) (v : Value) (hj : j < l.length) : OwnAt (w.setCell ⟨b, off + j, none⟩ v) b off (l.set j v) := by
  refine ⟨fun i u hu => ?_, fun i hi => by rw [World.frozen?_setCell]; exact h.free i (by simpa using hi)⟩
  by_cases e : j = i
  · subst e
    rw [List.getElem?_set_self (by omega)] at hu
    injection hu with hu
    subst hu
    exact World.cell?_setCell_same _ _ _ (h.get j hj)
  · rw [List.getElem?_set_ne e] at hu
    rw [World.cell?_setCell_other _ _ _ _ (by intro h; injection h with h1 h2; omega)]
    exact h.cells i u hu
theorem OwnAt.keep {w w' : World} {b off : Nat} {l : List Value} (h : OwnAt w b off l) (hb : w'.heap[b]? = w.heap[b]?) : OwnAt w' b off l := by
  refine ⟨fun j v hv => ?_, fun j hj => ?_⟩
  · have := h.cells j v hv
    unfold World.cell? at *
    simp only [hb]
    exact this
  · have := h.free j hj
    unfold World.frozen? at *
    simp only [hb]
    exact this
theorem OwnAt.below {w w' : World} {b off : Nat} {l : List Value} (h : OwnAt w b off l) (hb : Below w.heap.size w w') (hl : b < w.heap.size) : OwnAt w' b off l := h.keep (hb.block b hl)
theorem OwnAt.block {w : World} {g lo hi : Nat} {cs : Array Value} {t : TypeId} (hg : w.heap[g]? = some (.cells cs t (lo, hi))) (l : List Value) (hl : ∀ (j : Nat) (v : Value), l[j]? = some v → cs[j]? = some v) (hf : l.length ≤ lo ∨ hi ≤ lo) : OwnAt w g 0 l := by
  refine ⟨fun j v hv => ?_, fun j hj => ?_⟩
  · rw [cell_of_row _ _ _ _ _ _ hg]; rw [Nat.zero_add]; exact hl j v hv
  · unfold World.frozen?
    simp only [hg]
    simp; omega
theorem bytesWorld_own (w : World) (e : TypeId) (l : List UInt8) : OwnAt (Lib.bytesWorld w e ⟨l.toArray⟩) w.heap.size 0 (l.map u8v) := by
  refine ⟨fun j v hv => ?_, fun j hj => ?_⟩
  · have := (bytesWorld_slice w e l).is
    have hj : j < l.length := by
      rcases Nat.lt_or_ge j l.length with h | h
      · exact h
      · rw [List.getElem?_eq_none (by simpa using h)] at hv; cases hv
    rw [Nat.zero_add, Lib.bytesWorld_cell _ _ _ _ (by simpa [ByteArray.size] using hj)]
    simp [hj] at hv ⊢
    exact hv
  · unfold World.frozen?
    rw [Lib.bytesWorld_at_new]
    have hs : l.length ≤ (Lib.bytesCells w e ⟨l.toArray⟩).size := by simp [Lib.bytesCells]
    simp at hj
    simp; omega
end Go.Proofs.YtdfgcenbkclpbaaDoor
