/- Memory that functions write: what stays, what turns. -/
import Derived.Test.YtdfgcenbkclpbaaDoorBase
import Derived.Deep.MidRow
import Derived.Laws.ResultCell
namespace Go.Proofs.YtdfgcenbkclpbaaDoor
open Go.RowKit
set_option linter.unusedSimpArgs false
set_option linter.unusedVariables false
/-- Of the blocks that were there, those of S alone may have turned. -/
structure Touch (S : List Nat) (w w' : World) : Prop where
  os : w'.os = w.os
  tape : w'.tape = w.tape
  output : w'.output = w.output
  size : w.heap.size ≤ w'.heap.size
  block : ∀ k, k < w.heap.size → k ∉ S → w'.heap[k]? = w.heap[k]?
theorem Touch.refl (S : List Nat) (w : World) : Touch S w w := ⟨rfl, rfl, rfl, Nat.le_refl _, fun _ _ _ => rfl⟩
theorem Touch.trans {S : List Nat} {a b c : World} (h : Touch S a b) (k : Touch S b c) : Touch S a c :=
  ⟨k.os.trans h.os, k.tape.trans h.tape, k.output.trans h.output, Nat.le_trans h.size k.size, fun i hi hn => (k.block i (Nat.lt_of_lt_of_le hi h.size) hn).trans (h.block i hi hn)⟩
theorem Touch.mono {S T : List Nat} {w w' : World} (h : Touch S w w') (hs : ∀ k ∈ S, k ∈ T ∨ w.heap.size ≤ k) : Touch T w w' :=
  ⟨h.os, h.tape, h.output, h.size, fun k hk hn => h.block k hk fun hm => (hs k hm).elim hn (by omega)⟩
theorem Touch.drew {S : List Nat} {a w : World} (h : Touch S a w) : Touch S a w.drew := ⟨h.os, h.tape, h.output, h.size, h.block⟩
theorem Touch.undrew {S : List Nat} {a w : World} (h : Touch S a.drew w) : Touch S a w := ⟨h.os, h.tape, h.output, h.size, h.block⟩
theorem Touch.alloc {S : List Nat} {a w : World} (h : Touch S a w) (o : Obj) : Touch S a (w.alloc o) :=
  h.trans ⟨rfl, rfl, rfl, by simp, fun k hk _ => Below.heap_alloc _ _ _ hk⟩
theorem Touch.setCell {S : List Nat} {a w : World} (h : Touch S a w) {p : Addr} (hp : p.block ∈ S ∨ a.heap.size ≤ p.block) (u : Value) : Touch S a (w.setCell p u) :=
  ⟨h.os, h.tape, h.output, by simpa [World.setCell] using h.size, fun k hk hn => by
    rw [Below.heap_setCell _ _ _ _ (by rcases hp with hp | hp; exact fun e => hn (e ▸ hp); omega)]; exact h.block k hk hn⟩
theorem Touch.setCells {S : List Nat} {a : World} {b : Nat} (hp : b ∈ S ∨ a.heap.size ≤ b) (vs : List Value) : ∀ {o : Nat} {w : World}, Touch S a w → Touch S a (w.setCells b o vs) := by
  induction vs with
  | nil => exact fun h => h
  | cons v vs ih => exact fun h => ih (h.setCell hp v)
theorem Touch.of_below {S : List Nat} {w w' : World} (h : Below w.heap.size w w') : Touch S w w' := ⟨h.os, h.tape, h.output, h.size, fun k hk _ => h.block k hk⟩
theorem Touch.below {w w' : World} (h : Touch [] w w') : Below w.heap.size w w' := ⟨h.os, h.tape, h.output, h.size, fun k hk => h.block k hk (by simp)⟩
theorem Below.touch {S : List Nat} {B : Nat} {a w w' : World} (h : Below B a w) (ht : Touch S w w') (hS : ∀ k ∈ S, B ≤ k) (hB : B ≤ w.heap.size) : Below B a w' :=
  h.trans ⟨ht.os, ht.tape, ht.output, ht.size, fun k hk => ht.block k (by omega) fun hm => by have := hS k hm; omega⟩
theorem Touch.cell {S : List Nat} {w w' : World} (h : Touch S w w') {p : Addr} {v : Value} (hc : w.cell? p = some v) (hn : p.block ∉ S) : w'.cell? p = some v := by
  have hb := block_lt_of_cell hc
  unfold World.cell? at *
  rw [h.block _ hb hn]
  exact hc
theorem SliceAt.touch {S : List Nat} {w w' : World} {A : Option Addr} {l : List Value} (h : SliceAt w A l) (ht : Touch S w w') (hn : ∀ x, A = some x → x.block ∉ S) : SliceAt w' A l := by
  rcases h.is with rfl | ⟨b, off, rfl, hc⟩
  · exact .nil _ _
  · exact .mk' fun j v hv => ht.cell (hc j v hv) (hn ⟨b, off, none⟩ rfl)
theorem OwnAt.lt {w : World} {b off : Nat} {l : List Value} (h : OwnAt w b off l) (hl : 0 < l.length) : b < w.heap.size := block_lt_of_cell (h.get 0 hl)
theorem OwnAt.touch {S : List Nat} {w w' : World} {b off : Nat} {l : List Value} (h : OwnAt w b off l) (ht : Touch S w w') (hn : b ∉ S) : OwnAt w' b off l := by
  by_cases hl : 0 < l.length
  · exact h.keep (ht.block b (h.lt hl) hn)
  · have : l = [] := List.length_eq_zero_iff.1 (by omega)
    subst this
    exact ⟨by simp, by simp⟩
theorem OwnAt.range {w : World} {b off : Nat} {l : List Value} (h : OwnAt w b off l) {i : Nat} {cs : List Value} (hc : ∀ j v, cs[j]? = some v → l[i + j]? = some v) : w.rangeAt b (off + i) cs := fun j v hv => by
  rw [Nat.add_assoc]; exact h.cells _ _ (hc j v hv)
theorem OwnAt.there {w : World} {b off : Nat} {l : List Value} (h : OwnAt w b off l) {i n : Nat} (hn : i + n ≤ l.length) : w.there b (off + i) n := fun j hj => by
  rw [Nat.add_assoc]
  exact ⟨by rw [h.get (i + j) (by omega)]; rfl, h.free _ (by omega)⟩
theorem OwnAt.all {w : World} {b off : Nat} {l : List Value} (h : OwnAt w b off l) : w.rangeAt b off l := fun j v hv => h.cells j v hv
/-- cells written into the middle of what is owned -/
theorem OwnAt.setCells {w : World} {b off : Nat} {l : List Value} (h : OwnAt w b off l) (i : Nat) (vs : List Value) (hi : i + vs.length ≤ l.length) : OwnAt (w.setCells b (off + i) vs) b off (l.take i ++ vs ++ l.drop (i + vs.length)) := by
  refine ⟨fun j v hv => ?_, fun j hj => ?_⟩
  · by_cases h1 : j < i
    · rw [List.append_assoc, List.getElem?_append_left (by simp; omega), List.getElem?_take, if_pos h1] at hv
      rw [World.cell?_setCells_out b vs _ w _ (fun _ _ => by left; show off + j < off + i; omega)]
      exact h.cells j v hv
    · by_cases h2 : j < i + vs.length
      · rw [List.append_assoc, List.getElem?_append_right (by simp; omega), List.getElem?_append_left (by simp; omega)] at hv
        simp only [List.length_take, show min i l.length = i by omega] at hv
        obtain ⟨h3, rfl⟩ := List.getElem?_eq_some_iff.1 hv
        have := World.cell?_setCells_in b vs (off + i) w (fun k hk => by rw [Nat.add_assoc, h.get (i + k) (by omega)]; rfl) (j - i) h3
        rw [show off + i + (j - i) = off + j by omega] at this
        exact this
      · rw [List.getElem?_append_right (by simp; omega), List.getElem?_drop] at hv
        simp only [List.length_append, List.length_take, show min i l.length = i by omega] at hv
        rw [show i + vs.length + (j - (i + vs.length)) = j by omega] at hv
        rw [World.cell?_setCells_out b vs _ w _ (fun _ _ => by right; show off + i + vs.length ≤ off + j; omega)]
        exact h.cells j v hv
  · rw [World.frozen?_setCells]
    exact h.free j (by simp at hj; omega)
theorem OwnAt.alloc {w : World} {b off : Nat} {l : List Value} (h : OwnAt w b off l) (o : Obj) : OwnAt (w.alloc o) b off l := h.touch (S := []) ((Touch.refl _ _).alloc o) (by simp)
/-- a block that has just been made -/
theorem OwnAt.new (w : World) (cs : Array Value) (t : TypeId) : OwnAt (w.alloc (.cells cs t)) w.heap.size 0 cs.toList :=
  OwnAt.block (heap_alloc_new _ _) _ (by intro j v h; simpa using h) (Or.inr (Nat.zero_le _))
theorem OwnAt.new' (w : World) (cs : Array Value) (t : TypeId) {g : Nat} (hg : w.heap.size = g) : OwnAt (w.alloc (.cells cs t)) g 0 cs.toList := hg ▸ OwnAt.new w cs t
theorem OwnAt.set0 {w : World} {b : Nat} {l : List Value} (h : OwnAt w b 0 l) (j : Nat) (v : Value) (hj : j < l.length) : OwnAt (w.setCell ⟨b, j, none⟩ v) b 0 (l.set j v) := by
  have := h.set j v hj; rwa [Nat.zero_add] at this
theorem OwnAt.other {w : World} {b off : Nat} {l : List Value} (h : OwnAt w b off l) {p : Addr} (hp : p.block ≠ b) (v : Value) : OwnAt (w.setCell p v) b off l := h.keep (Below.heap_setCell _ _ _ _ (by omega))
theorem OwnAt.others {b off : Nat} {l : List Value} {c : Nat} (hp : c ≠ b) (vs : List Value) : ∀ {o : Nat} {w : World}, OwnAt w b off l → OwnAt (w.setCells c o vs) b off l := by
  induction vs with
  | nil => exact fun h => h
  | cons v vs ih => exact fun h => ih (h.other hp v)
/-- results that lie in a variable of more than one cell -/
theorem ret_range {P : Program} {fn : Func} {R : Ending → World → Prop} {p : Tmp} {ty : TypeId} {a : Act} {w : World} {b o : Nat} {cs : List Value} {d : TypeDesc} (hc : w.rangeAt b o cs) (h : fn.results = #[.cell p ty])
    (hp : a.tmps.getD p undef = .pointer (some ⟨b, o, none⟩)) (hu : P.underlying ty = some d) (hd : d.isRow = true) (hi : (P.info? ty).map (·.size) = some cs.length) (hde : a.defers = [])
    (hR : R (.returned (.agg cs.toArray)) w) : bodyPost P fn R .ret a w := by
  refine bodyPost_ret (v := .agg cs.toArray) ?_ hde hR
  have hp' : a.tmps[p]?.getD undef = .pointer (some ⟨b, o, none⟩) := by simpa using hp
  simp [results, h, hp', asAddr, run_loadVar_mid w b o ty cs d hc hu hd hi]
theorem ret_range_tmp {P : Program} {fn : Func} {R : Ending → World → Prop} {p u : Tmp} {ty : TypeId} {a : Act} {w : World} {b o : Nat} {cs : List Value} {d : TypeDesc} (hc : w.rangeAt b o cs) (h : fn.results = #[.cell p ty, .tmp u])
    (hp : a.tmps.getD p undef = .pointer (some ⟨b, o, none⟩)) (hu : P.underlying ty = some d) (hd : d.isRow = true) (hi : (P.info? ty).map (·.size) = some cs.length) (hde : a.defers = [])
    (hR : R (.returned (.tuple #[.agg cs.toArray, a.tmps.getD u undef])) w) : bodyPost P fn R .ret a w := by
  refine bodyPost_ret (v := .tuple #[.agg cs.toArray, a.tmps.getD u undef]) ?_ hde hR
  rw [results_cell_tmp h]
  simp only [hp, asAddr, Sem.run_pure, Result.andThen_ok]
  simp [asAddr, run_loadVar_mid w b o ty cs d hc hu hd hi, Result.andThen]
end Go.Proofs.YtdfgcenbkclpbaaDoor
