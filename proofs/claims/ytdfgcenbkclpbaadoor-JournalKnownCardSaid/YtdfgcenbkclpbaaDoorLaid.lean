/- What is laid of journal.free: four cells of 255. -/
import Derived.Test.YtdfgcenbkclpbaaDoorRows
import Derived.Test.YtdfgcenbkclpbaaDoorFlash
import Derived.ProofKit
import Derived.LaidMore
import Derived.OpenShut
import Derived.Stop.Joined
namespace Go.Proofs.YtdfgcenbkclpbaaDoor
open Go.ChangeShapes Go.WideShapes Go.ChangeAt Go.WideMaps Go.WideElems Go.RowKit
def laidFree : List (String × DataW Unit) := [("campanile/journal.free", Rows.laid_campanile_journal_free)]
theorem gFree : Tryd.prog.globalNamed "campanile/journal.free" = some 0 := by kernel_rfl
theorem tFree : (Tryd.prog.globals[0]?).map (·.type) = some 30 := by kernel_rfl
theorem door_met (os : Os) (args : Array Value) : laidMetH Tryd.prog laidFree ((World.doorLaid Tryd.prog 400 os).forCall (fun _ _ => 0) ⟨#[], args, []⟩).memory :=
  laidMetH_of_parts3 (fuel := 8) (laidMet_of_run' 8 (by kernel_rfl) (by kernel_rfl)) (by kernel_rfl) (by kernel_rfl)
set_option maxRecDepth 100000 in
theorem of_laid {W : World} (h : laidMetH Tryd.prog laidFree W) : W.rangeAt 0 0 W4.free.cells := by
  rw [MakeChecks.laidMetH_plain _ _ _ (by kernel_rfl)] at h
  obtain ⟨ps, ⟨g0, t0, cs0, f0, p0, q0, hg0, ht0, hv0, hd0, _, _⟩, _, _⟩ := h
  obtain rfl := Option.some.inj (gFree.symm.trans hg0)
  obtain rfl := Option.some.inj (tFree.symm.trans ht0)
  obtain ⟨xs, m1, rfl, hx1, hlen, hn3, hel⟩ := DataW.trod_array Tryd.underlying30 hd0
  have c1 : Tryd.prog.cellsOf 5 = 1 := by kernel_rfl
  have c4 : Tryd.prog.cellsOf 30 = 4 := by kernel_rfl
  rw [c4] at hlen
  have hc : ∀ j, W.cell? ⟨0, j, none⟩ = cs0[j]? := fun j => World.var?_cell hg0 hv0 j
  have h0 := hel 0 (by omega)
  have h1 := hel 1 (by omega)
  have h2 := hel 2 (by omega)
  have h3 := hel 3 (by omega)
  rw [c1] at h0 h1 h2 h3
  obtain ⟨l⟩ := cs0
  simp only at hlen h0 h1 h2 h3
  unfold Rows.laid_campanile_journal_free at hx1
  simp only [Prod.mk.injEq, DataW.agg.injEq] at hx1
  match l, hlen, xs, hn3, hx1, h0, h1, h2, h3 with
  | [a0, a1, a2, a3], _, [x0, x1, x2, x3], _, hx1, h0, h1, h2, h3 =>
    simp only [List.map_cons, List.map_nil, List.cons.injEq] at hx1
    obtain ⟨k0, e0, f0, _⟩ := DataW.trod_int Tryd.underlying5 (show DataW.trod _ Tryd.prog W 0 _ false m1 5 [a0] = some x0 from h0)
    obtain ⟨k1, e1, f1, _⟩ := DataW.trod_int Tryd.underlying5 (show DataW.trod _ Tryd.prog W 0 _ false m1 5 [a1] = some x1 from h1)
    obtain ⟨k2, e2, f2, _⟩ := DataW.trod_int Tryd.underlying5 (show DataW.trod _ Tryd.prog W 0 _ false m1 5 [a2] = some x2 from h2)
    obtain ⟨k3, e3, f3, _⟩ := DataW.trod_int Tryd.underlying5 (show DataW.trod _ Tryd.prog W 0 _ false m1 5 [a3] = some x3 from h3)
    rw [f0, f1, f2, f3] at hx1
    simp at hx1 e0 e1 e2 e3
    obtain ⟨⟨rfl, rfl, rfl, rfl⟩, _⟩ := hx1
    subst e0 e1 e2 e3
    intro j v hv
    rw [Nat.zero_add, hc, List.getElem?_toArray]
    exact hv
end Go.Proofs.YtdfgcenbkclpbaaDoor
