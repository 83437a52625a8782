/- set, walked. -/
import Derived.Test.YtdfgcenbkclpbaaDoorSet
namespace Go.Proofs.YtdfgcenbkclpbaaDoor
open Go.RowKit
set_option linter.unusedSimpArgs false
set_option linter.unusedVariables false
theorem JnAt.cutCell {w : World} {j f s : Nat} {J : Jn} (h : JnAt w j f s J) : w.cell? ⟨j, 56, none⟩ = some (.bool J.cut) ∧ w.frozen? ⟨j, 56, none⟩ = false := by
  have hl := Jn.cells_length f J
  have h1 := h.own.cells 56 (.bool J.cut) (by
    unfold Jn.cells
    rw [List.getElem?_append_right (by rw [List.length_append, slotCells_length, h.sixteen]; simp), List.length_append, slotCells_length, h.sixteen]
    rfl)
  have h2 := h.own.free 56 (by rw [hl, h.sixteen]; omega)
  rw [Nat.zero_add] at h1 h2
  exact ⟨h1, h2⟩
theorem JnAt.setCut {w : World} {j f s : Nat} {J : Jn} (h : JnAt w j f s J) : JnAt (w.setCell ⟨j, 56, none⟩ (.bool true)) j f s { J with cut := true } := by
  have hl := Jn.cells_length f J
  have o := h.own.set0 56 (.bool true) (by rw [hl, h.sixteen]; omega)
  refine ⟨?_, h.sixteen, h.apart, h.few, h.gen, fun x hx => ⟨?_, (h.slots x hx).2⟩⟩
  · have e : (J.cells f).set 56 (.bool true) = ({ J with cut := true } : Jn).cells f := by
      unfold Jn.cells
      rw [List.set_append_right _ _ (by rw [List.length_append, slotCells_length, h.sixteen]; simp), List.length_append, slotCells_length, h.sixteen]
      rfl
    rw [e] at o; exact o
  · exact (h.slots x hx).1.touch (S := [j]) ((Touch.refl [j] w).setCell (by simp) _) (fun y hy => by simpa using ((h.slots x hx).2.2.2 y hy).1)
set_option maxRecDepth 100000 in
set_option maxHeartbeats 1600000 in
theorem set_cut (w : World) (j f s : Nat) (J : Jn) (F : Fl) (i : Nat) (x : Slot) (h : JnAt w j f s J) (hF : FlashAt w f s F) (hi : i < 16) (hc : J.cut = true) :
    Calls Tryd.prog 41 #[ptr j, .int .u8 i, x.val] w fun e w' => e = .returned (.int .i64 7) ∧ JnAt w' j f s { J with cut := true } ∧ Touch [j] w w' := by
  have h1 := h.cutCell.1
  have h2 := h.cutCell.2
  rw [hc] at h1
  have hJ := h.touch ((Touch.refl [] w).alloc (.cells #[.bool x.there, .bool x.marked, .slice x.a x.b.length x.cap] 78)) (by simp) (by simp)
  have hN := hJ.setCut
  have hT := ((Touch.refl [j] w).alloc (.cells #[.bool x.there, .bool x.marked, .slice x.a x.b.length x.cap] 78)).setCell (p := ⟨j, 56, none⟩) (by simp) (.bool true)
  go_enter Tryd.func41, Tryd.ntmps41
  have c1 := hJ.cutCell.1
  have c2 := hJ.cutCell.2
  rw [hc] at c1
  go_wp2_with fail
  go_ret
  exact ⟨rfl, hN, hT⟩
set_option maxRecDepth 100000 in
set_option maxHeartbeats 1600000 in
theorem set_full (w : World) (j f s : Nat) (J : Jn) (F : Fl) (i : Nat) (x : Slot) (h : JnAt w j f s J) (hF : FlashAt w f s F) (hi : i < 16) (hc : J.cut = false) (ho : F.off = false) (hb : x.b.length ≤ 4096) (hl : x.live = true) (hf : J.fits i x.b.length = false) :
    Calls Tryd.prog 41 #[ptr j, .int .u8 i, x.val] w fun e w' => e = .returned (.int .i64 60) ∧ Touch [] w w' := by
  have hT1 := (Touch.refl [] w).alloc (.cells #[.bool x.there, .bool x.marked, .slice x.a x.b.length x.cap] 78)
  have hJ := h.touch hT1 (by simp) (by simp)
  have hFA := hF.alloc (.cells #[.bool x.there, .bool x.marked, .slice x.a x.b.length x.cap] 78)
  have hl' := hl
  unfold Slot.live at hl'
  simp only [Bool.and_eq_true, Bool.not_eq_true'] at hl'
  obtain ⟨hth, hmk⟩ := hl'
  obtain ⟨t, m, b, a, c⟩ := x
  simp only at hth hmk
  subst hth; subst hmk
  have c1 := hJ.cutCell.1
  rw [hc] at c1
  have c0 := hJ.own.get 0 (by rw [Jn.cells_length]; omega)
  have c0' : (w.alloc (.cells #[.bool true, .bool false, .slice a b.length c] 78)).cell? ⟨j, 0, none⟩ = some (ptr f) := c0
  clear hl c0
  go_enter Tryd.func41, Tryd.ntmps41
  go_wp2_with fail
  refine (flash_off _ f s F hFA).mono ?_
  rintro e w1 ⟨rfl, rfl⟩
  rw [ho]
  go_wp2_with fail
  refine (fits_any _ j f s J i b.length hJ hi hb).mono ?_
  rintro e w2 ⟨rfl, hT2⟩
  rw [hf]
  go_wp2_with fail
  go_ret
  exact ⟨rfl, hT1.trans hT2⟩
end Go.Proofs.YtdfgcenbkclpbaaDoor
