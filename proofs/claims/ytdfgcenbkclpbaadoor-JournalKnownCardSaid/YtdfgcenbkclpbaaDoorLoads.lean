/- Load, by the plain slots. -/
import Derived.Test.YtdfgcenbkclpbaaDoorWorks
namespace Go.Proofs.YtdfgcenbkclpbaaDoor
open Go.RowKit
set_option linter.unusedSimpArgs false
set_option linter.unusedVariables false
/-- what a group's Load tells -/
def loadP (P : List PSlot) (i : Nat) : Bool × List UInt8 :=
  match P[i]? with
  | some x => if x.there then (true, x.b) else (false, [])
  | none => (false, [])
theorem loadP_there {P : List PSlot} {i : Nat} {y : PSlot} (h : P[i]? = some y) (ht : y.there = true) : loadP P i = (true, y.b) := by unfold loadP; rw [h]; simp [ht]
theorem load_p (w : World) (j f s : Nat) (J : Jn) (i : Nat) (P : List PSlot) (h : JnAt w j f s J) (hP : J.slots.map Slot.p = P) (hi : i < 256) :
    Calls Tryd.prog 14 #[ptr j, .int .u8 i] w fun e w' => ∃ A cap, e = .returned (.tuple #[.slice A (loadP P i).2.length cap, .bool (loadP P i).1]) ∧ w'.ownsRow w.heap.size 5 1 (.slice A (loadP P i).2.length cap) (loadP P i).2.length ((loadP P i).2.map u8v) ∧ Touch [] w w' := by
  subst hP
  by_cases hx : ∃ x, J.slots[i]? = some x ∧ x.there = true
  · obtain ⟨x, hx, ht⟩ := hx
    have hi16 : i < 16 := by have := (List.getElem?_eq_some_iff.1 hx).1; rw [h.sixteen] at this; exact this
    have e0 : loadP (J.slots.map Slot.p) i = (true, x.b) := loadP_there (y := x.p) (by rw [List.getElem?_map, hx]; rfl) ht
    refine (load_some w j f s J i x h hx hi16 ht).mono ?_
    rintro e w' ⟨v, rfl, hv, hT⟩
    obtain ⟨A, cap, rfl, _⟩ := ownsRow_slice' hv
    exact ⟨A, cap, by rw [e0], by rw [e0]; exact hv, hT⟩
  · have hx' : ∀ x, J.slots[i]? = some x → x.there = false := fun x h1 => by
      cases e : x.there with
      | false => rfl
      | true => exact absurd ⟨x, h1, e⟩ hx
    have e0 : loadP (J.slots.map Slot.p) i = (false, []) := by
      unfold loadP
      rw [List.getElem?_map]
      cases e : J.slots[i]? with
      | none => rfl
      | some x => simp [Slot.p, hx' x e]
    refine (load_none w j f s J i h hi hx').mono ?_
    rintro e w' ⟨rfl, rfl⟩
    refine ⟨none, 0, by rw [e0]; rfl, ?_, Touch.refl _ _⟩
    rw [e0]
    exact ⟨rfl, Or.inl ⟨rfl, rfl⟩⟩
theorem thereP_mem {c : UInt8} : ∀ {P : List PSlot} {k n : Nat}, (thereP P k)[n]? = some c → ∃ i y, c = UInt8.ofNat (k + i) ∧ P[i]? = some y ∧ y.there = true
  | [], _, _, h => by simp [thereP] at h
  | x :: r, k, n, h => by
    unfold thereP at h
    cases hx : x.there with
    | true =>
      rw [hx, if_pos rfl] at h
      cases n with
      | zero =>
        simp at h
        exact ⟨0, x, by rw [Nat.add_zero]; exact h.symm, rfl, hx⟩
      | succ n =>
        rw [List.getElem?_cons_succ] at h
        obtain ⟨i, y, h1, h2, h3⟩ := thereP_mem h
        exact ⟨i + 1, y, by rw [h1]; congr 1; omega, h2, h3⟩
    | false =>
      rw [hx, if_neg (by simp)] at h
      obtain ⟨i, y, h1, h2, h3⟩ := thereP_mem h
      exact ⟨i + 1, y, by rw [h1]; congr 1; omega, h2, h3⟩
end Go.Proofs.YtdfgcenbkclpbaaDoor
