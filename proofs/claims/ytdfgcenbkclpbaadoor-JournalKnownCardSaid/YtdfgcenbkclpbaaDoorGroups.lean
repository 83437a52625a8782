/- Groups. -/
import Derived.Test.YtdfgcenbkclpbaaDoorStore
namespace Go.Proofs.YtdfgcenbkclpbaaDoor
open Go.RowKit
set_option linter.unusedSimpArgs false
set_option linter.unusedVariables false
/-- the groups that are there, from slot k on -/
def thereFrom : List Slot → Nat → List UInt8
  | [], _ => []
  | x :: r, k => if x.there then UInt8.ofNat k :: thereFrom r (k + 1) else thereFrom r (k + 1)
theorem thereFrom_length : ∀ (l : List Slot) (k : Nat), (thereFrom l k).length ≤ l.length
  | [], _ => by simp [thereFrom]
  | x :: r, k => by
    unfold thereFrom
    have := thereFrom_length r (k + 1)
    split <;> simp <;> omega
set_option maxRecDepth 100000 in
set_option maxHeartbeats 800000 in
theorem groups_any (w : World) (j f s : Nat) (J : Jn) (h : JnAt w j f s J) :
    Calls Tryd.prog 12 #[ptr j] w fun e w' => ∃ v, e = .returned v ∧ w'.ownsRow w.heap.size 5 1 v (thereFrom J.slots 0).length ((thereFrom J.slots 0).map u8v) ∧ Touch [] w w' := by
  have hg := h.cells8
  have hjl := h.lt
  go_enter Tryd.func12, Tryd.ntmps12
  go_wp2_with (refine wp_load_groups ?_ h.sixteen rfl rfl rfl ?_; (with_reducible exact hg))
  go_loopw [3, 12] (fun v3 v wr => ∃ (k : Nat) (xs : List UInt8), k ≤ 16 ∧ v = .int .i64 k ∧ xs.length ≤ k ∧ thereFrom J.slots 0 = xs ++ thereFrom (J.slots.drop k) k ∧ wr.ownsRow w.heap.size 5 1 v3 xs.length (xs.map u8v) ∧ Touch [] w wr) (fun _ v _ => 16 - (intOf v).toNat)
  case atStart => exact ⟨0, [], by omega, rfl, by simp, by simp, World.ownsRow_nil _ _ _ _, Touch.refl _ _⟩
  case round =>
    obtain ⟨k, xs, hk, rfl, hxl, hxe, hX, hT⟩ := hrel
    have HX := Lib.hid hxe
    clear hxe
    by_cases hlt : k < 16
    · have hkl : k < J.slots.length := by rw [h.sixteen]; exact hlt
      obtain ⟨x, hx⟩ : ∃ x, J.slots[k]? = some x := ⟨_, List.getElem?_eq_getElem hkl⟩
      have hix := fun W => index_group h.sixteen hx W
      have hdrop : J.slots.drop k = x :: J.slots.drop (k + 1) := by rw [List.drop_eq_getElem_cons hkl, (List.getElem?_eq_some_iff.1 hx).2]
      have he := HX.out
      rw [hdrop, thereFrom] at he
      have hTX := hT.alloc (.cells #[.bool x.there, .bool x.marked, .slice x.a x.b.length x.cap] 78)
      have hXX := ownsRow_touch hX (Touch.one wr (.cells #[.bool x.there, .bool x.marked, .slice x.a x.b.length x.cap] 78)) (by simp)
      have hz := hT.size
      obtain ⟨xt, xm, b, a, c⟩ := x
      cases xt with
      | false =>
        simp only [Bool.false_eq_true, if_false] at he
        have HE := Lib.hid he
        clear he HX hX hx hdrop
        go_wp2_with fail
        go_roundw
        case rel => exact ⟨k + 1, xs, by omega, by go_num, by omega, HE.out, hXX, hTX⟩
        case measure => simp [intOf]; omega
      | true =>
        simp only [if_true] at he
        have HE := Lib.hid he
        clear he HX hX hx hdrop
        have hb : Value.int .u8 (k : Int) = u8v (UInt8.ofNat k) := by
          show _ = Value.int .u8 ((UInt8.ofNat k).toNat : Int)
          rw [UInt8.toNat_ofNat', Nat.mod_eq_of_lt (by omega)]
        have tB := Touch.one (wr.alloc (.cells #[.bool true, .bool xm, .slice a b.length c] 78)) (.cells #[.int .u8 (k : Int)] 5)
        have hXB := ownsRow_touch hXX tB (by simp)
        have hTB := hTX.trans tB
        have hB : SliceAt ((wr.alloc (.cells #[.bool true, .bool xm, .slice a b.length c] 78)).alloc (.cells #[.int .u8 (k : Int)] 5)) (some ⟨wr.heap.size + 1, 0, none⟩) (([UInt8.ofNat k]).map u8v) := by
          show SliceAt _ _ [u8v (UInt8.ofNat k)]
          rw [← hb]
          exact (OwnAt.new' (wr.alloc (.cells #[.bool true, .bool xm, .slice a b.length c] 78)) #[.int .u8 (k : Int)] 5 (g := wr.heap.size + 1) (by simp)).slice
        clear hb
        have hzB := hTB.size
        go_wp2_with (at_builtin; refine wp_append_u8 w.heap.size u3 xs.length xs (some ⟨wr.heap.size + 1, 0, none⟩) 1 1 [UInt8.ofNat k] rfl rfl rfl rfl ?_ ?_ rfl (by simp) (by omega) ?_ ?_; exact hXB; exact hB; exact hzB)
        intro v' w' h1 h2 h3
        have hT3 := hTB.grown h2 (fun g hg => by
          obtain ⟨_, h4 | ⟨g', cap, cur, rfl, hb', _⟩⟩ := hXB
          · rw [h4.1] at hg; cases hg
          · cases hg; exact Or.inr hb')
        have h1 : w'.ownsRow w.heap.size 5 1 v' (xs ++ [UInt8.ofNat k]).length ((xs ++ [UInt8.ofNat k]).map u8v) := by rw [List.length_append]; simpa using h1
        have HE2 : Hid (thereFrom J.slots 0 = (xs ++ [UInt8.ofNat k]) ++ thereFrom (J.slots.drop (k + 1)) (k + 1)) := Lib.hid (by rw [HE.out]; simp)
        clear h2 h3
        go_wp2_with fail
        go_roundw
        case rel => exact ⟨k + 1, xs ++ [UInt8.ofNat k], by omega, by go_num, by simp; omega, HE2.out, h1, hT3⟩
        case measure => simp [intOf]; omega
    · have : k = 16 := by omega
      subst this
      have he := HX.out
      rw [List.drop_of_length_le (by rw [h.sixteen]; omega), thereFrom, List.append_nil] at he
      have HE := Lib.hid he
      clear he HX
      go_wp2_with fail
      go_ret
      rw [HE.out]
      exact ⟨_, rfl, hX, hT⟩
end Go.Proofs.YtdfgcenbkclpbaaDoor
