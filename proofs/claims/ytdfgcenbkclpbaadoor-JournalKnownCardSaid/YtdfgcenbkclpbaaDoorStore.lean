/- Store, Restore, Load. -/
import Derived.Test.YtdfgcenbkclpbaaDoorSetL
namespace Go.Proofs.YtdfgcenbkclpbaaDoor
open Go.RowKit
set_option linter.unusedSimpArgs false
set_option linter.unusedVariables false
theorem ownsRow_slice' {w : World} {base : Nat} {e : TypeId} {v : Value} {n : Nat} {xs : List Value} (h : w.ownsRow base e 1 v n xs) : ∃ A cap, v = .slice A n cap ∧ SliceAt w A xs ∧ n ≤ cap ∧ (A = none → n = 0 ∧ cap = 0) ∧ ∀ x, A = some x → base ≤ x.block := by
  by_cases hp : v = .slice none 0 0
  · subst hp
    obtain ⟨h1, h2 | ⟨g, cap, cur, e, _⟩⟩ := h
    · obtain ⟨_, rfl⟩ := h2
      have : xs = [] := List.length_eq_zero_iff.1 (by simpa using h1)
      subst this
      exact ⟨none, 0, rfl, .nil _ _, by omega, fun _ => ⟨rfl, rfl⟩, by simp⟩
    · cases e
  · obtain ⟨g, cap, rfl, hb, _, hc, ho⟩ := ownsRow_own h hp
    exact ⟨_, cap, rfl, ho.slice, hc, by simp, by rintro x ⟨⟩; exact hb⟩
/-- what Store comes to -/
def Jn.store (J : Jn) (F : Fl) (i : Nat) (b : List UInt8) (a : Option Addr) (c : Nat) : Int × Fl × Jn :=
  if 16 ≤ i then (62, F, J) else if 4096 < b.length then (3, F, J) else J.set F i ⟨true, false, b, a, c⟩
def StoreDone (w : World) (j f s : Nat) (J : Jn) (F : Fl) (i : Nat) (b : List UInt8) (e : Ending) (w' : World) : Prop :=
  ∃ a c, (∀ y, a = some y → w.heap.size ≤ y.block) ∧ e = .returned (.int .i64 (J.store F i b a c).1) ∧ FlashAt w' f s (J.store F i b a c).2.1 ∧ JnAt w' j f s (J.store F i b a c).2.2 ∧ Touch [f, s, j] w w'
set_option maxRecDepth 100000 in
theorem store_any (w : World) (j f s : Nat) (J : Jn) (F : Fl) (i : Nat) (b : List UInt8) (A : Option Addr) (c : Nat) (h : JnAt w j f s J) (hF : FlashAt w f s F) (hi : i < 256) (ho : J.cut = false → F.off = false)
    (hb : b.length ≤ 140737488355328) (hA : SliceAt w A (b.map u8v)) (hnil : A = none → b.length = 0 ∧ c = 0) (hk : J.Ok F) :
    Calls Tryd.prog 13 #[ptr j, .int .u8 i, .slice A b.length c] w (StoreDone w j f s J F i b) := by
  have hjl := h.lt
  have hfl := hF.flt
  have hsl := hF.slt
  by_cases h1 : 16 ≤ i
  · have h1' : (16 : Int) ≤ i := by omega
    have e1 : ∀ a c, J.store F i b a c = (62, F, J) := fun a c => if_pos h1
    go_enter Tryd.func13, Tryd.ntmps13
    clear e1
    go_wp2_with fail
    go_ret
    have e1 : J.store F i b none 0 = (62, F, J) := if_pos h1
    exact ⟨none, 0, by simp, by rw [e1]; rfl, by rw [e1]; exact hF, by rw [e1]; exact h, Touch.refl _ _⟩
  · have h1' : (i : Int) < 16 := by omega
    by_cases h2 : 4096 < b.length
    · have h2' : (4096 : Int) < b.length := by omega
      go_enter Tryd.func13, Tryd.ntmps13
      go_wp2_with fail
      go_ret
      have e1 : J.store F i b none 0 = (3, F, J) := by unfold Jn.store; rw [if_neg h1, if_pos h2]
      exact ⟨none, 0, by simp, by rw [e1]; rfl, by rw [e1]; exact hF, by rw [e1]; exact h, Touch.refl _ _⟩
    · have h2' : (b.length : Int) ≤ 4096 := by omega
      go_enter Tryd.func13, Tryd.ntmps13
      go_wp2_with fail
      refine (clone_any _ A c b hb hA hnil).mono ?_
      rintro e w1 ⟨v, rfl, hv, t1⟩
      obtain ⟨a, cap, rfl, hs, hcap, hn, hbl⟩ := ownsRow_slice' hv
      replace h := h.to t1
      replace hF := hF.to t1
      go_wp2_with fail
      refine (set_any _ j f s J F i false b a cap h hF (by omega) ho ⟨hs, by omega, hn, fun y hy => by have := hbl y hy; omega⟩ hk).mono ?_
      rintro e w2 ⟨rfl, hF2, hJ2, t2⟩
      go_wp2_with fail
      go_ret
      have e1 : J.store F i b a cap = J.set F i ⟨true, false, b, a, cap⟩ := by unfold Jn.store; rw [if_neg h1, if_neg h2]
      exact ⟨a, cap, hbl, by rw [e1]; rfl, by rw [e1]; exact hF2, by rw [e1]; exact hJ2, (t1.mono (by simp)).trans t2⟩
/-- what Restore comes to -/
def Jn.restore (J : Jn) (F : Fl) (i : Nat) : Int × Fl × Jn :=
  if 16 ≤ i then (62, F, J) else if J.cut = true then (7, F, { J with cut := true }) else
  match J.slots[i]? with
  | none => (0, F, J)
  | some x => if x.there = false then (5, F, J) else if x.marked = true then (0, F, J) else J.set F i { x with marked := true }
theorem JnAt.slotCell {w : World} {j f s : Nat} {J : Jn} (h : JnAt w j f s J) {i : Nat} {x : Slot} (hx : J.slots[i]? = some x) : w.cell? ⟨j, 8 + i * 3, none⟩ = some (.bool x.there) ∧ w.cell? ⟨j, 8 + i * 3 + 1, none⟩ = some (.bool x.marked) ∧ w.cell? ⟨j, 8 + i * 3 + 2, none⟩ = some (.slice x.a x.b.length x.cap) := by
  have hr := h.slotRange hx
  rw [Nat.mul_comm] at hr
  exact ⟨hr 0 _ rfl, hr 1 _ rfl, hr 2 _ rfl⟩
set_option maxRecDepth 100000 in
set_option maxHeartbeats 800000 in
theorem restore_any (w : World) (j f s : Nat) (J : Jn) (F : Fl) (i : Nat) (h : JnAt w j f s J) (hF : FlashAt w f s F) (hi : i < 256) (ho : J.cut = false → F.off = false) (hk : J.Ok F) :
    Calls Tryd.prog 22 #[ptr j, .int .u8 i] w fun e w' => e = .returned (.int .i64 (J.restore F i).1) ∧ FlashAt w' f s (J.restore F i).2.1 ∧ JnAt w' j f s (J.restore F i).2.2 ∧ Touch [f, s, j] w w' := by
  have hjl := h.lt
  have hfl := hF.flt
  have hsl := hF.slt
  have hjf : j ≠ f := h.apart.1
  have hjs : j ≠ s := h.apart.2
  by_cases h1 : 16 ≤ i
  · have h1' : (16 : Int) ≤ i := by omega
    have e1 : J.restore F i = (62, F, J) := if_pos h1
    rw [e1]
    clear e1
    go_enter Tryd.func22, Tryd.ntmps22
    go_wp2_with fail
    go_ret
    exact ⟨rfl, hF, h, Touch.refl _ _⟩
  · have h1' : (i : Int) < 16 := by omega
    cases hc : J.cut with
    | true =>
      have e1 : J.restore F i = (7, F, { J with cut := true }) := by unfold Jn.restore; rw [if_neg h1, if_pos hc]
      rw [e1]
      have hN := h.setCut
      have hT := Touch.cell1 w j 56 (.bool true)
      have c1 := h.cutCell.1
      have c2 := h.cutCell.2
      rw [hc] at c1
      clear e1
      go_enter Tryd.func22, Tryd.ntmps22
      go_wp2_with fail
      go_ret
      exact ⟨rfl, hF.to hT, hN, hT.mono (by simp)⟩
    | false =>
      have hoff := ho hc
      have c1 := h.cutCell.1
      rw [hc] at c1
      have c0 := h.c0
      obtain ⟨x, hx⟩ : ∃ x, J.slots[i]? = some x := ⟨_, List.getElem?_eq_getElem (by rw [h.sixteen]; omega)⟩
      obtain ⟨k0, k1, k2⟩ := h.slotCell hx
      have hxs := h.slots x (List.mem_of_getElem? hx)
      obtain ⟨xt, xm, b, a, c⟩ := x
      simp only at k0 k1 k2 hxs
      cases xt with
      | false =>
        have e1 : J.restore F i = (5, F, J) := by unfold Jn.restore; rw [if_neg h1, if_neg (by simp [hc]), hx]; rfl
        rw [e1]
        clear e1
        go_enter Tryd.func22, Tryd.ntmps22
        go_wp2_with fail
        refine (flash_off _ f s F hF).mono ?_
        rintro e w1 ⟨rfl, rfl⟩
        rw [hoff]
        go_wp2_with fail
        go_ret
        exact ⟨rfl, hF, h, Touch.refl _ _⟩
      | true =>
        cases xm with
        | true =>
          have e1 : J.restore F i = (0, F, J) := by unfold Jn.restore; rw [if_neg h1, if_neg (by simp [hc]), hx]; rfl
          rw [e1]
          clear e1
          go_enter Tryd.func22, Tryd.ntmps22
          go_wp2_with fail
          refine (flash_off _ f s F hF).mono ?_
          rintro e w1 ⟨rfl, rfl⟩
          rw [hoff]
          go_wp2_with fail
          go_ret
          exact ⟨rfl, hF, h, Touch.refl _ _⟩
        | false =>
          have e1 : J.restore F i = J.set F i ⟨true, true, b, a, c⟩ := by unfold Jn.restore; rw [if_neg h1, if_neg (by simp [hc]), hx]; rfl
          rw [e1]
          clear e1
          have hor := h.slotRange hx
          rw [Nat.mul_comm] at hor
          go_enter Tryd.func22, Tryd.ntmps22
          go_wp2_with fail
          refine (flash_off _ f s F hF).mono ?_
          rintro e w1 ⟨rfl, rfl⟩
          rw [hoff]
          go_wp2_with (refine wp_load_group (y := ⟨true, false, b, a, c⟩) ?_ rfl rfl rfl ?_; (with_reducible exact hor))
          have t1 := Touch.one w1 (.cells #[.bool true, .bool true, .slice a b.length c] 78)
          refine (set_any _ j f s J F i true b a c (h.to t1) (hF.to t1) (by omega) ho ⟨hxs.1.to t1, hxs.2⟩ hk).mono ?_
          rintro e w2 ⟨rfl, hF2, hJ2, t2⟩
          go_wp2_with fail
          go_ret
          exact ⟨rfl, hF2, hJ2, (t1.mono (by simp)).trans t2⟩
set_option maxRecDepth 100000 in
theorem load_some (w : World) (j f s : Nat) (J : Jn) (i : Nat) (x : Slot) (h : JnAt w j f s J) (hx : J.slots[i]? = some x) (hi : i < 16) (ht : x.there = true) :
    Calls Tryd.prog 14 #[ptr j, .int .u8 i] w fun e w' => ∃ v, e = .returned (.tuple #[v, .bool true]) ∧ w'.ownsRow w.heap.size 5 1 v x.b.length (x.b.map u8v) ∧ Touch [] w w' := by
  have h1' : (i : Int) < 16 := by omega
  obtain ⟨k0, k1, k2⟩ := h.slotCell hx
  have hxs := h.slots x (List.mem_of_getElem? hx)
  rw [ht] at k0
  go_enter Tryd.func14, Tryd.ntmps14
  go_wp2_with fail
  refine (clone_any _ x.a x.cap x.b (by omega) hxs.1 hxs.2.2.1).mono ?_
  rintro e w1 ⟨v, rfl, hv, t1⟩
  go_wp2_with fail
  go_ret2
  exact ⟨v, rfl, hv, t1⟩
set_option maxRecDepth 100000 in
theorem load_none (w : World) (j f s : Nat) (J : Jn) (i : Nat) (h : JnAt w j f s J) (hi : i < 256) (hx : ∀ x, J.slots[i]? = some x → x.there = false) :
    Calls Tryd.prog 14 #[ptr j, .int .u8 i] w fun e w' => e = .returned (.tuple #[.slice none 0 0, .bool false]) ∧ w' = w := by
  by_cases h1 : 16 ≤ i
  · have h1' : (16 : Int) ≤ i := by omega
    clear hx
    go_enter Tryd.func14, Tryd.ntmps14
    go_wp2_with fail
    go_ret2
    exact ⟨rfl, rfl⟩
  · have h1' : (i : Int) < 16 := by omega
    obtain ⟨x, hx1⟩ : ∃ x, J.slots[i]? = some x := ⟨_, List.getElem?_eq_getElem (by rw [h.sixteen]; omega)⟩
    obtain ⟨k0, k1, k2⟩ := h.slotCell hx1
    rw [hx x hx1] at k0
    clear hx
    go_enter Tryd.func14, Tryd.ntmps14
    go_wp2_with fail
    go_ret2
    exact ⟨rfl, rfl⟩
end Go.Proofs.YtdfgcenbkclpbaaDoor
