/- The examples' journal works. -/
import Derived.Test.YtdfgcenbkclpbaaDoorTheory
namespace Go.Proofs.YtdfgcenbkclpbaaDoor
open Go.RowKit
set_option linter.unusedSimpArgs false
set_option linter.unusedVariables false
theorem glob_pos {w : World} (h : w.rangeAt 0 0 W4.free.cells) : 0 < w.heap.size := by
  have := h 0 (u8v 255) rfl
  apply Decidable.byContradiction
  intro hn
  have hz : w.heap[0]? = none := Array.getElem?_eq_none (by omega)
  simp [World.cell?, hz] at this
/-- Open where nothing is whole and the power stays -/
theorem open_blank (w : World) (f s : Nat) (F : Fl) (A count : Nat) (hb : (F.pickHalf A (count / 2)).2.2.2 = false) (ha : F.armed = false) (hF : FlashAt w f s F) (ho : F.off = false) (hg : w.rangeAt 0 0 W4.free.cells) (hz : f ≠ 0 ∧ s ≠ 0) (h2 : 2 ≤ count) (hc : A + count ≤ F.count) :
    Calls Tryd.prog 11 #[ptr f, .int .i64 A, .int .i64 count] w fun e w' => ∃ j K G, e = .returned (.tuple #[ptr j, .int .i64 0]) ∧ Opened w f s A (count / 2) j K G w' ∧ K.slots.map Slot.p = blanks ∧ Out F G A (2 * (count / 2)) ∧ Touch [f, s] w w' := by
  refine (open_any w f s F A count hF ho hg hz h2 hc).mono ?_
  rintro e w' (⟨j, K, rfl, hO, hk, _⟩ | ⟨j, K, G, rfl, hO, _, hp, hu, ht⟩ | ⟨G, rfl, _, _, h, _⟩)
  · rw [hk] at hb; cases hb
  · exact ⟨j, K, G, rfl, hO, hp, hu, ht⟩
  · rw [ha] at h; cases h
theorem pick_blank {F : Fl} {A h : Nat} (hf : ∀ k, 256 * A ≤ k → k < 256 * (A + 2 * h) → F.word k = W4.free) (hp : 0 < h) : (F.pickHalf A h).2.2.2 = false :=
  pick_none' (by rw [hf (256 * A) (by omega) (by omega)]; exact genOk_free_left _) (by rw [hf (256 * (A + h)) (by omega) (by omega)]; exact genOk_free_left _)
theorem word_free {n k : Nat} (h : k < 256 * n) (a o : Bool) (l st : Int) : (⟨List.replicate (256 * n) W4.free, n, a, l, o, st⟩ : Fl).word k = W4.free := by
  apply Fl.word_of; simp only; rw [List.getElem?_replicate, if_pos h]
theorem slot_of_p {l : List Slot} {P : List PSlot} (h : l.map Slot.p = P) {i : Nat} {y : PSlot} (hy : P[i]? = some y) : ∃ x, l[i]? = some x ∧ x.p = y := by
  rw [← h, List.getElem?_map] at hy
  cases hx : l[i]? with
  | none => rw [hx] at hy; cases hy
  | some x => rw [hx] at hy; exact ⟨x, rfl, by simpa using hy⟩
/-- the groups that are there, by their plain slots -/
def thereP : List PSlot → Nat → List UInt8
  | [], _ => []
  | x :: r, k => if x.there then UInt8.ofNat k :: thereP r (k + 1) else thereP r (k + 1)
theorem there_p : ∀ (l : List Slot) (k : Nat), thereFrom l k = thereP (l.map Slot.p) k
  | [], _ => rfl
  | x :: r, k => by
    rw [List.map_cons, thereFrom, thereP, there_p r (k + 1)]; rfl
theorem works_slots : refStore blanks 1 1 [1, 2, 3] = (0, blanks.set 1 ⟨true, false, [1, 2, 3]⟩) := by decide
theorem works_there : thereP (blanks.set 1 ⟨true, false, [1, 2, 3]⟩) 0 = [1] := by decide
set_option maxRecDepth 100000 in
set_option maxHeartbeats 1600000 in
theorem works_any (w : World) (hg : w.rangeAt 0 0 W4.free.cells) : Calls Tryd.prog 8 #[] w fun e w' => e = .returned (.bool true) ∧ Touch [] w w' := by
  have h0 := glob_pos hg
  go_enter Tryd.func8, Tryd.ntmps8
  go_wp2_with fail
  refine (flash_new _ 4 (by omega) (by omega)).mono ?_
  rintro e w1 ⟨f, s, rfl, hf, hs, hF, t1⟩
  have g1 := glob_to hg t1 (by simp)
  have s1 := t1.size
  go_wp2_with fail
  refine (open_blank _ f s _ 0 2 (pick_blank (fun k h1 h2 => word_free (by omega) _ _ _ _) (by omega)) rfl hF rfl g1 (by omega) (by omega) (by show 0 + 2 ≤ 4; omega)).mono ?_
  rintro e w2 ⟨j, K, G, rfl, hO, hP, hu, t2⟩
  have T2 := t1.to t2
  have g2 := glob_to g1 t2 (by simp; omega)
  have hj := hO.fresh
  have hJ := hO.jn
  have hG := hO.flash
  have hk := hO.keeps
  have hcut := hO.cut
  have hoff := hO.off
  have ga : G.armed = false := hu.armed
  clear hO hF hu
  go_wp2_with fail
  have tA := Touch.one w2 (.cells #[Value.int IntKind.u8 1, Value.int IntKind.u8 2, Value.int IntKind.u8 3] 5)
  have hA := (OwnAt.new w2 #[Value.int IntKind.u8 1, Value.int IntKind.u8 2, Value.int IntKind.u8 3] 5).slice
  refine (store_does _ j f s K G 0 (2 / 2) 1 [1, 2, 3] _ 3 (hJ.to tA) (hG.to tA) (by omega) hcut hoff (by simp) hA (by simp) hk).mono ?_
  have T3 := T2.to tA
  have g3 := glob_to g2 tA (by simp)
  rintro e w3 ⟨code, G', K', rfl, hG', hJ', t3, _, hd⟩
  have T4 := T3.to t3
  have g4 := glob_to g3 t3 (by simp; omega)
  rw [hP, works_slots] at hd
  rcases hd with ⟨rfl, hd⟩ | ⟨rfl, _, hd⟩
  · obtain ⟨x, hx, hxp⟩ := slot_of_p hd.slots (i := 1) (y := ⟨true, false, [1, 2, 3]⟩) (by decide)
    have hxt : x.there = true := congrArg PSlot.there hxp
    have hxb : x.b = [1, 2, 3] := congrArg PSlot.b hxp
    have hth : thereFrom K'.slots 0 = [1] := by rw [there_p, hd.slots, works_there]
    clear hd hxp
    go_wp2_with fail
    refine (load_some _ j f s K' 1 x hJ' hx (by omega) hxt).mono ?_
    rintro e w4 ⟨v, rfl, hv, t4⟩
    rw [hxb] at hv
    have T5 := T4.to t4
    obtain ⟨A, cap, rfl, hsl, hcap, hn, hbl⟩ := ownsRow_slice' hv
    have e1 : (convert 22 9 (.slice A 3 cap)).run Tryd.prog w4 = .ok (.string ⟨#[1, 2, 3]⟩) w4 := run_str (dst := 9) Tryd.underlying22 Tryd.underlying5 Tryd.underlying9 hsl cap
    go_wp2_with fail
    refine (groups_any _ j f s K' (hJ'.to t4)).mono ?_
    rintro e w5 ⟨v, rfl, hv5, t5⟩
    rw [hth] at hv5
    obtain ⟨A5, cap5, rfl, _, _⟩ := ownsRow_slice' hv5
    go_wp2_with fail
    go_ret
    exact ⟨rfl, T5.to t5⟩
  · have ha := hd.armed
    rw [ga] at ha; cases ha
end Go.Proofs.YtdfgcenbkclpbaaDoor
