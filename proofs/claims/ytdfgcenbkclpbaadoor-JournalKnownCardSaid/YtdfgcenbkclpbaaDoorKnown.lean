/- The law JournalKnown, walked. -/
import Derived.Test.YtdfgcenbkclpbaaDoorSolo
import Derived.Test.YtdfgcenbkclpbaaDoorMany
import Derived.Test.YtdfgcenbkclpbaaDoorPlays
import Derived.Test.YtdfgcenbkclpbaaDoorCuts
namespace Go.Proofs.YtdfgcenbkclpbaaDoor
open Go.RowKit
set_option linter.unusedSimpArgs false
set_option linter.unusedVariables false
def pA : List PSlot := blanks.set 1 ⟨true, false, [1, 2, 3]⟩
def pB : List PSlot := blanks.set 1 ⟨true, true, [1, 2, 3]⟩
def pC : List PSlot := blanks.set 0 ⟨true, false, zb 996⟩
def pD : List PSlot := blanks.set 0 ⟨true, false, []⟩
def pE : List PSlot := pD.set 2 ⟨true, false, []⟩
theorem ans1 : refStore blanks 1 1 [1, 2, 3] = (0, pA) := by decide
theorem ans2 : refRestore pA 1 = (0, pB) := by decide
theorem ans3 : refRestore pB 1 = (0, pB) := by decide
theorem ans4 : refRestore pB 0 = (5, pB) := by decide
theorem ans5 : refRestore pB 16 = (62, pB) := by decide
theorem ans6 (b : List UInt8) (i : Nat) (h : 16 ≤ i) : refStore pB 1 i b = (62, pB) := by unfold refStore; rw [if_pos h]
theorem ans8 : refStore pB 1 0 (zb 4097) = (3, pB) := by unfold refStore; rw [if_neg (by omega), if_pos (by rw [zb_length]; omega)]
theorem ans9 : opened pB = blanks := by decide
theorem ans10 : refRestore blanks 1 = (5, blanks) := by decide
theorem ans11 : refStore blanks 1 0 (zb 1000) = (60, blanks) := by
  rw [refStore_small (by omega) (by rw [zb_length]; omega), zb_length, if_pos (by decide)]
theorem ans12 : refStore blanks 1 0 (zb 997) = (60, blanks) := by
  rw [refStore_small (by omega) (by rw [zb_length]; omega), zb_length, if_pos (by decide)]
theorem ans13 : refStore blanks 1 0 (zb 996) = (0, pC) := by
  rw [refStore_small (by omega) (by rw [zb_length]; omega), zb_length, if_neg (by decide)]
  rfl
theorem ans14 : refStore pC 1 2 [] = (60, pC) := by
  rw [refStore_small (by omega) (by simp)]
  have : fitsP pC 1 2 ([] : List UInt8).length = false := by decide +kernel
  rw [if_pos this]
theorem ans15 : refStore pC 1 0 [] = (0, pD) := by
  rw [refStore_small (by omega) (by simp)]
  have : fitsP pC 1 0 ([] : List UInt8).length = true := by decide +kernel
  rw [this, if_neg (by simp)]
  unfold pC pD
  rw [List.set_set]
theorem ans16 : refStore pD 1 2 [] = (0, pE) := by decide
theorem ans17 : fitsP pE 1 3 0 = true := by decide
theorem ans18 : loadP pB 1 = (true, [1, 2, 3]) := by decide
theorem ans19 : thereP blanks 0 = [] := by decide
set_option maxRecDepth 100000 in
set_option maxHeartbeats 6400000 in
theorem known_walk (w : World) (hg : w.rangeAt 0 0 W4.free.cells) :
    Calls Tryd.prog 7 #[] w fun e w' => e = .returned (.bool true) ∧ Touch [] w w' := by
  have h0 := glob_pos hg
  have z5000 : ∀ W : World, (Instr.makeSlice 22 (.int .i64 5000) (.int .i64 5000)).run Tryd.prog W = .ok (.slice (some ⟨W.heap.size, 0, none⟩) 5000 5000) (W.alloc (.cells (zs 5000) 5)) := make_zs 5000 (by omega)
  have z4097 : ∀ W : World, (Instr.makeSlice 22 (.int .i64 4097) (.int .i64 4097)).run Tryd.prog W = .ok (.slice (some ⟨W.heap.size, 0, none⟩) 4097 4097) (W.alloc (.cells (zs 4097) 5)) := make_zs 4097 (by omega)
  have z1000 : ∀ W : World, (Instr.makeSlice 22 (.int .i64 1000) (.int .i64 1000)).run Tryd.prog W = .ok (.slice (some ⟨W.heap.size, 0, none⟩) 1000 1000) (W.alloc (.cells (zs 1000) 5)) := make_zs 1000 (by omega)
  have z997 : ∀ W : World, (Instr.makeSlice 22 (.int .i64 997) (.int .i64 997)).run Tryd.prog W = .ok (.slice (some ⟨W.heap.size, 0, none⟩) 997 997) (W.alloc (.cells (zs 997) 5)) := make_zs 997 (by omega)
  have z996 : ∀ W : World, (Instr.makeSlice 22 (.int .i64 996) (.int .i64 996)).run Tryd.prog W = .ok (.slice (some ⟨W.heap.size, 0, none⟩) 996 996) (W.alloc (.cells (zs 996) 5)) := make_zs 996 (by omega)
  go_enter Tryd.func7, Tryd.ntmps7
  go_wp2_with fail
  refine (flash_new _ 4 (by omega) (by omega)).mono ?_
  rintro e w1 ⟨f, s, rfl, hf, hs, hF, t1⟩
  have T1 := t1
  have g1 := glob_to hg t1 (by simp)
  have s1 := t1.size
  have hz : f ≠ 0 ∧ s ≠ 0 := by omega
  go_wp2_with fail
  refine (open_blank _ f s _ 0 2 (pick_blank (fun k h1 h2 => word_free (by omega) _ _ _ _) (by omega)) rfl hF rfl g1 hz (by omega) (by show 0 + 2 ≤ 4; omega)).mono ?_
  rintro e w2 ⟨j, K, G, rfl, hO, hP, hu, t2⟩
  have T2 := T1.to t2
  have hj := hO.fresh
  have S2 : Solo w2 f s j blanks G := ⟨⟨K, hO.jn, hO.keeps, hP, hO.cut⟩, hO.flash, hO.off, hu.armed, hu.count⟩
  clear hO hP hu hF
  go_wp2_with fail
  have tA := Touch.one w2 (.cells #[Value.int IntKind.u8 1, Value.int IntKind.u8 2, Value.int IntKind.u8 3] 5)
  have hA := (OwnAt.new w2 #[Value.int IntKind.u8 1, Value.int IntKind.u8 2, Value.int IntKind.u8 3] 5).slice
  refine (solo_store _ f s j _ G 1 [1, 2, 3] _ 3 3 (S2.to tA) (by omega) rfl (by omega) hA (by simp)).mono ?_
  rw [ans1]
  rintro e w3 ⟨G3, rfl, S3, t3⟩
  have T3 := (T2.to tA).to t3 (by simp; omega)
  clear hA tA S2
  go_wp2_with fail
  refine (solo_restore _ f s j _ _ 1 S3 (by omega)).mono ?_
  rw [ans2]
  rintro e w4 ⟨G4, rfl, S4, t4⟩
  have T4 := T3.to t4 (by simp; omega)
  clear S3
  go_wp2_with fail
  refine (solo_restore _ f s j _ _ 1 S4 (by omega)).mono ?_
  rw [ans3]
  rintro e w5 ⟨G5, rfl, S5, t5⟩
  have T5 := T4.to t5 (by simp; omega)
  clear S4
  go_wp2_with fail
  refine (solo_restore _ f s j _ _ 0 S5 (by omega)).mono ?_
  rw [ans4]
  rintro e w6 ⟨G6, rfl, S6, t6⟩
  have T6 := T5.to t6 (by simp; omega)
  clear S5
  go_wp2_with fail
  refine (solo_restore _ f s j _ _ 16 S6 (by omega)).mono ?_
  rw [ans5]
  rintro e w7 ⟨G7, rfl, S7, t7⟩
  have T7 := T6.to t7 (by simp; omega)
  clear S6
  go_wp2_with fail
  refine (solo_store _ f s j _ _ 16 [] none 0 0 S7 (by omega) rfl (by omega) (.nil _ _) (by simp)).mono ?_
  rw [ans6 _ _ (by omega)]
  rintro e w8 ⟨G8, rfl, S8, t8⟩
  have T8 := T7.to t8 (by simp; omega)
  clear S7
  go_wp2_with fail
  have tZ9 := Touch.one w8 (.cells (zs 5000) 5)
  have hZ9 := (OwnAt.new w8 (zs 5000) 5).slice
  rw [zs_toList] at hZ9
  refine (solo_store _ f s j _ _ 255 (zb 5000) _ 5000 5000 (S8.to tZ9) (by omega) (zb_length _) (by omega) hZ9 (by simp)).mono ?_
  rw [ans6 _ _ (by omega)]
  rintro e w9 ⟨G9, rfl, S9, t9⟩
  have T9 := (T8.to tZ9).to t9 (by simp; omega)
  clear S8 hZ9 tZ9
  go_wp2_with fail
  have tZ10 := Touch.one w9 (.cells (zs 4097) 5)
  have hZ10 := (OwnAt.new w9 (zs 4097) 5).slice
  rw [zs_toList] at hZ10
  refine (solo_store _ f s j _ _ 0 (zb 4097) _ 4097 4097 (S9.to tZ10) (by omega) (zb_length _) (by omega) hZ10 (by simp)).mono ?_
  rw [ans8]
  rintro e w10 ⟨G10, rfl, S10, t10⟩
  have T10 := (T9.to tZ10).to t10 (by simp; omega)
  clear S9 hZ10 tZ10
  go_wp2_with fail
  refine (solo_load _ f s j _ _ 1 S10 (by omega)).mono ?_
  rw [ans18]
  rintro e w11 ⟨A, cap, rfl, hsA, hbA, t11⟩
  have S11 := S10.to t11
  have T11 := T10.to t11
  clear S10
  go_wp2_with fail
  refine (solo_open _ f s j _ _ S11 (glob_to hg T11 (by simp)) hz).mono ?_
  rw [ans9]
  rintro e w12 ⟨k, rfl, hkf, S12, t12⟩
  have T12 := T11.to t12
  have hs12 := hsA.to t12
  have hz11 := T11.size
  have hkw : w.heap.size ≤ k := by omega
  have e1 : (convert 22 9 (.slice A 3 cap)).run Tryd.prog w12 = .ok (.string ⟨#[1, 2, 3]⟩) w12 := run_str (dst := 9) Tryd.underlying22 Tryd.underlying5 Tryd.underlying9 hs12 cap
  clear S11 hsA hs12
  go_wp2_with fail
  refine (solo_groups _ f s k _ _ S12).mono ?_
  rw [ans19]
  rintro e w13 ⟨A13, c13, rfl, _, t13⟩
  have S13 := S12.to t13
  have T13 := T12.to t13
  clear S12 e1
  go_wp2_with fail
  refine (solo_restore _ f s k _ _ 1 S13 (by omega)).mono ?_
  rw [ans10]
  rintro e w14 ⟨G14, rfl, S14, t14⟩
  have T14 := T13.to t14 (by simp; omega)
  clear S13
  go_wp2_with fail
  have tZ15 := Touch.one w14 (.cells (zs 1000) 5)
  have hZ15 := (OwnAt.new w14 (zs 1000) 5).slice
  rw [zs_toList] at hZ15
  refine (solo_store _ f s k _ _ 0 (zb 1000) _ 1000 1000 (S14.to tZ15) (by omega) (zb_length _) (by omega) hZ15 (by simp)).mono ?_
  rw [ans11]
  rintro e w15 ⟨G15, rfl, S15, t15⟩
  have T15 := (T14.to tZ15).to t15 (by simp; omega)
  clear S14 hZ15 tZ15
  go_wp2_with fail
  have tZ16 := Touch.one w15 (.cells (zs 997) 5)
  have hZ16 := (OwnAt.new w15 (zs 997) 5).slice
  rw [zs_toList] at hZ16
  refine (solo_store _ f s k _ _ 0 (zb 997) _ 997 997 (S15.to tZ16) (by omega) (zb_length _) (by omega) hZ16 (by simp)).mono ?_
  rw [ans12]
  rintro e w16 ⟨G16, rfl, S16, t16⟩
  have T16 := (T15.to tZ16).to t16 (by simp; omega)
  clear S15 hZ16 tZ16
  go_wp2_with fail
  have tZ17 := Touch.one w16 (.cells (zs 996) 5)
  have hZ17 := (OwnAt.new w16 (zs 996) 5).slice
  rw [zs_toList] at hZ17
  refine (solo_store _ f s k _ _ 0 (zb 996) _ 996 996 (S16.to tZ17) (by omega) (zb_length _) (by omega) hZ17 (by simp)).mono ?_
  rw [ans13]
  rintro e w17 ⟨G17, rfl, S17, t17⟩
  have T17 := (T16.to tZ17).to t17 (by simp; omega)
  clear S16 hZ17 tZ17
  go_wp2_with fail
  refine (solo_store _ f s k _ _ 2 [] none 0 0 S17 (by omega) rfl (by omega) (.nil _ _) (by simp)).mono ?_
  rw [ans14]
  rintro e w18 ⟨G18, rfl, S18, t18⟩
  have T18 := T17.to t18 (by simp; omega)
  clear S17
  go_wp2_with fail
  refine (solo_store _ f s k _ _ 0 [] none 0 0 S18 (by omega) rfl (by omega) (.nil _ _) (by simp)).mono ?_
  rw [ans15]
  rintro e w19 ⟨G19, rfl, S19, t19⟩
  have T19 := T18.to t19 (by simp; omega)
  clear S18
  go_wp2_with fail
  refine (solo_store _ f s k _ _ 2 [] none 0 0 S19 (by omega) rfl (by omega) (.nil _ _) (by simp)).mono ?_
  rw [ans16]
  rintro e w20 ⟨G20, rfl, S20, t20⟩
  have T20 := T19.to t20 (by simp; omega)
  clear S19
  clear z5000 z4097 z1000 z997 z996
  go_wp2_with fail
  refine (open_nil _ 0 2).mono ?_
  rintro e w21 ⟨rfl, hw⟩
  obtain rfl : w20 = w21 := hw.symm
  have hcn := S20.cnt
  go_wp2_with fail
  refine (open_arg _ f s _ (-1) (2) S20.flash (by omega) (by omega) (by omega) (by omega)).mono ?_
  rintro e w22 ⟨rfl, hw⟩
  obtain rfl : w20 = w22 := hw.symm
  go_wp2_with fail
  refine (open_arg _ f s _ (0) (1) S20.flash (by omega) (by omega) (by omega) (by omega)).mono ?_
  rintro e w23 ⟨rfl, hw⟩
  obtain rfl : w20 = w23 := hw.symm
  go_wp2_with fail
  refine (open_arg _ f s _ (3) (2) S20.flash (by omega) (by omega) (by omega) (by omega)).mono ?_
  rintro e w24 ⟨rfl, hw⟩
  obtain rfl : w20 = w24 := hw.symm
  go_wp2_with fail
  refine (open_arg _ f s _ (1) (9223372036854775807) S20.flash (by omega) (by omega) (by omega) (by omega)).mono ?_
  rintro e w25 ⟨rfl, hw⟩
  obtain rfl : w20 = w25 := hw.symm
  go_wp2_with fail
  refine (solo_other _ f s k _ _ S20 (glob_to hg T20 (by simp)) hz).mono ?_
  rintro e w26 ⟨k26, G26, rfl, S26, t26⟩
  have T26 := T20.to t26 (by simp; omega)
  have hcn26 := S26.cnt
  have hoff26 := S26.off
  have hjn26 := S26.jn
  go_wp2_with fail
  refine (flash_cut _ f s _ 0 S26.flash).mono ?_
  rintro e w27 ⟨rfl, hF27, t27⟩
  have T27 := T26.to t27 (by simp; omega)
  have hjn27 : ∃ J, JnAt w27 k f s J ∧ Keeps G26 0 1 J ∧ J.slots.map Slot.p = pE ∧ J.cut = false := by
    obtain ⟨J, a, b, c, d⟩ := hjn26
    exact ⟨J, a.touch t27 (by simpa using a.apart.1) (by simp), b, c, d⟩
  clear S20 S26 hjn26
  go_wp2_with fail
  refine (solo_cut _ f s k pE G26 hjn27 hoff26 hcn26 3 (by omega) ans17 hF27).mono ?_
  rintro e w28 ⟨G28, rfl, hF28, hoff28, hcn28, t28⟩
  have T28 := T27.to t28 (by simp; omega)
  clear hjn27 hF27
  go_wp2_with fail
  refine (store_over _ k).mono ?_
  rintro e w29 ⟨rfl, hw⟩
  obtain rfl : w28 = w29 := hw.symm
  go_wp2_with fail
  refine (open_off _ f s _ 0 2 hF28 hoff28 (by omega) (by omega)).mono ?_
  rintro e w30 ⟨rfl, hw⟩
  obtain rfl : w28 = w30 := hw.symm
  go_wp2_with fail
  refine (flash_on _ f s _ hF28).mono ?_
  rintro e w31 ⟨rfl, hF31, t31⟩
  have T31 := T28.to t31 (by simp; omega)
  clear hF28 hF31
  go_wp2_with fail
  refine (load_nil _).mono ?_
  rintro e w32 ⟨rfl, hw⟩
  obtain rfl : w31 = w32 := hw.symm
  go_wp2_with fail
  refine (many_any2 _).mono ?_
  rintro e w33 ⟨v33, l33, rfl, O33, hl33, t33⟩
  have T33 := T31.to t33
  obtain ⟨A33, c33, rfl, hA33⟩ := O33.at_ (by omega)
  have hll33 : l33.length ≤ 9223372036854775807 := by omega
  clear O33 hl33
  go_wp2_with fail
  refine (plays_walk _ (glob_to hg T33 (by simp)) 2 A33 c33 l33 hA33 hll33 (by omega) (by omega)).mono ?_
  rintro e w34 ⟨rfl, t34⟩
  have T34 := T33.to t34
  clear hA33
  go_wp2_with fail
  refine (many_any5 _).mono ?_
  rintro e w35 ⟨v35, l35, rfl, O35, hl35, t35⟩
  have T35 := T34.to t35
  obtain ⟨A35, c35, rfl, hA35⟩ := O35.at_ (by omega)
  have hll35 : l35.length ≤ 9223372036854775807 := by omega
  clear O35 hl35
  go_wp2_with fail
  refine (plays_walk _ (glob_to hg T35 (by simp)) 5 A35 c35 l35 hA35 hll35 (by omega) (by omega)).mono ?_
  rintro e w36 ⟨rfl, t36⟩
  have T36 := T35.to t36
  clear hA35
  go_wp2_with fail
  refine (many_any2 _).mono ?_
  rintro e w37 ⟨v37, l37, rfl, O37, hl37, t37⟩
  have T37 := T36.to t37
  obtain ⟨A37, c37, rfl, hA37⟩ := O37.at_ (by omega)
  have hll37 : l37.length ≤ 9223372036854775807 := by omega
  clear O37 hl37
  go_wp2_with fail
  refine (cuts_walk _ (glob_to hg T37 (by simp)) 2 A37 c37 l37 3 hA37 hll37 (by omega) (by omega) (by omega)).mono ?_
  rintro e w38 ⟨rfl, t38⟩
  have T38 := T37.to t38
  clear hA37
  go_wp2_with fail
  refine (cuts_any _).mono ?_
  rintro e w39 ⟨v39, l39, rfl, O39, hl39, t39⟩
  have T39 := T38.to t39
  obtain ⟨A39, c39, rfl, hA39⟩ := O39.at_ (by omega)
  have hll39 : l39.length ≤ 9223372036854775807 := by omega
  clear O39 hl39
  go_wp2_with fail
  refine (cuts_walk _ (glob_to hg T39 (by simp)) 3 A39 c39 l39 1 hA39 hll39 (by omega) (by omega) (by omega)).mono ?_
  rintro e w40 ⟨rfl, t40⟩
  have T40 := T39.to t40
  clear hA39
  go_wp2_with fail
  refine (cuts_any _).mono ?_
  rintro e w41 ⟨v41, l41, rfl, O41, hl41, t41⟩
  have T41 := T40.to t41
  obtain ⟨A41, c41, rfl, hA41⟩ := O41.at_ (by omega)
  have hll41 : l41.length ≤ 9223372036854775807 := by omega
  clear O41 hl41
  go_wp2_with fail
  refine (cuts_walk _ (glob_to hg T41 (by simp)) 2 A41 c41 l41 0 hA41 hll41 (by omega) (by omega) (by omega)).mono ?_
  rintro e w42 ⟨rfl, t42⟩
  have T42 := T41.to t42
  clear hA41
  go_wp2_with fail
  refine (store_nil _).mono ?_
  rintro e w43 ⟨rfl, hw⟩
  obtain rfl : w42 = w43 := hw.symm
  go_wp2_with fail
  refine (restore_nil _).mono ?_
  rintro e w44 ⟨rfl, hw⟩
  obtain rfl : w42 = w44 := hw.symm
  go_wp2_with fail
  refine (groups_nil _).mono ?_
  rintro e w45 ⟨rfl, hw⟩
  obtain rfl : w42 = w45 := hw.symm
  go_wp2_with fail
  refine (works_any _ (glob_to hg T42 (by simp))).mono ?_
  rintro e w46 ⟨rfl, t46⟩
  go_wp2_with fail
  go_ret
  exact ⟨rfl, T42.to t46⟩
theorem journalKnown_row (W : World) (hg : W.rangeAt 0 0 W4.free.cells) :
    Calls Tryd.prog 7 #[] W fun e w' => e = .returned (.bool true) ∧ Below W.heap.size W w' := by
  refine (known_walk W hg).mono ?_
  rintro e w' ⟨rfl, hT⟩
  exact ⟨rfl, hT.below⟩
end Go.Proofs.YtdfgcenbkclpbaaDoor
