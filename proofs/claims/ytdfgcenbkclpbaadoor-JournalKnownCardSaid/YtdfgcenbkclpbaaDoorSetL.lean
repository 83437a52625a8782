/- set, where a group is stored. -/
import Derived.Test.YtdfgcenbkclpbaaDoorFr
import Derived.Test.YtdfgcenbkclpbaaDoorPlanLate
namespace Go.Proofs.YtdfgcenbkclpbaaDoor
open Go.RowKit
set_option linter.unusedSimpArgs false
set_option linter.unusedVariables false
set_option maxRecDepth 100000 in
set_option maxHeartbeats 3200000 in
theorem set_kept (w : World) (j f s : Nat) (J : Jn) (F : Fl) (i : Nat) (b : List UInt8) (a : Option Addr) (c : Nat) (h : JnAt w j f s J) (hF : FlashAt w f s F) (hi : i < 16) (hc : J.cut = false) (ho : F.off = false)
    (hx : SliceAt w a (b.map u8v) ∧ b.length ≤ 4096 ∧ (a = none → b.length = 0 ∧ c = 0) ∧ ∀ y, a = some y → y.block ≠ j ∧ y.block ≠ f ∧ y.block ≠ s) (hf : J.fits i b.length = true)
    (hh : J.first + J.count ≤ F.count) (hot : J.other + J.count ≤ F.count) (hp : 0 < J.count) (hn : J.next ≤ 256 * J.count) (hroom : 2 + liveWords (J.slots.set i ⟨true, false, b, a, c⟩) ≤ 256 * J.count) :
    Calls Tryd.prog 41 #[ptr j, .int .u8 i, groupV true false a b.length c] w fun e w' =>
      e = .returned (.int .i64 (J.set F i ⟨true, false, b, a, c⟩).1) ∧ FlashAt w' f s (J.set F i ⟨true, false, b, a, c⟩).2.1 ∧ JnAt w' j f s (J.set F i ⟨true, false, b, a, c⟩).2.2 ∧ Touch [f, s, j] w w' := by
  have hfew := h.few
  have hjl : j < w.heap.size := h.own.lt (by rw [Jn.cells_length]; omega)
  have hfl := hF.flt
  have hsl := hF.slt
  have hjf : j ≠ f := h.apart.1
  have hjs : j ≠ s := h.apart.2
  have hfs : f ≠ s := hF.apart
  have hT : Touch [f, s, j] w (w.alloc (.cells #[.bool true, .bool false, .slice a b.length c] 78)) := (Touch.refl _ _).alloc _
  have hJ := h.to (Touch.one w (.cells #[.bool true, .bool false, .slice a b.length c] 78))
  have hFA := hF.to (Touch.one w (.cells #[.bool true, .bool false, .slice a b.length c] 78))
  have hG := OwnAt.new w #[.bool true, .bool false, .slice a b.length c] 78
  have hSa := hx.1.to (Touch.one w (.cells #[.bool true, .bool false, .slice a b.length c] 78))
  have c1 := hJ.cutCell.1
  rw [hc] at c1
  have c0' : (w.alloc (.cells #[.bool true, .bool false, .slice a b.length c] 78)).cell? ⟨j, 0, none⟩ = some (ptr f) := hJ.own.get 0 (by rw [Jn.cells_length]; omega)
  obtain ⟨old, hold⟩ : ∃ x, J.slots[i]? = some x := ⟨_, List.getElem?_eq_getElem (by rw [h.sixteen]; exact hi)⟩
  have hi' : (i : Int) < 16 := by omega
  go_enter Tryd.func41, Tryd.ntmps41
  go_wp2_with fail
  refine (flash_off _ f s F hFA).mono ?_
  rintro e w1 ⟨rfl, rfl⟩
  rw [ho]
  go_wp2_with fail
  refine (fits_any _ j f s J i b.length hJ hi hx.2.1).mono ?_
  rintro e w2 ⟨rfl, t2⟩
  rw [hf]
  replace hJ := hJ.to t2
  replace hFA := hFA.to t2
  replace hG := hG.to t2
  replace hSa := hSa.to t2
  replace hT := hT.to t2
  have hor := hJ.slotRange hold
  rw [Nat.mul_comm] at hor
  have hth := (OwnAt.new w2 (old.cells.toArray) 78).there (i := 0) (n := 3) (by simp [Slot.cells])
  clear c1 c0'
  go_wp2_with (refine wp_load_group (y := old) ?_ rfl rfl rfl ?_; (with_reducible exact hor))
  have hold' : J.slots.getD i ⟨true, false, b, a, c⟩ = old := by rw [List.getD_eq_getElem?_getD, hold]; rfl
  -- the world in which the group is stored
  have tO := Touch.one w2 (.cells #[.bool old.there, .bool old.marked, .slice old.a old.b.length old.cap] 78)
  have hO := OwnAt.new w2 #[.bool old.there, .bool old.marked, .slice old.a old.b.length old.cap] 78
  have hz2 : w.heap.size + 1 ≤ w2.heap.size := by have := t2.size; simpa using this
  replace hJ := hJ.to tO
  replace hFA := hFA.to tO
  replace hG := hG.to tO
  replace hSa := hSa.to tO
  replace hT := hT.to tO
  refine wp_region_by [⟨false, [0, 1, 3, 4], none⟩, ⟨true, [2, 5], some 6⟩] (by kernel_rfl) (by kernel_rfl) ?_
  refine by_row ?_ (fun w' => ?_) ?_ ?_
  rotate_left
  · simp only [pick, nthOp]; go_wp2_with fail; refine And.intro ?_ ?_ <;> rfl
  · kernel_rfl
  have hGr := hG.drew.slot
  have hJth : (w2.alloc (.cells #[.bool old.there, .bool old.marked, .slice old.a old.b.length old.cap] 78)).drew.there j (8 + i * 3) 3 := by
    have := hJ.own.drew.there (i := 8 + i * 3) (n := 3) (by rw [Jn.cells_length, h.sixteen]; omega)
    rwa [Nat.zero_add] at this
  refine by_here ?_ ?_ ?_ ?_
  rotate_left
  · simp only [pick, nthOp]; go_wp2_with (refine wp_load_group (y := ⟨true, false, b, a, c⟩) ?_ rfl rfl rfl ?_; (with_reducible exact hGr)); refine And.intro ?_ ?_ <;> rfl
  · kernel_rfl
  simp only [pick, nthOp]
  go_wp2_with (refine wp_store_group (y := ⟨true, false, b, a, c⟩) (b := j) (o := 8 + i * 3) ?_ rfl rfl rfl rfl ?_; (with_reducible exact hJth))
  refine by_onward ?_
  have hJ1 := (hJ.to (Touch.dr _)).setSlot i hi ⟨true, false, b, a, c⟩ ⟨hSa.drew, hx.2⟩
  rw [Nat.mul_comm 3 i] at hJ1
  have tW := Touch.drCells (w2.alloc (.cells #[.bool old.there, .bool old.marked, .slice old.a old.b.length old.cap] 78)) j (8 + i * 3) (Slot.cells ⟨true, false, b, a, c⟩)
  replace hSa := hSa.to tW (fun x hx' => by simpa using (hx.2.2.2 x hx').1)
  replace hFA := hFA.to tW
  replace hG := hG.to tW
  replace hO := hO.to tW
  replace hT := hT.to tW
  clear hGr hJth hJ hth hor
  obtain ⟨J1, hJ1e⟩ : ∃ J1 : Jn, J1 = { J with slots := J.slots.set i ⟨true, false, b, a, c⟩ } := ⟨_, rfl⟩
  rw [← hJ1e] at hJ1
  have e1 : J1.first = J.first ∧ J1.other = J.other ∧ J1.count = J.count ∧ J1.next = J.next := by rw [hJ1e]; exact ⟨rfl, rfl, rfl, rfl⟩
  have e2 : J1.slots = J.slots.set i ⟨true, false, b, a, c⟩ := by rw [hJ1e]
  have HJE := Lib.hid hJ1e
  have HE2 := Lib.hid e2
  clear e2
  clear hJ1e
  have hg1 := hG.slot
  go_wp2_with (refine wp_load_group (y := ⟨true, false, b, a, c⟩) ?_ rfl rfl rfl ?_; (with_reducible exact hg1))
  refine (recordOf_kept _ i true a b.length c (by omega) hx.2.1).mono ?_
  rintro e w3 ⟨rfl, t3⟩
  replace hJ1 := hJ1.to t3
  replace hFA := hFA.to t3
  replace hG := hG.to t3
  replace hO := hO.to t3
  replace hSa := hSa.to t3
  replace hT := hT.to t3
  have hz3 : w2.heap.size < w3.heap.size := hO.lt (by simp)
  have tR := Touch.one w3 (.cells #[u8v (headOf i 1 b.length).a, u8v (headOf i 1 b.length).b, u8v (headOf i 1 b.length).c, u8v (headOf i 1 b.length).d, .slice a b.length c] 98)
  have hR := OwnAt.new w3 #[u8v (headOf i 1 b.length).a, u8v (headOf i 1 b.length).b, u8v (headOf i 1 b.length).c, u8v (headOf i 1 b.length).d, .slice a b.length c] 98
  replace hJ1 := hJ1.to tR
  replace hFA := hFA.to tR
  replace hG := hG.to tR
  replace hO := hO.to tR
  replace hSa := hSa.to tR
  replace hT := hT.to tR
  obtain ⟨rw_, hrw⟩ : ∃ l, l = recWords (headOf i 1 b.length) b := ⟨_, rfl⟩
  have hrl : rw_.length = 2 + (b.length + 3) / 4 := by rw [hrw, recWords_length]
  have hrw' : Slot.words i ⟨true, false, b, a, c⟩ = rw_ := hrw.symm
  have hlen := fun W => rec_length W (headOf i 1 b.length) a b.length c (by have := hx.2.1; omega)
  have hwr := fun W hF1 hS1 hq => half_write W f s F J.first J.count J.next (headOf i 1 b.length) a c b hF1 ho hh hx.2.1 hq hS1 hx.2.2.1
  simp only [← hrw] at hwr
  obtain ⟨n, hn⟩ : ∃ n, n = 2 + (b.length + 3) / 4 := ⟨_, rfl⟩
  have hn2 : n ≤ 1100 := by have := hx.2.1; omega
  simp only [← hn] at hlen hwr
  rw [← hn] at hrl
  have HW := Lib.hid hrw'
  have HRW := Lib.hid hrw
  have HRL := Lib.hid hrl
  have HN := Lib.hid hn
  have HE1 := Lib.hid e1
  clear hrw hrw' hrl hn e1
  go_wp2_with fail
  generalize w3.alloc (.cells #[u8v (headOf i 1 b.length).a, u8v (headOf i 1 b.length).b, u8v (headOf i 1 b.length).c, u8v (headOf i 1 b.length).d, .slice a b.length c] 98) = W at *
  refine wp_region_legs (fun w' => JnAt w' j f s J1 ∧ OwnAt w' w3.heap.size 0 (recCells (headOf i 1 b.length) a b.length c)) [⟨[0, 1, 2, 3, 4, 7, 8, 9, 10], some 5⟩, ⟨[6], some 11⟩, ⟨[12], none⟩] (by kernel_rfl) (by kernel_rfl) ?_
  have e1 := HE1.out
  have tD := Touch.dr W
  replace hJ1 := hJ1.to tD
  replace hR := hR.to tD
  replace hG := hG.to tD
  replace hO := hO.to tD
  replace hFA := hFA.to tD
  replace hSa := hSa.to tD
  replace hT := hT.to tD
  by_cases hfit : J.next + n ≤ 256 * J.count
  · have hnI : (J.next : Int) + (n : Int) ≤ 8192 := by omega
    have hfI : decide ((J.next : Int) + (n : Int) ≤ ((256 * J.count : Nat) : Int)) = decide (J.next + n ≤ 256 * J.count) := by rw [decide_eq_decide]; omega
    refine legs_onS ?_ ⟨hJ1, hR⟩ (fun w' hSw => ?_) ?_ ?_
    rotate_left
    · obtain ⟨hj', hr'⟩ := hSw
      have k7 := hj'.c7
      have k0 := hj'.half0
      have kr := hr'.all
      rw [HE1.out.2.2.2] at k7
      rw [HE1.out.1, HE1.out.2.2.1] at k0
      simp only [pick, nthOp]
      go_wp2_with (first | (refine wp_load_half (f := f) (first := J.first) (count := J.count) ?_ rfl rfl rfl ?_; (with_reducible exact k0)) | (refine wp_load_rec (y := headOf i 1 b.length) (A := a) (n := b.length) (c := c) ?_ rfl rfl rfl ?_; (with_reducible exact kr)))
      refine And.intro ?_ ?_ <;> rfl
    · kernel_rfl
    simp only [pick, nthOp]
    go_wp2_with fail
    refine (hlen _).mono ?_
    rintro e w4 ⟨rfl, t4⟩
    replace hJ1 := hJ1.to t4
    replace hR := hR.to t4
    replace hG := hG.to t4
    replace hO := hO.to t4
    replace hFA := hFA.to t4
    replace hSa := hSa.to t4
    replace hT := hT.to t4
    go_wp2_with fail
    refine legs_nextS ⟨hJ1, hR⟩ ?_
    refine legs_onS ?_ ⟨hJ1, hR⟩ (fun w' hSw => ?_) ?_ ?_
    rotate_left
    · simp only [pick, nthOp]; go_wp2_with fail; refine And.intro ?_ ?_ <;> rfl
    · kernel_rfl
    simp only [pick, nthOp]
    go_wp2_with fail
    refine (half_size _ f J.first J.count (by omega)).mono ?_
    rintro e w5 ⟨rfl, t5⟩
    replace hJ1 := hJ1.to t5
    replace hR := hR.to t5
    replace hG := hG.to t5
    replace hO := hO.to t5
    replace hFA := hFA.to t5
    replace hSa := hSa.to t5
    replace hT := hT.to t5
    go_wp2_with fail
    refine legs_nextS ⟨hJ1, hR⟩ ?_
    refine legs_rowS ?_ ⟨hJ1, hR⟩ (fun w' hSw => ?_) ?_ ?_
    rotate_left
    · simp only [pick, nthOp]; go_wp2_with fail; refine And.intro ?_ ?_ <;> rfl
    · kernel_rfl
    refine legs_endS ?_
    clear hfI
    go_wp2_with fail
    refine wp_region_legs (fun w' => JnAt w' j f s J1 ∧ OwnAt w' w3.heap.size 0 (recCells (headOf i 1 b.length) a b.length c)) [⟨[0, 1, 2, 3, 4, 5, 6, 7, 8], some 9⟩, ⟨[10], none⟩] (by kernel_rfl) (by kernel_rfl) ?_
    have tD := Touch.dr w5
    replace hJ1 := hJ1.to tD
    replace hR := hR.to tD
    replace hG := hG.to tD
    replace hO := hO.to tD
    replace hFA := hFA.to tD
    replace hSa := hSa.to tD
    replace hT := hT.to tD
    refine legs_onS ?_ ⟨hJ1, hR⟩ (fun w' hSw => ?_) ?_ ?_
    rotate_left
    · obtain ⟨hj', hr'⟩ := hSw
      have k7 := hj'.c7
      have k0 := hj'.half0
      have kr := hr'.all
      rw [HE1.out.2.2.2] at k7
      rw [HE1.out.1, HE1.out.2.2.1] at k0
      simp only [pick, nthOp]
      go_wp2_with (first | (refine wp_load_half (f := f) (first := J.first) (count := J.count) ?_ rfl rfl rfl ?_; (with_reducible exact k0)) | (refine wp_load_rec (y := headOf i 1 b.length) (A := a) (n := b.length) (c := c) ?_ rfl rfl rfl ?_; (with_reducible exact kr)))
      refine And.intro ?_ ?_ <;> rfl
    · kernel_rfl
    simp only [pick, nthOp]
    go_wp2_with fail
    refine (hwr _ hFA hSa hfit).mono ?_
    rintro e w6 ⟨rfl, hF6, t6⟩
    clear hFA
    replace hJ1 := hJ1.to t6
    replace hR := hR.to t6
    replace hG := hG.to t6
    replace hO := hO.to t6
    replace hT := hT.to t6
    go_wp2_with fail
    refine legs_nextS ⟨hJ1, hR⟩ ?_
    refine legs_rowS ?_ ⟨hJ1, hR⟩ (fun w' hSw => ?_) ?_ ?_
    rotate_left
    · simp only [pick, nthOp]; go_wp2_with fail; refine And.intro ?_ ?_ <;> rfl
    · kernel_rfl
    refine legs_endS ?_
    go_wp2_with fail
    refine wp_region_legsU (fun w' => JnAt w' j f s J1 ∧ OwnAt w' w3.heap.size 0 (recCells (headOf i 1 b.length) a b.length c)) 9 [⟨[0, 1, 2, 3, 4], some 5⟩, ⟨[6], some 7⟩, ⟨[], some 8⟩, ⟨[], some 9⟩] (by kernel_rfl) (by kernel_rfl) ?_
    have tD6 := Touch.dr w6
    have hFA := hF6
    replace hJ1 := hJ1.to tD6
    replace hR := hR.to tD6
    replace hG := hG.to tD6
    replace hO := hO.to tD6
    replace hFA := hFA.to tD6
    replace hT := hT.to tD6
    refine legsU_on ?_ ⟨hJ1, hR⟩ (fun w' hSw => ?_) ?_ ?_
    rotate_left
    · obtain ⟨hj', hr'⟩ := hSw
      have k7 := hj'.c7
      have k0 := hj'.half0
      have kr := hr'.all
      rw [HE1.out.2.2.2] at k7
      rw [HE1.out.1, HE1.out.2.2.1] at k0
      simp only [pick, nthOp]
      go_wp2_with (refine wp_load_rec (y := headOf i 1 b.length) (A := a) (n := b.length) (c := c) ?_ rfl rfl rfl ?_; (with_reducible exact kr))
      refine And.intro ?_ ?_ <;> rfl
    · kernel_rfl
    simp only [pick, nthOp]
    go_wp2_with fail
    refine (hlen _).mono ?_
    rintro e w7 ⟨rfl, t7⟩
    replace hJ1 := hJ1.to t7
    replace hR := hR.to t7
    replace hG := hG.to t7
    replace hO := hO.to t7
    replace hFA := hFA.to t7
    replace hT := hT.to t7
    go_wp2_with fail
    refine legsU_next ⟨hJ1, hR⟩ ?_
    refine legsU_on ?_ ⟨hJ1, hR⟩ (fun w' hSw => ?_) ?_ ?_
    rotate_left
    · simp only [pick, nthOp]; go_wp2_with fail; refine And.intro ?_ ?_ <;> rfl
    · kernel_rfl
    simp only [pick, nthOp]
    go_wp2_with fail
    refine legsU_next ⟨hJ1, hR⟩ ?_
    refine legsU_on ?_ ⟨hJ1, hR⟩ (fun w' hSw => ?_) ?_ ?_
    rotate_left
    · simp only [pick, nthOp]; go_wp2_with fail; refine And.intro ?_ ?_ <;> rfl
    · kernel_rfl
    simp only [pick, nthOp]
    go_wp2_with fail
    refine legsU_next ⟨hJ1, hR⟩ ?_
    refine legsU_on ?_ ⟨hJ1, hR⟩ (fun w' hSw => ?_) ?_ ?_
    rotate_left
    · simp only [pick, nthOp]; go_wp2_with fail; refine And.intro ?_ ?_ <;> rfl
    · kernel_rfl
    simp only [pick, nthOp]
    have k7 := hJ1.c7
    have f7 := hJ1.fz 7 (by omega)
    have tn : Touch [j] w7 (w7.setCell ⟨j, 7, none⟩ (.int .i64 ((J.next : Int) + (n : Int)))) := Touch.cell1 w7 j 7 _
    have hJn := hJ1.setNext (J.next + n)
    rw [Int.natCast_add] at hJn
    clear hJ1
    replace hR := hR.to tn
    replace hG := hG.to tn
    replace hO := hO.to tn
    replace hFA := hFA.to tn
    replace hT := hT.to tn
    go_wp2_with fail
    refine legsU_last ?_
    have hset := Jn.set_fit (x := ⟨true, false, b, a, c⟩) hc ho (fun _ => hf) (by rw [HW.out, HRL.out]; exact hfit)
    rw [HW.out, HRL.out] at hset
    have HS := Lib.hid hset
    clear hset
    have HU := Lib.hid HJE.out
    generalize F.writes (256 * J.first + J.next) rw_ = r at *
    obtain ⟨er, Fr⟩ := r
    by_cases he : er = 0
    · subst he
      have hfin := HS.out
      simp only [if_true] at hfin
      rw [HJE.out] at hJn
      have HF := Lib.hid hfin
      clear hfin
      go_wp2_with fail
      go_ret
      rw [HF.out]
      exact ⟨rfl, hFA, hJn, hT⟩
    · have hfin := HS.out
      simp only [if_neg he] at hfin
      have HF := Lib.hid hfin
      have hne : (er != 0) = true := bne_iff_ne.2 he
      rw [HJE.out] at hJn
      clear hfin he
      have hJ1 := hJn
      clear hJn
      go_wp2_with fail
      refine wp_region_legs (fun w' => OwnAt w' w2.heap.size 0 [.bool old.there, .bool old.marked, .slice old.a old.b.length old.cap]) [⟨[0, 1, 2, 3, 4, 5, 7, 8], some 6⟩, ⟨[9], some 10⟩] (by kernel_rfl) (by kernel_rfl) ?_
      refine legs_onS ?_ hO.drew (fun w' hSw => ?_) ?_ ?_
      rotate_left
      · have ko := hSw.slot
        simp only [pick, nthOp]
        go_wp2_with (refine wp_load_group (y := old) ?_ rfl rfl rfl ?_; (with_reducible exact ko))
        refine And.intro ?_ ?_ <;> rfl
      · kernel_rfl
      simp only [pick, nthOp]
      have hJc := (hJ1.to (Touch.dr _)).cutCell
      have hJ2 := hJ1.setCut.to (Touch.dr _)
      have tc := (Touch.cell1 (w7.setCell ⟨j, 7, none⟩ (.int .i64 ((J.next : Int) + (n : Int)))) j 56 (.bool true))
      have td := Touch.dr ((w7.setCell ⟨j, 7, none⟩ (.int .i64 ((J.next : Int) + (n : Int)))).setCell ⟨j, 56, none⟩ (.bool true))
      have hO2 := (hO.to tc).to td
      have hT2 := (hT.to tc).to td
      have hFA2 := (hFA.to tc).to td
      have hc1 := hJc.1
      have hc2 := hJc.2
      go_wp2_with fail
      refine legs_nextS hO2 ?_
      refine legs_onS ?_ hO2 (fun w' hSw => ?_) ?_ ?_
      rotate_left
      · simp only [pick, nthOp]; go_wp2_with fail; refine And.intro ?_ ?_ <;> rfl
      · kernel_rfl
      simp only [pick, nthOp]
      have hJth : ((w7.setCell ⟨j, 7, none⟩ (.int .i64 ((J.next : Int) + (n : Int)))).setCell ⟨j, 56, none⟩ (.bool true)).drew.there j (8 + i * 3) 3 := by
        have := hJ2.own.there (i := 8 + i * 3) (n := 3) (by rw [Jn.cells_length, hJ2.sixteen]; omega)
        rwa [Nat.zero_add] at this
      have hos := h.slots old (List.mem_of_getElem? hold)
      have hJ3 := hJ2.setSlot i hi old ⟨hos.1.touch hT2 (fun y hy => by have := hos.2.2.2 y hy; simp; omega), hos.2⟩
      have hT3 := hT2.to (Touch.cells _ j (8 + 3 * i) old.cells)
      have hF3 := hFA2.to (Touch.cells _ j (8 + 3 * i) old.cells)
      rw [Nat.mul_comm 3 i] at hJ3 hT3 hF3
      clear hc1 hc2 hJc
      go_wp2_with (refine wp_store_group (y := old) (b := j) (o := 8 + i * 3) ?_ rfl rfl rfl rfl ?_; (with_reducible exact hJth))
      refine legs_nextS ?_ (legs_endS ?_)
      · exact hO2.to (Touch.cells _ j (8 + i * 3) old.cells)
      go_wp2_with fail
      go_ret
      rw [HF.out, hold']
      exact ⟨rfl, hF3, hJ3, hT3⟩
  · have hnI : (J.next : Int) + (n : Int) ≤ 10000 := by omega
    have hfI : decide ((J.next : Int) + (n : Int) ≤ ((256 * J.count : Nat) : Int)) = decide (J.next + n ≤ 256 * J.count) := by rw [decide_eq_decide]; omega
    refine legs_onS ?_ ⟨hJ1, hR⟩ (fun w' hSw => ?_) ?_ ?_
    rotate_left
    · obtain ⟨hj', hr'⟩ := hSw
      have k7 := hj'.c7
      have k0 := hj'.half0
      have kr := hr'.all
      rw [HE1.out.2.2.2] at k7
      rw [HE1.out.1, HE1.out.2.2.1] at k0
      simp only [pick, nthOp]
      go_wp2_with (first | (refine wp_load_half (f := f) (first := J.first) (count := J.count) ?_ rfl rfl rfl ?_; (with_reducible exact k0)) | (refine wp_load_rec (y := headOf i 1 b.length) (A := a) (n := b.length) (c := c) ?_ rfl rfl rfl ?_; (with_reducible exact kr)))
      refine And.intro ?_ ?_ <;> rfl
    · kernel_rfl
    simp only [pick, nthOp]
    go_wp2_with fail
    refine (hlen _).mono ?_
    rintro e w4 ⟨rfl, t4⟩
    replace hJ1 := hJ1.to t4
    replace hR := hR.to t4
    replace hG := hG.to t4
    replace hO := hO.to t4
    replace hFA := hFA.to t4
    replace hSa := hSa.to t4
    replace hT := hT.to t4
    go_wp2_with fail
    refine legs_nextS ⟨hJ1, hR⟩ ?_
    refine legs_onS ?_ ⟨hJ1, hR⟩ (fun w' hSw => ?_) ?_ ?_
    rotate_left
    · simp only [pick, nthOp]; go_wp2_with fail; refine And.intro ?_ ?_ <;> rfl
    · kernel_rfl
    simp only [pick, nthOp]
    go_wp2_with fail
    refine (half_size _ f J.first J.count (by omega)).mono ?_
    rintro e w5 ⟨rfl, t5⟩
    replace hJ1 := hJ1.to t5
    replace hR := hR.to t5
    replace hG := hG.to t5
    replace hO := hO.to t5
    replace hFA := hFA.to t5
    replace hSa := hSa.to t5
    replace hT := hT.to t5
    go_wp2_with fail
    refine legs_nextS ⟨hJ1, hR⟩ ?_
    refine legs_rowS ?_ ⟨hJ1, hR⟩ (fun w' hSw => ?_) ?_ ?_
    rotate_left
    · simp only [pick, nthOp]; go_wp2_with fail; refine And.intro ?_ ?_ <;> rfl
    · kernel_rfl
    refine legs_endS ?_
    clear hfI
    have hturn := turn_any w5 j f s J1 F hJ1 hFA ho (by rw [HE1.out.2.1, HE1.out.2.2.1]; exact hot) (by rw [HE1.out.2.2.1]; exact hp) (by rw [HE1.out.2.2.1, HE2.out]; exact hroom)
    go_wp2_with fail
    refine hturn.mono ?_
    rintro e w6 ⟨rfl, hF6, hJ6, t6⟩
    clear hturn hFA hJ1
    replace hG := hG.to t6
    replace hO := hO.to t6
    replace hT := hT.to t6
    have hset := Jn.set_turn (x := ⟨true, false, b, a, c⟩) HJE.out hc ho (fun _ => hf) (by rw [HW.out, HRL.out]; exact hfit)
    generalize hr : J1.turn F = r at *
    obtain ⟨er, Fr, Jr⟩ := r
    simp only at hF6 hJ6
    have HS := Lib.hid hset
    clear hset hr
    by_cases he : er = 0
    · subst he
      have hfin := HS.out
      simp only [if_true] at hfin
      have HF := Lib.hid hfin
      clear hfin
      go_wp2_with fail
      go_ret
      rw [HF.out]
      exact ⟨rfl, hF6, hJ6, hT⟩
    · have hfin := HS.out
      simp only [if_neg he] at hfin
      have HF := Lib.hid hfin
      have hne : (er != 0) = true := bne_iff_ne.2 he
      clear hfin he
      go_wp2_with fail
      have hJ1 := hJ6
      have hFA := hF6
      clear hJ6 hF6
      refine wp_region_legs (fun w' => OwnAt w' w2.heap.size 0 [.bool old.there, .bool old.marked, .slice old.a old.b.length old.cap]) [⟨[0, 1, 2, 3, 4, 5, 7, 8], some 6⟩, ⟨[9], some 10⟩] (by kernel_rfl) (by kernel_rfl) ?_
      refine legs_onS ?_ hO.drew (fun w' hSw => ?_) ?_ ?_
      rotate_left
      · have ko := hSw.slot
        simp only [pick, nthOp]
        go_wp2_with (refine wp_load_group (y := old) ?_ rfl rfl rfl ?_; (with_reducible exact ko))
        refine And.intro ?_ ?_ <;> rfl
      · kernel_rfl
      simp only [pick, nthOp]
      have hJc := (hJ1.to (Touch.dr _)).cutCell
      have hJ2 := hJ1.setCut.to (Touch.dr _)
      have tc := (Touch.cell1 w6 j 56 (.bool true))
      have td := Touch.dr (w6.setCell ⟨j, 56, none⟩ (.bool true))
      have hO2 := (hO.to tc).to td
      have hT2 := (hT.to tc).to td
      have hFA2 := (hFA.to tc).to td
      have hc1 := hJc.1
      have hc2 := hJc.2
      go_wp2_with fail
      refine legs_nextS hO2 ?_
      refine legs_onS ?_ hO2 (fun w' hSw => ?_) ?_ ?_
      rotate_left
      · simp only [pick, nthOp]; go_wp2_with fail; refine And.intro ?_ ?_ <;> rfl
      · kernel_rfl
      simp only [pick, nthOp]
      have hJth : (w6.setCell ⟨j, 56, none⟩ (.bool true)).drew.there j (8 + i * 3) 3 := by
        have := hJ2.own.there (i := 8 + i * 3) (n := 3) (by rw [Jn.cells_length, hJ2.sixteen]; omega)
        rwa [Nat.zero_add] at this
      have hos := h.slots old (List.mem_of_getElem? hold)
      have hJ3 := hJ2.setSlot i hi old ⟨hos.1.touch hT2 (fun y hy => by have := hos.2.2.2 y hy; simp; omega), hos.2⟩
      have hT3 := hT2.to (Touch.cells _ j (8 + 3 * i) old.cells)
      have hF3 := hFA2.to (Touch.cells _ j (8 + 3 * i) old.cells)
      rw [Nat.mul_comm 3 i] at hJ3 hT3 hF3
      clear hc1 hc2 hJc
      go_wp2_with (refine wp_store_group (y := old) (b := j) (o := 8 + i * 3) ?_ rfl rfl rfl rfl ?_; (with_reducible exact hJth))
      refine legs_nextS ?_ (legs_endS ?_)
      · exact hO2.to (Touch.cells _ j (8 + i * 3) old.cells)
      go_wp2_with fail
      go_ret
      rw [HF.out, hold']
      exact ⟨rfl, hF3, hJ3, hT3⟩
end Go.Proofs.YtdfgcenbkclpbaaDoor
namespace Go.Proofs.YtdfgcenbkclpbaaDoor
open Go.RowKit
set_option linter.unusedSimpArgs false
set_option linter.unusedVariables false
set_option maxRecDepth 100000 in
set_option maxHeartbeats 3200000 in
theorem set_marked (w : World) (j f s : Nat) (J : Jn) (F : Fl) (i : Nat) (b : List UInt8) (a : Option Addr) (c : Nat) (h : JnAt w j f s J) (hF : FlashAt w f s F) (hi : i < 16) (hc : J.cut = false) (ho : F.off = false)
    (hx : SliceAt w a (b.map u8v) ∧ b.length ≤ 4096 ∧ (a = none → b.length = 0 ∧ c = 0) ∧ ∀ y, a = some y → y.block ≠ j ∧ y.block ≠ f ∧ y.block ≠ s)
    (hh : J.first + J.count ≤ F.count) (hot : J.other + J.count ≤ F.count) (hp : 0 < J.count) (hn : J.next ≤ 256 * J.count) (hroom : 2 + liveWords (J.slots.set i ⟨true, true, b, a, c⟩) ≤ 256 * J.count) :
    Calls Tryd.prog 41 #[ptr j, .int .u8 i, groupV true true a b.length c] w fun e w' =>
      e = .returned (.int .i64 (J.set F i ⟨true, true, b, a, c⟩).1) ∧ FlashAt w' f s (J.set F i ⟨true, true, b, a, c⟩).2.1 ∧ JnAt w' j f s (J.set F i ⟨true, true, b, a, c⟩).2.2 ∧ Touch [f, s, j] w w' := by
  have hfew := h.few
  have hjl : j < w.heap.size := h.own.lt (by rw [Jn.cells_length]; omega)
  have hfl := hF.flt
  have hsl := hF.slt
  have hjf : j ≠ f := h.apart.1
  have hjs : j ≠ s := h.apart.2
  have hfs : f ≠ s := hF.apart
  have hT : Touch [f, s, j] w (w.alloc (.cells #[.bool true, .bool true, .slice a b.length c] 78)) := (Touch.refl _ _).alloc _
  have hJ := h.to (Touch.one w (.cells #[.bool true, .bool true, .slice a b.length c] 78))
  have hFA := hF.to (Touch.one w (.cells #[.bool true, .bool true, .slice a b.length c] 78))
  have hG := OwnAt.new w #[.bool true, .bool true, .slice a b.length c] 78
  have hSa := hx.1.to (Touch.one w (.cells #[.bool true, .bool true, .slice a b.length c] 78))
  have c1 := hJ.cutCell.1
  rw [hc] at c1
  have c0' : (w.alloc (.cells #[.bool true, .bool true, .slice a b.length c] 78)).cell? ⟨j, 0, none⟩ = some (ptr f) := hJ.own.get 0 (by rw [Jn.cells_length]; omega)
  obtain ⟨old, hold⟩ : ∃ x, J.slots[i]? = some x := ⟨_, List.getElem?_eq_getElem (by rw [h.sixteen]; exact hi)⟩
  have hi' : (i : Int) < 16 := by omega
  go_enter Tryd.func41, Tryd.ntmps41
  go_wp2_with fail
  refine (flash_off _ f s F hFA).mono ?_
  rintro e w1 ⟨rfl, rfl⟩
  rw [ho]
  have t2 := Touch.refl [] (w.alloc (.cells #[.bool true, .bool true, .slice a b.length c] 78))
  have hz2 : w.heap.size + 1 ≤ (w.alloc (.cells #[.bool true, .bool true, .slice a b.length c] 78)).heap.size := by simp
  generalize w.alloc (.cells #[.bool true, .bool true, .slice a b.length c] 78) = w2 at *
  have g0 : w2.cell? ⟨w.heap.size, 0, none⟩ = some (.bool true) := hG.get 0 (by simp)
  have g1 : w2.cell? ⟨w.heap.size, 1, none⟩ = some (.bool true) := hG.get 1 (by simp)
  have hor := hJ.slotRange hold
  rw [Nat.mul_comm] at hor
  have hth := (OwnAt.new w2 (old.cells.toArray) 78).there (i := 0) (n := 3) (by simp [Slot.cells])
  go_wp2_with (refine wp_load_group (y := old) ?_ rfl rfl rfl ?_; (with_reducible exact hor))
  have hold' : J.slots.getD i ⟨true, true, b, a, c⟩ = old := by rw [List.getD_eq_getElem?_getD, hold]; rfl
  -- the world in which the group is stored
  have tO := Touch.one w2 (.cells #[.bool old.there, .bool old.marked, .slice old.a old.b.length old.cap] 78)
  have hO := OwnAt.new w2 #[.bool old.there, .bool old.marked, .slice old.a old.b.length old.cap] 78
  clear c1 c0' g0 g1
  replace hJ := hJ.to tO
  replace hFA := hFA.to tO
  replace hG := hG.to tO
  replace hSa := hSa.to tO
  replace hT := hT.to tO
  refine wp_region_by [⟨false, [0, 1, 3, 4], none⟩, ⟨true, [2, 5], some 6⟩] (by kernel_rfl) (by kernel_rfl) ?_
  refine by_row ?_ (fun w' => ?_) ?_ ?_
  rotate_left
  · simp only [pick, nthOp]; go_wp2_with fail; refine And.intro ?_ ?_ <;> rfl
  · kernel_rfl
  have hGr := hG.drew.slot
  have hJth : (w2.alloc (.cells #[.bool old.there, .bool old.marked, .slice old.a old.b.length old.cap] 78)).drew.there j (8 + i * 3) 3 := by
    have := hJ.own.drew.there (i := 8 + i * 3) (n := 3) (by rw [Jn.cells_length, h.sixteen]; omega)
    rwa [Nat.zero_add] at this
  refine by_here ?_ ?_ ?_ ?_
  rotate_left
  · simp only [pick, nthOp]; go_wp2_with (refine wp_load_group (y := ⟨true, true, b, a, c⟩) ?_ rfl rfl rfl ?_; (with_reducible exact hGr)); refine And.intro ?_ ?_ <;> rfl
  · kernel_rfl
  simp only [pick, nthOp]
  go_wp2_with (refine wp_store_group (y := ⟨true, true, b, a, c⟩) (b := j) (o := 8 + i * 3) ?_ rfl rfl rfl rfl ?_; (with_reducible exact hJth))
  refine by_onward ?_
  have hJ1 := (hJ.to (Touch.dr _)).setSlot i hi ⟨true, true, b, a, c⟩ ⟨hSa.drew, hx.2⟩
  rw [Nat.mul_comm 3 i] at hJ1
  have tW := Touch.drCells (w2.alloc (.cells #[.bool old.there, .bool old.marked, .slice old.a old.b.length old.cap] 78)) j (8 + i * 3) (Slot.cells ⟨true, true, b, a, c⟩)
  replace hSa := hSa.to tW (fun x hx' => by simpa using (hx.2.2.2 x hx').1)
  replace hFA := hFA.to tW
  replace hG := hG.to tW
  replace hO := hO.to tW
  replace hT := hT.to tW
  clear hGr hJth hJ hth hor
  obtain ⟨J1, hJ1e⟩ : ∃ J1 : Jn, J1 = { J with slots := J.slots.set i ⟨true, true, b, a, c⟩ } := ⟨_, rfl⟩
  rw [← hJ1e] at hJ1
  have e1 : J1.first = J.first ∧ J1.other = J.other ∧ J1.count = J.count ∧ J1.next = J.next := by rw [hJ1e]; exact ⟨rfl, rfl, rfl, rfl⟩
  have e2 : J1.slots = J.slots.set i ⟨true, true, b, a, c⟩ := by rw [hJ1e]
  have HJE := Lib.hid hJ1e
  have HE2 := Lib.hid e2
  clear e2
  clear hJ1e
  have hg1 := hG.slot
  go_wp2_with (refine wp_load_group (y := ⟨true, true, b, a, c⟩) ?_ rfl rfl rfl ?_; (with_reducible exact hg1))
  refine (recordOf_marked _ i true a b.length c (by omega) hx.2.1).mono ?_
  rintro e w3 ⟨rfl, t3⟩
  replace hJ1 := hJ1.to t3
  replace hFA := hFA.to t3
  replace hG := hG.to t3
  replace hO := hO.to t3
  replace hSa := hSa.to t3
  replace hT := hT.to t3
  have hz3 : w2.heap.size < w3.heap.size := hO.lt (by simp)
  have tR := Touch.one w3 (.cells #[u8v (headOf i 2 0).a, u8v (headOf i 2 0).b, u8v (headOf i 2 0).c, u8v (headOf i 2 0).d, .slice none 0 0] 98)
  have hR := OwnAt.new w3 #[u8v (headOf i 2 0).a, u8v (headOf i 2 0).b, u8v (headOf i 2 0).c, u8v (headOf i 2 0).d, .slice none 0 0] 98
  replace hJ1 := hJ1.to tR
  replace hFA := hFA.to tR
  replace hG := hG.to tR
  replace hO := hO.to tR
  replace hSa := hSa.to tR
  replace hT := hT.to tR
  obtain ⟨rw_, hrw⟩ : ∃ l, l = recWords (headOf i 2 0) [] := ⟨_, rfl⟩
  have hrl : rw_.length = 2 + (0 + 3) / 4 := by rw [hrw, recWords_length]; rfl
  have hrw' : Slot.words i ⟨true, true, b, a, c⟩ = rw_ := hrw.symm
  have hlen := fun W => rec_length W (headOf i 2 0) none 0 0 (by omega)
  have hwr := fun W hF1 hq => half_write W f s F J.first J.count J.next (headOf i 2 0) none 0 [] hF1 ho hh (by simp) hq (.nil _ _) (by simp)
  simp only [← hrw, List.length_nil] at hwr
  obtain ⟨n, hn⟩ : ∃ n, n = 2 + (0 + 3) / 4 := ⟨_, rfl⟩
  have hn2 : n ≤ 1100 := by omega
  simp only [← hn] at hlen hwr
  rw [← hn] at hrl
  have HW := Lib.hid hrw'
  have HRW := Lib.hid hrw
  have HRL := Lib.hid hrl
  have HN := Lib.hid hn
  have HE1 := Lib.hid e1
  clear hrw hrw' hrl hn e1
  go_wp2_with fail
  generalize w3.alloc (.cells #[u8v (headOf i 2 0).a, u8v (headOf i 2 0).b, u8v (headOf i 2 0).c, u8v (headOf i 2 0).d, .slice none 0 0] 98) = W at *
  refine wp_region_legs (fun w' => JnAt w' j f s J1 ∧ OwnAt w' w3.heap.size 0 (recCells (headOf i 2 0) none 0 0)) [⟨[0, 1, 2, 3, 4, 7, 8, 9, 10], some 5⟩, ⟨[6], some 11⟩, ⟨[12], none⟩] (by kernel_rfl) (by kernel_rfl) ?_
  have e1 := HE1.out
  have tD := Touch.dr W
  replace hJ1 := hJ1.to tD
  replace hR := hR.to tD
  replace hG := hG.to tD
  replace hO := hO.to tD
  replace hFA := hFA.to tD
  replace hSa := hSa.to tD
  replace hT := hT.to tD
  by_cases hfit : J.next + n ≤ 256 * J.count
  · have hnI : (J.next : Int) + (n : Int) ≤ 8192 := by omega
    have hfI : decide ((J.next : Int) + (n : Int) ≤ ((256 * J.count : Nat) : Int)) = decide (J.next + n ≤ 256 * J.count) := by rw [decide_eq_decide]; omega
    refine legs_onS ?_ ⟨hJ1, hR⟩ (fun w' hSw => ?_) ?_ ?_
    rotate_left
    · obtain ⟨hj', hr'⟩ := hSw
      have k7 := hj'.c7
      have k0 := hj'.half0
      have kr := hr'.all
      rw [HE1.out.2.2.2] at k7
      rw [HE1.out.1, HE1.out.2.2.1] at k0
      simp only [pick, nthOp]
      go_wp2_with (first | (refine wp_load_half (f := f) (first := J.first) (count := J.count) ?_ rfl rfl rfl ?_; (with_reducible exact k0)) | (refine wp_load_rec (y := headOf i 2 0) (A := none) (n := 0) (c := 0) ?_ rfl rfl rfl ?_; (with_reducible exact kr)))
      refine And.intro ?_ ?_ <;> rfl
    · kernel_rfl
    simp only [pick, nthOp]
    go_wp2_with fail
    refine (hlen _).mono ?_
    rintro e w4 ⟨rfl, t4⟩
    replace hJ1 := hJ1.to t4
    replace hR := hR.to t4
    replace hG := hG.to t4
    replace hO := hO.to t4
    replace hFA := hFA.to t4
    replace hSa := hSa.to t4
    replace hT := hT.to t4
    go_wp2_with fail
    refine legs_nextS ⟨hJ1, hR⟩ ?_
    refine legs_onS ?_ ⟨hJ1, hR⟩ (fun w' hSw => ?_) ?_ ?_
    rotate_left
    · simp only [pick, nthOp]; go_wp2_with fail; refine And.intro ?_ ?_ <;> rfl
    · kernel_rfl
    simp only [pick, nthOp]
    go_wp2_with fail
    refine (half_size _ f J.first J.count (by omega)).mono ?_
    rintro e w5 ⟨rfl, t5⟩
    replace hJ1 := hJ1.to t5
    replace hR := hR.to t5
    replace hG := hG.to t5
    replace hO := hO.to t5
    replace hFA := hFA.to t5
    replace hSa := hSa.to t5
    replace hT := hT.to t5
    go_wp2_with fail
    refine legs_nextS ⟨hJ1, hR⟩ ?_
    refine legs_rowS ?_ ⟨hJ1, hR⟩ (fun w' hSw => ?_) ?_ ?_
    rotate_left
    · simp only [pick, nthOp]; go_wp2_with fail; refine And.intro ?_ ?_ <;> rfl
    · kernel_rfl
    refine legs_endS ?_
    clear hfI
    go_wp2_with fail
    refine wp_region_legs (fun w' => JnAt w' j f s J1 ∧ OwnAt w' w3.heap.size 0 (recCells (headOf i 2 0) none 0 0)) [⟨[0, 1, 2, 3, 4, 5, 6, 7, 8], some 9⟩, ⟨[10], none⟩] (by kernel_rfl) (by kernel_rfl) ?_
    have tD := Touch.dr w5
    replace hJ1 := hJ1.to tD
    replace hR := hR.to tD
    replace hG := hG.to tD
    replace hO := hO.to tD
    replace hFA := hFA.to tD
    replace hSa := hSa.to tD
    replace hT := hT.to tD
    refine legs_onS ?_ ⟨hJ1, hR⟩ (fun w' hSw => ?_) ?_ ?_
    rotate_left
    · obtain ⟨hj', hr'⟩ := hSw
      have k7 := hj'.c7
      have k0 := hj'.half0
      have kr := hr'.all
      rw [HE1.out.2.2.2] at k7
      rw [HE1.out.1, HE1.out.2.2.1] at k0
      simp only [pick, nthOp]
      go_wp2_with (first | (refine wp_load_half (f := f) (first := J.first) (count := J.count) ?_ rfl rfl rfl ?_; (with_reducible exact k0)) | (refine wp_load_rec (y := headOf i 2 0) (A := none) (n := 0) (c := 0) ?_ rfl rfl rfl ?_; (with_reducible exact kr)))
      refine And.intro ?_ ?_ <;> rfl
    · kernel_rfl
    simp only [pick, nthOp]
    go_wp2_with fail
    refine (hwr _ hFA hfit).mono ?_
    rintro e w6 ⟨rfl, hF6, t6⟩
    clear hFA
    replace hJ1 := hJ1.to t6
    replace hR := hR.to t6
    replace hG := hG.to t6
    replace hO := hO.to t6
    replace hT := hT.to t6
    go_wp2_with fail
    refine legs_nextS ⟨hJ1, hR⟩ ?_
    refine legs_rowS ?_ ⟨hJ1, hR⟩ (fun w' hSw => ?_) ?_ ?_
    rotate_left
    · simp only [pick, nthOp]; go_wp2_with fail; refine And.intro ?_ ?_ <;> rfl
    · kernel_rfl
    refine legs_endS ?_
    go_wp2_with fail
    refine wp_region_legsU (fun w' => JnAt w' j f s J1 ∧ OwnAt w' w3.heap.size 0 (recCells (headOf i 2 0) none 0 0)) 9 [⟨[0, 1, 2, 3, 4], some 5⟩, ⟨[6], some 7⟩, ⟨[], some 8⟩, ⟨[], some 9⟩] (by kernel_rfl) (by kernel_rfl) ?_
    have tD6 := Touch.dr w6
    have hFA := hF6
    replace hJ1 := hJ1.to tD6
    replace hR := hR.to tD6
    replace hG := hG.to tD6
    replace hO := hO.to tD6
    replace hFA := hFA.to tD6
    replace hT := hT.to tD6
    refine legsU_on ?_ ⟨hJ1, hR⟩ (fun w' hSw => ?_) ?_ ?_
    rotate_left
    · obtain ⟨hj', hr'⟩ := hSw
      have k7 := hj'.c7
      have k0 := hj'.half0
      have kr := hr'.all
      rw [HE1.out.2.2.2] at k7
      rw [HE1.out.1, HE1.out.2.2.1] at k0
      simp only [pick, nthOp]
      go_wp2_with (refine wp_load_rec (y := headOf i 2 0) (A := none) (n := 0) (c := 0) ?_ rfl rfl rfl ?_; (with_reducible exact kr))
      refine And.intro ?_ ?_ <;> rfl
    · kernel_rfl
    simp only [pick, nthOp]
    go_wp2_with fail
    refine (hlen _).mono ?_
    rintro e w7 ⟨rfl, t7⟩
    replace hJ1 := hJ1.to t7
    replace hR := hR.to t7
    replace hG := hG.to t7
    replace hO := hO.to t7
    replace hFA := hFA.to t7
    replace hT := hT.to t7
    go_wp2_with fail
    refine legsU_next ⟨hJ1, hR⟩ ?_
    refine legsU_on ?_ ⟨hJ1, hR⟩ (fun w' hSw => ?_) ?_ ?_
    rotate_left
    · simp only [pick, nthOp]; go_wp2_with fail; refine And.intro ?_ ?_ <;> rfl
    · kernel_rfl
    simp only [pick, nthOp]
    go_wp2_with fail
    refine legsU_next ⟨hJ1, hR⟩ ?_
    refine legsU_on ?_ ⟨hJ1, hR⟩ (fun w' hSw => ?_) ?_ ?_
    rotate_left
    · simp only [pick, nthOp]; go_wp2_with fail; refine And.intro ?_ ?_ <;> rfl
    · kernel_rfl
    simp only [pick, nthOp]
    go_wp2_with fail
    refine legsU_next ⟨hJ1, hR⟩ ?_
    refine legsU_on ?_ ⟨hJ1, hR⟩ (fun w' hSw => ?_) ?_ ?_
    rotate_left
    · simp only [pick, nthOp]; go_wp2_with fail; refine And.intro ?_ ?_ <;> rfl
    · kernel_rfl
    simp only [pick, nthOp]
    have k7 := hJ1.c7
    have f7 := hJ1.fz 7 (by omega)
    have tn : Touch [j] w7 (w7.setCell ⟨j, 7, none⟩ (.int .i64 ((J.next : Int) + (n : Int)))) := Touch.cell1 w7 j 7 _
    have hJn := hJ1.setNext (J.next + n)
    rw [Int.natCast_add] at hJn
    clear hJ1
    replace hR := hR.to tn
    replace hG := hG.to tn
    replace hO := hO.to tn
    replace hFA := hFA.to tn
    replace hT := hT.to tn
    go_wp2_with fail
    refine legsU_last ?_
    have hset := Jn.set_fit (x := ⟨true, true, b, a, c⟩) hc ho (fun h => by simp [Slot.live] at h) (by rw [HW.out, HRL.out]; exact hfit)
    rw [HW.out, HRL.out] at hset
    have HS := Lib.hid hset
    clear hset
    have HU := Lib.hid HJE.out
    generalize F.writes (256 * J.first + J.next) rw_ = r at *
    obtain ⟨er, Fr⟩ := r
    by_cases he : er = 0
    · subst he
      have hfin := HS.out
      simp only [if_true] at hfin
      rw [HJE.out] at hJn
      have HF := Lib.hid hfin
      clear hfin
      go_wp2_with fail
      go_ret
      rw [HF.out]
      exact ⟨rfl, hFA, hJn, hT⟩
    · have hfin := HS.out
      simp only [if_neg he] at hfin
      have HF := Lib.hid hfin
      have hne : (er != 0) = true := bne_iff_ne.2 he
      rw [HJE.out] at hJn
      clear hfin he
      have hJ1 := hJn
      clear hJn
      go_wp2_with fail
      refine wp_region_legs (fun w' => OwnAt w' w2.heap.size 0 [.bool old.there, .bool old.marked, .slice old.a old.b.length old.cap]) [⟨[0, 1, 2, 3, 4, 5, 7, 8], some 6⟩, ⟨[9], some 10⟩] (by kernel_rfl) (by kernel_rfl) ?_
      refine legs_onS ?_ hO.drew (fun w' hSw => ?_) ?_ ?_
      rotate_left
      · have ko := hSw.slot
        simp only [pick, nthOp]
        go_wp2_with (refine wp_load_group (y := old) ?_ rfl rfl rfl ?_; (with_reducible exact ko))
        refine And.intro ?_ ?_ <;> rfl
      · kernel_rfl
      simp only [pick, nthOp]
      have hJc := (hJ1.to (Touch.dr _)).cutCell
      have hJ2 := hJ1.setCut.to (Touch.dr _)
      have tc := (Touch.cell1 (w7.setCell ⟨j, 7, none⟩ (.int .i64 ((J.next : Int) + (n : Int)))) j 56 (.bool true))
      have td := Touch.dr ((w7.setCell ⟨j, 7, none⟩ (.int .i64 ((J.next : Int) + (n : Int)))).setCell ⟨j, 56, none⟩ (.bool true))
      have hO2 := (hO.to tc).to td
      have hT2 := (hT.to tc).to td
      have hFA2 := (hFA.to tc).to td
      have hc1 := hJc.1
      have hc2 := hJc.2
      go_wp2_with fail
      refine legs_nextS hO2 ?_
      refine legs_onS ?_ hO2 (fun w' hSw => ?_) ?_ ?_
      rotate_left
      · simp only [pick, nthOp]; go_wp2_with fail; refine And.intro ?_ ?_ <;> rfl
      · kernel_rfl
      simp only [pick, nthOp]
      have hJth : ((w7.setCell ⟨j, 7, none⟩ (.int .i64 ((J.next : Int) + (n : Int)))).setCell ⟨j, 56, none⟩ (.bool true)).drew.there j (8 + i * 3) 3 := by
        have := hJ2.own.there (i := 8 + i * 3) (n := 3) (by rw [Jn.cells_length, hJ2.sixteen]; omega)
        rwa [Nat.zero_add] at this
      have hos := h.slots old (List.mem_of_getElem? hold)
      have hJ3 := hJ2.setSlot i hi old ⟨hos.1.touch hT2 (fun y hy => by have := hos.2.2.2 y hy; simp; omega), hos.2⟩
      have hT3 := hT2.to (Touch.cells _ j (8 + 3 * i) old.cells)
      have hF3 := hFA2.to (Touch.cells _ j (8 + 3 * i) old.cells)
      rw [Nat.mul_comm 3 i] at hJ3 hT3 hF3
      clear hc1 hc2 hJc
      go_wp2_with (refine wp_store_group (y := old) (b := j) (o := 8 + i * 3) ?_ rfl rfl rfl rfl ?_; (with_reducible exact hJth))
      refine legs_nextS ?_ (legs_endS ?_)
      · exact hO2.to (Touch.cells _ j (8 + i * 3) old.cells)
      go_wp2_with fail
      go_ret
      rw [HF.out, hold']
      exact ⟨rfl, hF3, hJ3, hT3⟩
  · have hnI : (J.next : Int) + (n : Int) ≤ 10000 := by omega
    have hfI : decide ((J.next : Int) + (n : Int) ≤ ((256 * J.count : Nat) : Int)) = decide (J.next + n ≤ 256 * J.count) := by rw [decide_eq_decide]; omega
    refine legs_onS ?_ ⟨hJ1, hR⟩ (fun w' hSw => ?_) ?_ ?_
    rotate_left
    · obtain ⟨hj', hr'⟩ := hSw
      have k7 := hj'.c7
      have k0 := hj'.half0
      have kr := hr'.all
      rw [HE1.out.2.2.2] at k7
      rw [HE1.out.1, HE1.out.2.2.1] at k0
      simp only [pick, nthOp]
      go_wp2_with (first | (refine wp_load_half (f := f) (first := J.first) (count := J.count) ?_ rfl rfl rfl ?_; (with_reducible exact k0)) | (refine wp_load_rec (y := headOf i 2 0) (A := none) (n := 0) (c := 0) ?_ rfl rfl rfl ?_; (with_reducible exact kr)))
      refine And.intro ?_ ?_ <;> rfl
    · kernel_rfl
    simp only [pick, nthOp]
    go_wp2_with fail
    refine (hlen _).mono ?_
    rintro e w4 ⟨rfl, t4⟩
    replace hJ1 := hJ1.to t4
    replace hR := hR.to t4
    replace hG := hG.to t4
    replace hO := hO.to t4
    replace hFA := hFA.to t4
    replace hSa := hSa.to t4
    replace hT := hT.to t4
    go_wp2_with fail
    refine legs_nextS ⟨hJ1, hR⟩ ?_
    refine legs_onS ?_ ⟨hJ1, hR⟩ (fun w' hSw => ?_) ?_ ?_
    rotate_left
    · simp only [pick, nthOp]; go_wp2_with fail; refine And.intro ?_ ?_ <;> rfl
    · kernel_rfl
    simp only [pick, nthOp]
    go_wp2_with fail
    refine (half_size _ f J.first J.count (by omega)).mono ?_
    rintro e w5 ⟨rfl, t5⟩
    replace hJ1 := hJ1.to t5
    replace hR := hR.to t5
    replace hG := hG.to t5
    replace hO := hO.to t5
    replace hFA := hFA.to t5
    replace hSa := hSa.to t5
    replace hT := hT.to t5
    go_wp2_with fail
    refine legs_nextS ⟨hJ1, hR⟩ ?_
    refine legs_rowS ?_ ⟨hJ1, hR⟩ (fun w' hSw => ?_) ?_ ?_
    rotate_left
    · simp only [pick, nthOp]; go_wp2_with fail; refine And.intro ?_ ?_ <;> rfl
    · kernel_rfl
    refine legs_endS ?_
    clear hfI
    have hturn := turn_any w5 j f s J1 F hJ1 hFA ho (by rw [HE1.out.2.1, HE1.out.2.2.1]; exact hot) (by rw [HE1.out.2.2.1]; exact hp) (by rw [HE1.out.2.2.1, HE2.out]; exact hroom)
    go_wp2_with fail
    refine hturn.mono ?_
    rintro e w6 ⟨rfl, hF6, hJ6, t6⟩
    clear hturn hFA hJ1
    replace hG := hG.to t6
    replace hO := hO.to t6
    replace hT := hT.to t6
    have hset := Jn.set_turn (x := ⟨true, true, b, a, c⟩) HJE.out hc ho (fun h => by simp [Slot.live] at h) (by rw [HW.out, HRL.out]; exact hfit)
    generalize hr : J1.turn F = r at *
    obtain ⟨er, Fr, Jr⟩ := r
    simp only at hF6 hJ6
    have HS := Lib.hid hset
    clear hset hr
    by_cases he : er = 0
    · subst he
      have hfin := HS.out
      simp only [if_true] at hfin
      have HF := Lib.hid hfin
      clear hfin
      go_wp2_with fail
      go_ret
      rw [HF.out]
      exact ⟨rfl, hF6, hJ6, hT⟩
    · have hfin := HS.out
      simp only [if_neg he] at hfin
      have HF := Lib.hid hfin
      have hne : (er != 0) = true := bne_iff_ne.2 he
      clear hfin he
      go_wp2_with fail
      have hJ1 := hJ6
      have hFA := hF6
      clear hJ6 hF6
      refine wp_region_legs (fun w' => OwnAt w' w2.heap.size 0 [.bool old.there, .bool old.marked, .slice old.a old.b.length old.cap]) [⟨[0, 1, 2, 3, 4, 5, 7, 8], some 6⟩, ⟨[9], some 10⟩] (by kernel_rfl) (by kernel_rfl) ?_
      refine legs_onS ?_ hO.drew (fun w' hSw => ?_) ?_ ?_
      rotate_left
      · have ko := hSw.slot
        simp only [pick, nthOp]
        go_wp2_with (refine wp_load_group (y := old) ?_ rfl rfl rfl ?_; (with_reducible exact ko))
        refine And.intro ?_ ?_ <;> rfl
      · kernel_rfl
      simp only [pick, nthOp]
      have hJc := (hJ1.to (Touch.dr _)).cutCell
      have hJ2 := hJ1.setCut.to (Touch.dr _)
      have tc := (Touch.cell1 w6 j 56 (.bool true))
      have td := Touch.dr (w6.setCell ⟨j, 56, none⟩ (.bool true))
      have hO2 := (hO.to tc).to td
      have hT2 := (hT.to tc).to td
      have hFA2 := (hFA.to tc).to td
      have hc1 := hJc.1
      have hc2 := hJc.2
      go_wp2_with fail
      refine legs_nextS hO2 ?_
      refine legs_onS ?_ hO2 (fun w' hSw => ?_) ?_ ?_
      rotate_left
      · simp only [pick, nthOp]; go_wp2_with fail; refine And.intro ?_ ?_ <;> rfl
      · kernel_rfl
      simp only [pick, nthOp]
      have hJth : (w6.setCell ⟨j, 56, none⟩ (.bool true)).drew.there j (8 + i * 3) 3 := by
        have := hJ2.own.there (i := 8 + i * 3) (n := 3) (by rw [Jn.cells_length, hJ2.sixteen]; omega)
        rwa [Nat.zero_add] at this
      have hos := h.slots old (List.mem_of_getElem? hold)
      have hJ3 := hJ2.setSlot i hi old ⟨hos.1.touch hT2 (fun y hy => by have := hos.2.2.2 y hy; simp; omega), hos.2⟩
      have hT3 := hT2.to (Touch.cells _ j (8 + 3 * i) old.cells)
      have hF3 := hFA2.to (Touch.cells _ j (8 + 3 * i) old.cells)
      rw [Nat.mul_comm 3 i] at hJ3 hT3 hF3
      clear hc1 hc2 hJc
      go_wp2_with (refine wp_store_group (y := old) (b := j) (o := 8 + i * 3) ?_ rfl rfl rfl rfl ?_; (with_reducible exact hJth))
      refine legs_nextS ?_ (legs_endS ?_)
      · exact hO2.to (Touch.cells _ j (8 + i * 3) old.cells)
      go_wp2_with fail
      go_ret
      rw [HF.out, hold']
      exact ⟨rfl, hF3, hJ3, hT3⟩
end Go.Proofs.YtdfgcenbkclpbaaDoor
namespace Go.Proofs.YtdfgcenbkclpbaaDoor
open Go.RowKit
set_option linter.unusedSimpArgs false
set_option linter.unusedVariables false
theorem liveWords_append (l m : List Slot) : liveWords (l ++ m) = liveWords l + liveWords m := by
  induction l with
  | nil => simp [liveWords]
  | cons x l ih => rw [List.cons_append, liveWords, liveWords, ih]; omega
theorem liveWords_set_dead {x : Slot} (hx : x.live = false) : ∀ (l : List Slot) (i : Nat), liveWords (l.set i x) ≤ liveWords l
  | [], _ => by simp
  | y :: l, 0 => by rw [List.set_cons_zero, liveWords, liveWords, hx]; simp
  | y :: l, i + 1 => by rw [List.set_cons_succ, liveWords, liveWords]; have := liveWords_set_dead hx l i; omega
theorem live_words_room (n : Nat) : 4 * (2 + (n + 3) / 4) ≤ room n := by unfold room; omega
theorem liveWords_one (y : Slot) : liveWords [y] = if y.live then 2 + (y.b.length + 3) / 4 else 0 := by simp [liveWords]
theorem live_le_room (y : Slot) : 4 * (if y.live then 2 + (y.b.length + 3) / 4 else 0) ≤ (if y.live then room y.b.length else 0) := by
  have := live_words_room y.b.length
  cases y.live <;> simp; omega
theorem usedUpto_succ {l : List Slot} {i k : Nat} (hk : k < l.length) : usedUpto l i (k + 1) = usedUpto l i k + (if (l[k]).counts k i then room (l[k]).b.length else 0) := by
  rw [usedUpto, List.getElem?_eq_getElem hk]
theorem liveWords_used {x : Slot} {i : Nat} (l : List Slot) : ∀ k, k ≤ l.length → 4 * liveWords ((l.set i x).take k) ≤ usedUpto l i k + (if i < k then room x.b.length else 0)
  | 0, _ => by simp [liveWords]
  | k + 1, hk => by
    have ih := liveWords_used (x := x) (i := i) l k (by omega)
    have hk' : k < l.length := by omega
    have hkl : k < (l.set i x).length := by rw [List.length_set]; omega
    rw [List.take_succ_eq_append_getElem hkl, liveWords_append, usedUpto_succ hk', liveWords_one, List.getElem_set]
    by_cases e : i = k
    · subst e
      have h1 := live_le_room x
      have h2 : (if x.live = true then room x.b.length else 0) ≤ room x.b.length := by split <;> omega
      have h3 : (if i < i then room x.b.length else 0) = 0 := if_neg (Nat.lt_irrefl _)
      have h4 : (if i < i + 1 then room x.b.length else 0) = room x.b.length := if_pos (by omega)
      rw [h3] at ih
      rw [h4, if_pos rfl]
      omega
    · have h1 : (if i < k + 1 then room x.b.length else 0) = (if i < k then room x.b.length else 0) := by
        by_cases h : i < k
        · rw [if_pos h, if_pos (by omega)]
        · rw [if_neg h, if_neg (by omega)]
      have h2 : (l[k]).counts k i = (l[k]).live := by
        unfold Slot.counts Slot.live
        rw [show (k != i) = true from bne_iff_ne.2 (fun h => e h.symm), Bool.true_and]
      have h3 := live_le_room l[k]
      rw [h1, h2, if_neg e]
      omega
theorem liveWords_fits {J : Jn} {i : Nat} {x : Slot} (hs : J.slots.length = 16) (hi : i < 16) (hf : J.fits i x.b.length = true) : 2 + liveWords (J.slots.set i x) ≤ 256 * J.count := by
  have h := liveWords_used (x := x) (i := i) J.slots 16 (by omega)
  rw [List.take_of_length_le (by simp; omega), if_pos hi] at h
  unfold Jn.fits at hf
  simp only [decide_eq_true_eq] at hf
  omega
/-- what a journal keeps -/
structure Jn.Ok (J : Jn) (F : Fl) : Prop where
  first : J.first + J.count ≤ F.count
  other : J.other + J.count ≤ F.count
  pos : 0 < J.count
  next : J.next ≤ 256 * J.count
  room : 2 + liveWords J.slots ≤ 256 * J.count
theorem liveWords_set {J : Jn} {F : Fl} {i : Nat} {x : Slot} (h : J.Ok F) (hs : J.slots.length = 16) (hi : i < 16) (hf : x.live = true → J.fits i x.b.length = true) : 2 + liveWords (J.slots.set i x) ≤ 256 * J.count := by
  by_cases hx : x.live = true
  · exact liveWords_fits hs hi (hf hx)
  · have := liveWords_set_dead (by simpa using hx) J.slots i
    have := h.room
    omega
theorem set_any (w : World) (j f s : Nat) (J : Jn) (F : Fl) (i : Nat) (m : Bool) (b : List UInt8) (a : Option Addr) (c : Nat) (h : JnAt w j f s J) (hF : FlashAt w f s F) (hi : i < 16) (ho : J.cut = false → F.off = false)
    (hx : SliceAt w a (b.map u8v) ∧ b.length ≤ 4096 ∧ (a = none → b.length = 0 ∧ c = 0) ∧ ∀ y, a = some y → y.block ≠ j ∧ y.block ≠ f ∧ y.block ≠ s) (hk : J.Ok F) :
    Calls Tryd.prog 41 #[ptr j, .int .u8 i, groupV true m a b.length c] w fun e w' =>
      e = .returned (.int .i64 (J.set F i ⟨true, m, b, a, c⟩).1) ∧ FlashAt w' f s (J.set F i ⟨true, m, b, a, c⟩).2.1 ∧ JnAt w' j f s (J.set F i ⟨true, m, b, a, c⟩).2.2 ∧ Touch [f, s, j] w w' := by
  cases hc : J.cut with
  | true =>
    refine (set_cut w j f s J F i ⟨true, m, b, a, c⟩ h hF hi hc).mono ?_
    rintro e w1 ⟨rfl, h1, h2⟩
    have e1 : J.set F i ⟨true, m, b, a, c⟩ = (7, F, { J with cut := true }) := by unfold Jn.set; rw [if_pos (by simp [hc])]
    rw [e1]
    exact ⟨rfl, hF.touch h2 (by simpa using fun e => h.apart.1 e.symm) (by simpa using fun e => h.apart.2 e.symm), h1, h2.mono (by simp)⟩
  | false =>
    have ho := ho hc
    cases m with
    | true => exact set_marked w j f s J F i b a c h hF hi hc ho hx hk.first hk.other hk.pos hk.next (liveWords_set hk h.sixteen hi (fun e => by simp [Slot.live] at e))
    | false =>
      cases hf : J.fits i b.length with
      | true => exact set_kept w j f s J F i b a c h hF hi hc ho hx hf hk.first hk.other hk.pos hk.next (liveWords_set hk h.sixteen hi (fun _ => hf))
      | false =>
        refine (set_full w j f s J F i ⟨true, false, b, a, c⟩ h hF hi hc ho hx.2.1 rfl hf).mono ?_
        rintro e w1 ⟨rfl, h2⟩
        have e1 : J.set F i ⟨true, false, b, a, c⟩ = (60, F, J) := by unfold Jn.set; rw [if_neg (by simp [hc, ho]), if_pos (by simp [Slot.live, hf])]
        rw [e1]
        exact ⟨rfl, hF.to h2, h.to h2, h2.mono (by simp)⟩
end Go.Proofs.YtdfgcenbkclpbaaDoor
