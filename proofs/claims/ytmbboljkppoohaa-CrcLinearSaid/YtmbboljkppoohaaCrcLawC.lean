/- The laws on the sum of 16 bits: CrcKnown, CrcLinear. -/
import Derived.Test.YtmbboljkppoohaaCrcLawA
import Derived.Test.YtmbboljkppoohaaPlan
import Derived.StillTailTactics
namespace Go.Proofs.Ytmbboljkppoohaa
open Go.RowKit
set_option linter.unusedSimpArgs false
set_option linter.unusedVariables false
theorem known1 : Crc.add 0#16 [1] = 4129#16 := by decide +kernel
theorem known2 : Crc.add 0#16 [255] = 7920#16 := by decide +kernel
theorem known3 : Crc.add 0#16 [0, 0, 0] = 0#16 := by decide +kernel
theorem known4 : Crc.add 0#16 [0, 1] = 4129#16 := by decide +kernel
theorem known5 : Crc.add 4129#16 [16, 33] = 0#16 := by decide +kernel
set_option maxHeartbeats 400000 in
theorem crcKnown_row (W : World) : Calls Try.prog 8 #[] W fun e w' => e = .returned (.bool true) ∧ Below W.heap.size W w' := by
  go_enter Try.func8, Try.ntmps8
  go_wp2_with fail
  refine (sum_any _ _ [1] _ (by simp) (SliceAt.block (heap_alloc_new _ _))).mono ?_
  rintro e w1 ⟨rfl, hb1⟩
  rw [known1]
  go_wp2_with fail
  refine (sum_any _ _ [255] _ (by simp) (SliceAt.block (heap_alloc_new _ _))).mono ?_
  rintro e w2 ⟨rfl, hb2⟩
  rw [known2]
  go_wp2_with fail
  refine (add_any 65535#16 rfl _ _ [] _ (by simp) (SliceAt.nil _ _)).mono ?_
  rintro e w3 ⟨rfl, hb3⟩
  go_wp2_with fail
  refine (sum_any _ _ [0, 0, 0] _ (by simp) (SliceAt.block (heap_alloc_new _ _))).mono ?_
  rintro e w4 ⟨rfl, hb4⟩
  rw [known3]
  go_wp2_with fail
  refine (sum_any _ _ [0, 1] _ (by simp) (SliceAt.block (heap_alloc_new _ _))).mono ?_
  rintro e w5 ⟨rfl, hb5⟩
  rw [known4]
  go_wp2_with fail
  refine (add_any 4129#16 rfl _ _ [16, 33] _ (by simp) (SliceAt.block (heap_alloc_new _ _))).mono ?_
  rintro e w6 ⟨rfl, hb6⟩
  rw [known5]
  go_wp2_with fail
  refine (works_any _).mono ?_
  rintro e w7 ⟨rfl, hb7⟩
  go_wp2_with fail
  go_ret
  refine ⟨rfl, ?_⟩
  have z1 := hb1.size
  have z2 := hb2.size
  have z3 := hb3.size
  have z4 := hb4.size
  have z5 := hb5.size
  have z6 := hb6.size
  simp at z1 z2 z3 z4 z5 z6
  have b1 := (((Below.refl W.heap.size W).alloc (Nat.le_refl _) _).trans (hb1.mono (by simp)))
  have b2 := ((b1.alloc (by omega) _).trans (hb2.mono (by simp; omega))).trans (hb3.mono (by omega))
  have b4 := (b2.alloc (by omega) _).trans (hb4.mono (by simp; omega))
  have b5 := (b4.alloc (by omega) _).trans (hb5.mono (by simp; omega))
  have b6 := (b5.alloc (by omega) _).trans (hb6.mono (by simp; omega))
  exact b6.trans (hb7.mono (by omega))

theorem linear_walk (s t : BitVec 16) (A B : Option Addr) (c d : Nat) (l r : List UInt8) (w : World) (hl : l.length ≤ 9223372036854775807) (hr : r.length ≤ 9223372036854775807) (hc : l.length ≤ c) (hd : r.length ≤ d)
    (hA : SliceAt w A (l.map u8v)) (hB : SliceAt w B (r.map u8v)) :
    Calls Try.prog 7 #[u16v s, u16v t, .slice A l.length c, .slice B r.length d] w fun e w' => e = .returned (.bool true) ∧ Below w.heap.size w w' := by
  obtain ⟨n, hn, hnl, hnr⟩ : ∃ n : Nat, (if r.length < l.length then (r.length : Int) else (l.length : Int)) = (n : Int) ∧ n ≤ l.length ∧ n ≤ r.length := ⟨min l.length r.length, by split <;> omega, by omega, by omega⟩
  by_cases h5 : 5000 < n
  · go_enter Try.func7, Try.ntmps7
    go_wp2_with fail
    refine (works_any _).mono ?_
    rintro e w1 ⟨rfl, hb⟩
    go_wp2_with fail
    go_ret
    exact ⟨rfl, hb⟩
  · have hmk := fun W => run_make_row' (P := Try.prog) 23 5 (.int .u8 0) 1 Try.underlying23 (by kernel_rfl) rfl .i64 .i64 n (by omega) (by omega) W
    go_enter Try.func7, Try.ntmps7
    go_wp2_with fail
    obtain ⟨vs, hvs⟩ : ∃ vs : List UInt8, vs = (List.range n).map fun i => (l.getD i 0) ^^^ (r.getD i 0) := ⟨_, rfl⟩
    have hvl : vs.length = n := by rw [hvs]; simp
    have HV := Lib.hid hvs
    clear hvs
    have hb0 : Below w.heap.size w (w.alloc (.cells (filled (vs.map u8v) 0 n (.int .u8 0)) 5)) := (Below.refl _ _).alloc (Nat.le_refl _) _
    rw [show madeCells #[Value.int .u8 0] n = filled (vs.map u8v) 0 n (.int .u8 0) from by rw [made_row, filled_zero]]
    go_loopw [11] (fun v wr => ∃ k : Nat, k ≤ n ∧ v = .int .i64 k ∧ wr.heap[w.heap.size]? = some (.cells (filled (vs.map u8v) k n (.int .u8 0)) 5 (0, 0)) ∧ Below w.heap.size w wr) (fun v _ => n - (intOf v).toNat)
    case atStart => exact ⟨0, by omega, rfl, heap_alloc_new _ _, hb0⟩
    case round =>
      obtain ⟨k, hk, rfl, hg, hb⟩ := hrel
      by_cases hlt : k < n
      · have hA' := hA.below hb
        have hB' := hB.below hb
        obtain ⟨b1, o1, rfl, hc1⟩ := hA'.at_ k (by simp; omega)
        obtain ⟨b2, o2, rfl, hc2⟩ := hB'.at_ k (by simp; omega)
        simp only [List.getElem_map, u8v] at hc1 hc2
        have hcell : wr.cell? ⟨w.heap.size, k, none⟩ = some (.int .u8 0) := by rw [cell_of_row _ _ _ _ _ _ hg]; exact filled_at hlt (by simpa using hvl)
        have hfro : wr.frozen? ⟨w.heap.size, k, none⟩ = false := frozen_of_row _ _ _ _ _ hg
        have hkl : (k : Int) < (l.length : Int) := by omega
        have hkr : (k : Int) < (r.length : Int) := by omega
        have hx : bits .xor .u8 (l[k].toNat : Int) (r[k].toNat : Int) = (vs[k].toNat : Int) := by
          have hv : vs[k] = l[k] ^^^ r[k] := by
            have h1 := HV.out
            subst h1
            simp [show k < l.length by omega, show k < r.length by omega]
          rw [hv, u8_xor_nat _ _ l[k].toNat_lt r[k].toNat_lt, UInt8.toNat_xor]
        generalize l[k].toNat = x at *
        generalize r[k].toNat = y at *
        go_wp2_with fail
        go_still_tail 12, (by kernel_rfl)
        change wpList _ _ _ _ _ wr.drew
        go_wp2
        go_roundw
        case rel =>
          refine ⟨k + 1, by omega, by go_num, ?_, (hb.setCell (Nat.le_refl _) _).drew⟩
          show (wr.setCell ⟨w.heap.size, k, none⟩ _).heap[w.heap.size]? = _
          rw [heap_setCell_same wr _ _ _ _ _ hg, ← filled_set hlt (by simpa using hvl)]
          simp
        case measure => simp [intOf]; omega
      · have : k = n := by omega
        subst this
        rw [filled_full (by simpa using hvl)] at hg
        have hA' := hA.below hb
        have hB' := hB.below hb
        have hC' : SliceAt wr (some ⟨w.heap.size, 0, none⟩) (vs.map u8v) := by have := SliceAt.block hg; simpa using this
        have hT1 : SliceAt wr A ((l.take k).map u8v) := by rw [List.map_take]; exact hA'.take k
        have hT2 : SliceAt wr B ((r.take k).map u8v) := by rw [List.map_take]; exact hB'.take k
        have hs1 := run_upto (P := Try.prog) (t := 23) Try.underlying23 (by kernel_rfl) A l.length c k .i64 (by omega)
        have hs2 := run_upto (P := Try.prog) (t := 23) Try.underlying23 (by kernel_rfl) B r.length d k .i64 (by omega)
        have hx := xor16 s t
        have hres : Crc.add (s ^^^ t) vs = Crc.add s (l.take k) ^^^ Crc.add t (r.take k) := by
          rw [← Crc.add_xor s t (l.take k) (r.take k) (by simp; omega), HV.out]
          congr 1
          apply List.ext_getElem
          · simp; omega
          · intro i h1 h2
            have hi : i < k := by simpa using h1
            simp [show i < l.length by omega, show i < r.length by omega]
        have HR := Lib.hid hres
        clear hres
        have hl1 : k = (l.take k).length := by simp; omega
        have hl2 : k = (r.take k).length := by simp; omega
        have HL1 := Lib.hid hl1
        have HL2 := Lib.hid hl2
        have HVL := Lib.hid hvl
        have hz := hb.size
        have hzz : w.heap.size < wr.heap.size := by
          rcases Nat.lt_or_ge w.heap.size wr.heap.size with h | h
          · exact h
          · rw [Array.getElem?_eq_none h] at hg; cases hg
        clear hl1 hl2 hvl hg hA hB hA' hB'
        go_wp2_with fail
        refine wp_region_legs (fun _ => True) [⟨[0, 1, 2, 3, 5, 6, 7, 8, 10, 11, 12, 13], some 4⟩, ⟨[], some 9⟩, ⟨[], some 14⟩, ⟨[15, 16, 17], some 18⟩, ⟨[19, 20], none⟩] (by kernel_rfl) (by kernel_rfl) ?_
        refine legs_on ?_ (fun w' => ?_) ?_ ?_
        rotate_left
        · simp only [pick, nthOp]; go_wp2_with fail; refine And.intro ?_ ?_ <;> rfl
        · kernel_rfl
        simp only [pick, nthOp]
        go_wp2_with fail
        refine (add_len (s ^^^ t) rfl _ _ _ vs HVL.out.symm _ (by rw [HVL.out]; omega) hC'.drew).mono ?_
        rintro e w2 ⟨rfl, hb2⟩
        replace hT1 := hT1.drew.below hb2
        replace hT2 := hT2.drew.below hb2
        go_wp2_with fail
        refine legs_on ?_ (fun w' => ?_) ?_ ?_
        rotate_left
        · simp only [pick, nthOp]; go_wp2_with fail; refine And.intro ?_ ?_ <;> rfl
        · kernel_rfl
        simp only [pick, nthOp]
        go_wp2_with fail
        refine (add_len s rfl A k c (l.take k) HL1.out _ (by rw [← HL1.out]; omega) hT1).mono ?_
        rintro e w3 ⟨rfl, hb3⟩
        replace hT2 := hT2.below hb3
        go_wp2_with fail
        refine legs_on ?_ (fun w' => ?_) ?_ ?_
        rotate_left
        · simp only [pick, nthOp]; go_wp2_with fail; refine And.intro ?_ ?_ <;> rfl
        · kernel_rfl
        simp only [pick, nthOp]
        go_wp2_with fail
        refine (add_len t rfl B k d (r.take k) HL2.out _ (by rw [← HL2.out]; omega) hT2).mono ?_
        rintro e w4 ⟨rfl, hb4⟩
        have hy := xor16 (Crc.add s (l.take k)) (Crc.add t (r.take k))
        rw [← HR.out] at hy
        go_wp2_with fail
        refine legs_on ?_ (fun w' => ?_) ?_ ?_
        rotate_left
        · simp only [pick, nthOp]; go_wp2_with fail; refine And.intro ?_ ?_ <;> rfl
        · kernel_rfl
        simp only [pick, nthOp]
        go_wp2_with fail
        refine (works_any _).mono ?_
        rintro e w5 ⟨rfl, hb5⟩
        go_wp2_with fail
        refine legs_last ?_ (fun w' => ?_) ?_ ?_
        rotate_left
        · simp only [pick, nthOp]; go_wp2_with fail; refine And.intro ?_ ?_ <;> rfl
        · kernel_rfl
        go_wp2
        go_ret
        refine ⟨rfl, ?_⟩
        have z2 := hb2.size
        have z3 := hb3.size
        have z4 := hb4.size
        simp at z2
        exact (((hb.drew.trans (hb2.mono (by simpa using hz))).trans (hb3.mono (by omega))).trans (hb4.mono (by omega))).trans (hb5.mono (by omega))
theorem crcLinear_row (a0 a1 : Int) (a2 : Option Addr) (len2 cap2 : Nat) (z2 : List Int) (a3 : Option Addr) (len3 cap3 : Nat) (z3 : List Int) (W : World) (w0 : (Lit.int .u16 a0).wf = true) (w1 : (Lit.int .u16 a1).wf = true) (w2 : IsRow .u8 W a2 len2 cap2 z2) (w3 : IsRow .u8 W a3 len3 cap3 z3) :
    Calls Try.prog 7 #[.int .u16 a0, .int .u16 a1, .slice a2 len2 cap2, .slice a3 len3 cap3] W fun e w' => e = .returned (.bool true) ∧ Below W.heap.size W w' := by
  obtain ⟨s, rfl⟩ := bits_of_u16 w0
  obtain ⟨t, rfl⟩ := bits_of_u16 w1
  have hc := w2.le
  have hd := w3.le
  obtain ⟨l, rfl, hl, h⟩ := w2.bytes
  obtain ⟨r, rfl, hr, h'⟩ := w3.bytes
  exact linear_walk s t a2 a3 cap2 cap3 l r W hl hr hc hd h h'
end Go.Proofs.Ytmbboljkppoohaa
