/- The laws on the sum of 16 bits: CrcPieces. -/
import Derived.Test.YtmbboljkppoohaaCrcLawA
import Derived.Test.YtmbboljkppoohaaPlan
namespace Go.Proofs.Ytmbboljkppoohaa
open Go.RowKit
set_option linter.unusedSimpArgs false
set_option linter.unusedVariables false
set_option maxHeartbeats 600000 in
theorem pieces_walk {n : Int} (s : BitVec 16) (hn : n = (s.toNat : Int)) (A : Option Addr) (c : Nat) (l : List UInt8) (at_ : Int) (w : World) (hl : l.length ≤ 9223372036854775807) (h : SliceAt w A (l.map u8v)) (hc : l.length ≤ c) :
    Calls Try.prog 4 #[.int .u16 n, .slice A l.length c, .int .i64 at_] w fun e w' => e = .returned (.bool true) ∧ Below w.heap.size w w' := by
  subst hn
  by_cases h5 : 5000 < l.length
  · go_enter Try.func4, Try.ntmps4
    go_wp2_with fail
    refine (works_any _).mono ?_
    rintro e w1 ⟨rfl, hb⟩
    go_wp2_with fail
    go_ret
    exact ⟨rfl, hb⟩
  · obtain ⟨k, hk, hkl⟩ : ∃ k : Nat, wrap64 ((IntKind.u64.wrap at_).tmod (↑l.length + 1)) = (k : Int) ∧ k ≤ l.length := by
      have h0 : 0 ≤ IntKind.u64.wrap at_ := by rw [IntKind.wrap_u64]; omega
      have h1 := Int.emod_nonneg (IntKind.u64.wrap at_) (b := (l.length : Int) + 1) (by omega)
      have h2 := Int.emod_lt_of_pos (IntKind.u64.wrap at_) (b := (l.length : Int) + 1) (by omega)
      refine ⟨((IntKind.u64.wrap at_) % (↑l.length + 1)).toNat, ?_, ?_⟩
      · rw [Int.tmod_eq_emod_of_nonneg h0]; unfold wrap64; omega
      · omega
    have hs1 := run_upto (P := Try.prog) (t := 23) Try.underlying23 (by kernel_rfl) A l.length c k .i64 (by omega)
    have hs2 := run_from (P := Try.prog) (t := 23) Try.underlying23 (by kernel_rfl) A l.length c k .i64 hkl
    have hT : SliceAt w A ((l.take k).map u8v) := by rw [List.map_take]; exact h.take k
    have hD : SliceAt w (fromA A c k) ((l.drop k).map u8v) := by rw [List.map_drop]; exact h.from c k (by simpa using hc)
    have hk0 : (0 : Int) ≤ (k : Int) := by omega
    have hk1 : (k : Int) ≤ (l.length : Int) := by omega
    have hk2 : (k : Int) ≤ (c : Int) := by omega
    have hlt : k = (l.take k).length := by simp; omega
    have hld : l.length - k = (l.drop k).length := by simp
    have HLT := Lib.hid hlt
    have HLD := Lib.hid hld
    clear hlt hld
    go_enter Try.func4, Try.ntmps4
    go_wp2_with fail
    refine (add_any s rfl _ _ l _ (by omega) h).mono ?_
    rintro e w1 ⟨rfl, hb1⟩
    replace hT := hT.below hb1
    replace hD := hD.below hb1
    go_wp2_with fail
    have hpc : Crc.add (Crc.add s (l.take k)) (l.drop k) = Crc.add s l := by rw [← Crc.add_append, List.take_append_drop]
    generalize Crc.add s l = S at *
    have HPC := Lib.hid hpc
    clear hpc
    have hSl := S.isLt
    obtain ⟨hi, hhi⟩ : ∃ hi : UInt8, (S.toNat : Int) / 256 = (hi.toNat : Int) := ⟨UInt8.ofNat (S.toNat / 256), by simp; omega⟩
    obtain ⟨lo, hlo⟩ : ∃ lo : UInt8, IntKind.u8.wrap (S.toNat : Int) = (lo.toNat : Int) := ⟨UInt8.ofNat (S.toNat % 256), by rw [IntKind.wrap_u8]; simp⟩
    have hres : Crc.add S [hi, lo] = 0#16 := Crc.residue S hi lo (by omega) (by rw [IntKind.wrap_u8] at hlo; omega)
    have HR := Lib.hid hres
    clear hres
    refine wp_region_legs (fun _ => True) [⟨[0, 1, 2, 3, 5, 6, 7, 9], some 4⟩, ⟨[], some 8⟩, ⟨[10, 11, 12, 13, 14, 15, 16, 17], some 18⟩, ⟨[], some 19⟩, ⟨[20, 21, 22], some 23⟩, ⟨[24, 25], none⟩] (by kernel_rfl) (by kernel_rfl) ?_
    refine legs_on ?_ (fun w' => ?_) ?_ ?_
    rotate_left
    · simp only [pick, nthOp]; go_wp2_with fail; refine And.intro ?_ ?_ <;> rfl
    · kernel_rfl
    simp only [pick, nthOp]
    go_wp2_with fail
    refine (add_len s rfl A k c (l.take k) HLT.out _ (by rw [← HLT.out]; omega) hT.drew).mono ?_
    rintro e w2 ⟨rfl, hb2⟩
    replace hD := hD.drew.below hb2
    go_wp2_with fail
    refine legs_on ?_ (fun w' => ?_) ?_ ?_
    rotate_left
    · simp only [pick, nthOp]; go_wp2_with fail; refine And.intro ?_ ?_ <;> rfl
    · kernel_rfl
    simp only [pick, nthOp]
    go_wp2_with fail
    refine (add_len (Crc.add s (l.take k)) rfl (fromA A c k) (l.length - k) (c - k) (l.drop k) HLD.out _ (by rw [← HLD.out]; omega) hD).mono ?_
    rintro e w3 ⟨rfl, hb3⟩
    rw [HPC.out]
    go_wp2_with fail
    refine legs_on ?_ (fun w' => ?_) ?_ ?_
    rotate_left
    · simp only [pick, nthOp]; go_wp2_with fail; refine And.intro ?_ ?_ <;> rfl
    · kernel_rfl
    simp only [pick, nthOp]
    go_wp2_with fail
    refine legs_on ?_ (fun w' => ?_) ?_ ?_
    rotate_left
    · simp only [pick, nthOp]; go_wp2_with fail; refine And.intro ?_ ?_ <;> rfl
    · kernel_rfl
    simp only [pick, nthOp]
    go_wp2_with fail
    refine (add_len S rfl _ 2 2 [hi, lo] rfl _ (by simp) (SliceAt.block (heap_alloc_new _ _))).mono ?_
    rintro e w4 ⟨rfl, hb4⟩
    rw [HR.out]
    go_wp2_with fail
    refine legs_on ?_ (fun w' => ?_) ?_ ?_
    rotate_left
    · simp only [pick, nthOp]; go_wp2_with fail; refine And.intro ?_ ?_ <;> rfl
    · kernel_rfl
    simp only [pick, nthOp]
    go_wp2_with fail
    refine (works_any _).mono ?_
    rintro e w5 ⟨rfl, hb5⟩
    go_wp2_with fail
    refine legs_last ?_ (fun w' => ?_) ?_ ?_
    rotate_left
    · simp only [pick, nthOp]; go_wp2_with fail; refine And.intro ?_ ?_ <;> rfl
    · kernel_rfl
    go_wp2
    go_ret
    refine ⟨rfl, ?_⟩
    have z1 := hb1.size
    have z2 := hb2.size
    have z3 := hb3.size
    have z4 := hb4.size
    simp at z2 z4
    exact ((((hb1.drew.trans (hb2.mono (by simpa using z1))).trans (hb3.mono (by omega))).alloc (by omega) _).trans (hb4.mono (by simp; omega))).trans (hb5.mono (by omega))
theorem crcPieces_row (a0 : Int) (a1 : Option Addr) (len1 cap1 : Nat) (z1 : List Int) (a2 : Int) (W : World) (w0 : (Lit.int .u16 a0).wf = true) (w1 : IsRow .u8 W a1 len1 cap1 z1) (w2 : (Lit.int .i64 a2).wf = true) :
    Calls Try.prog 4 #[.int .u16 a0, .slice a1 len1 cap1, .int .i64 a2] W fun e w' => e = .returned (.bool true) ∧ Below W.heap.size W w' := by
  obtain ⟨s, hs⟩ := bits_of_u16 w0
  have hc := w1.le
  obtain ⟨l, rfl, hl, h⟩ := w1.bytes
  exact pieces_walk s hs a1 cap1 l a2 W hl h hc
end Go.Proofs.Ytmbboljkppoohaa
