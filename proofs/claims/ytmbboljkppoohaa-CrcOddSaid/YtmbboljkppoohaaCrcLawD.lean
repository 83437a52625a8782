/- The laws on the sum of 16 bits: CrcBursts, CrcOdd. -/
import Derived.Test.YtmbboljkppoohaaCrcLawA
import Derived.Test.YtmbboljkppoohaaCrcDist
import Derived.Test.YtmbboljkppoohaaPlanHere
namespace Go.Proofs.Ytmbboljkppoohaa
open Go.RowKit
set_option linter.unusedSimpArgs false
set_option linter.unusedVariables false
/-- is the i-th bit told, and in the bytes? -/
def told (B p n : Nat) (i : Nat) : Bool := decide (B / 2 ^ (31 - i) % 2 = 1) && decide (p + i < 8 * n)
theorem told_bit (B m : Nat) (hB : B < 4294967296) : bits .and .u32 ((B : Int) / 2 ^ m) 1 = ((B / 2 ^ m % 2 : Nat) : Int) := by
  have h : B / 2 ^ m < 4294967296 := Nat.lt_of_le_of_lt (Nat.div_le_self _ _) hB
  have e : (B : Int) / 2 ^ m = ((B / 2 ^ m : Nat) : Int) := by simp
  rw [e, show (1 : Int) = ((1 : Nat) : Int) from rfl, u32_and_nat _ _ h (by omega), nat_mask1]
theorem flip_val (x : UInt8) (j : Nat) : bits .xor .u8 (x.toNat : Int) (128 / 2 ^ (j % 8)) = ((x ^^^ UInt8.ofNat (128 / 2 ^ (j % 8))).toNat : Int) := by
  have e : (128 : Int) / 2 ^ (j % 8) = ((128 / 2 ^ (j % 8) : Nat) : Int) := by simp
  have h : 128 / 2 ^ (j % 8) < 256 := Nat.lt_of_le_of_lt (Nat.div_le_self _ _) (by omega)
  rw [e, u8_xor_nat _ _ x.toNat_lt h, UInt8.toNat_xor, UInt8.toNat_ofNat', Nat.mod_eq_of_lt (a := 128 / 2 ^ (j % 8)) (b := 2 ^ 8) h]
theorem flip_own {w : World} {g : Nat} {T : List UInt8} (h : OwnAt w g 0 (T.map u8v)) (k : Nat) (hk : k / 8 < T.length) :
    OwnAt (w.setCell ⟨g, k / 8, none⟩ (.int .u8 (bits .xor .u8 (T[k / 8].toNat : Int) (128 / 2 ^ (k % 8))))).drew g 0 ((Crc.flip T k).map u8v) := by
  have h2 := (h.set (k / 8) (u8v (T[k / 8] ^^^ UInt8.ofNat (128 / 2 ^ (k % 8)))) (by simpa using hk)).drew
  rw [Nat.zero_add] at h2
  rw [flip_val]
  unfold Crc.flip
  rw [List.map_set, show T.getD (k / 8) 0 = T[k / 8] from by simp [hk]]
  exact h2
set_option maxHeartbeats 400000 in
theorem turned_any (A : Option Addr) (c : Nat) (l : List UInt8) (p B : Nat) (w : World) (h5 : l.length ≤ 5000) (hp : p < 8 * l.length) (hB : B < 4294967296) (h : SliceAt w A (l.map u8v)) :
    Calls Try.prog 14 #[.slice A l.length c, .int .i64 (p : Int), .int .u32 (B : Int)] w fun e w' =>
      ∃ g c2, e = .returned (.slice (some ⟨g, 0, none⟩) l.length c2) ∧ SliceAt w' (some ⟨g, 0, none⟩) ((Crc.turnTo l p (told B p l.length) 32).map u8v) ∧ Below w.heap.size w w' := by
  have e1 := run_str (dst := 9) Try.underlying23 Try.underlying5 Try.underlying9 h c
  have e2 := Lib.run_convert_string_bytes w 9 23 5 ⟨l.toArray⟩ Try.underlying9 Try.underlying23 Try.underlying5
  have hB0 := bytesWorld_below w 5 ⟨l.toArray⟩
  have ho0 := bytesWorld_own w 5 l
  go_enter Try.func14, Try.ntmps14
  go_wp2_with fail
  clear e1 e2
  generalize grownCap w l.length 0 5 = c2
  generalize Lib.bytesWorld w 5 ⟨l.toArray⟩ = W0 at *
  clear h
  go_loopw [8] (fun v wr => ∃ i : Nat, i ≤ 32 ∧ v = .int .i64 i ∧ OwnAt wr w.heap.size 0 ((Crc.turnTo l p (told B p l.length) i).map u8v) ∧ Below w.heap.size w wr) (fun v _ => 32 - (intOf v).toNat)
  case atStart => exact ⟨0, by omega, rfl, ho0, hB0⟩
  case round =>
    obtain ⟨i, hi, rfl, ho, hb⟩ := hrel
    by_cases hlt : i < 32
    · have hlen := Crc.turnTo_length l p (told B p l.length) i
      by_cases ht : B / 2 ^ (31 - i) % 2 = 1
      · have hbit : (bits .and .u32 ((B : Int) / 2 ^ (31 - i)) 1 == 1) = true := by rw [told_bit B _ hB, ht]; rfl
        by_cases hin : p + i < 8 * l.length
        · have hq : (p + i) / 8 < l.length := by omega
          have hc := ho.get ((p + i) / 8) (by simpa [hlen] using hq)
          have hf := ho.free ((p + i) / 8) (by simpa [hlen] using hq)
          simp only [Nat.zero_add, List.getElem_map, u8v] at hc hf
          have hq1 : ((p : Int) + (i : Int)) / 8 < (l.length : Int) := by omega
          have hq0 : 0 ≤ ((p : Int) + (i : Int)) / 8 := by omega
          go_wp2_with fail
          refine wp_region_by [⟨false, [0, 1, 2, 3, 4, 5, 6, 7, 8, 9, 10, 12, 13, 14, 15, 16], none⟩, ⟨true, [11, 17, 18], some 19⟩] (by kernel_rfl) (by kernel_rfl) ?_
          refine by_row ?_ (fun w' => ?_) ?_ ?_
          rotate_left
          · simp only [pick, nthOp]; go_wp2_with fail; refine And.intro ?_ ?_ <;> rfl
          · kernel_rfl
          refine by_here ?_ ?_ ?_ ?_
          rotate_left
          · simp only [pick, nthOp]; go_wp2_with fail; refine And.intro ?_ ?_ <;> rfl
          · kernel_rfl
          simp only [pick, nthOp]
          go_wp2_with fail
          refine by_onward ?_
          go_wp2
          go_roundw
          case rel =>
            refine ⟨i + 1, by omega, by go_num, ?_, (hb.setCell (Nat.le_refl _) _).drew⟩
            have hT : Crc.turnTo l p (told B p l.length) (i + 1) = Crc.flip (Crc.turnTo l p (told B p l.length) i) (p + i) := by
              rw [Crc.turnTo, show told B p l.length i = true from by simp [told, ht, hin], if_pos rfl]
            rw [hT]
            exact flip_own ho (p + i) (by rw [hlen]; exact hq)
          case measure => simp [intOf]; omega
        · go_wp2
          go_roundw
          case rel => exact ⟨i + 1, by omega, by go_num, by rw [Crc.turnTo, show told B p l.length i = false from by simp [told]; omega]; exact ho, hb⟩
          case measure => simp [intOf]; omega
      · have hbit : (bits .and .u32 ((B : Int) / 2 ^ (31 - i)) 1 == 1) = false := by rw [told_bit B _ hB, show B / 2 ^ (31 - i) % 2 = 0 by omega]; rfl
        go_wp2
        go_roundw
        case rel => exact ⟨i + 1, by omega, by go_num, by rw [Crc.turnTo, show told B p l.length i = false from by simp [told, ht]]; exact ho, hb⟩
        case measure => simp [intOf]; omega
    · have : i = 32 := by omega
      subst this
      go_wp2
      go_ret
      exact ⟨_, _, rfl, ho.slice, hb⟩

theorem sum_len (A : Option Addr) (len c : Nat) (l : List UInt8) (hlen : len = l.length) (w : World) (hl : l.length ≤ 140737488355328) (hs : SliceAt w A (l.map u8v)) :
    Calls Try.prog 12 #[.slice A len c] w fun e w' => e = .returned (u16v (Crc.add 0#16 l)) ∧ Below w.heap.size w w' := by
  subst hlen
  exact sum_any A c l w hl hs
set_option maxHeartbeats 400000 in
theorem bursts_walk (A : Option Addr) (c : Nat) (l : List UInt8) (at_ : Int) (b : BitVec 16) (w : World) (hl : l.length ≤ 9223372036854775807) (h : SliceAt w A (l.map u8v)) :
    Calls Try.prog 5 #[.slice A l.length c, .int .i64 at_, u16v b] w fun e w' => e = .returned (.bool true) ∧ Below w.heap.size w w' := by
  by_cases h0 : l.length = 0
  · have h0' : ((l.length : Int) == 0) = true := beq_iff_eq.2 (by omega)
    go_enter Try.func5, Try.ntmps5
    go_wp2_with fail
    refine (works_any _).mono ?_
    rintro e w1 ⟨rfl, hb⟩
    go_wp2_with fail
    go_ret
    exact ⟨rfl, hb⟩
  have h0' : ((l.length : Int) == 0) = false := beq_eq_false_iff_ne.2 (by omega)
  by_cases h5 : 5000 < l.length
  · go_enter Try.func5, Try.ntmps5
    go_wp2_with fail
    refine (works_any _).mono ?_
    rintro e w1 ⟨rfl, hb⟩
    go_wp2_with fail
    go_ret
    exact ⟨rfl, hb⟩
  · obtain ⟨p, hp, hpl⟩ : ∃ p : Nat, wrap64 ((IntKind.u64.wrap at_).tmod (8 * ↑l.length)) = (p : Int) ∧ p < 8 * l.length := by
      have h0 : 0 ≤ IntKind.u64.wrap at_ := by rw [IntKind.wrap_u64]; omega
      have h1 := Int.emod_nonneg (IntKind.u64.wrap at_) (b := 8 * (l.length : Int)) (by omega)
      have h2 := Int.emod_lt_of_pos (IntKind.u64.wrap at_) (b := 8 * (l.length : Int)) (by omega)
      refine ⟨((IntKind.u64.wrap at_) % (8 * ↑l.length)).toNat, ?_, ?_⟩
      · rw [Int.tmod_eq_emod_of_nonneg h0]; unfold wrap64; omega
      · omega
    have hbl := b.isLt
    obtain ⟨B, hB, hBl, hBe⟩ : ∃ B : Nat, (b.toNat : Int) * 65536 = (B : Int) ∧ B < 4294967296 ∧ B = b.toNat * 65536 := ⟨b.toNat * 65536, by simp, by omega, rfl⟩
    have HBE := Lib.hid hBe
    clear hBe
    go_enter Try.func5, Try.ntmps5
    go_wp2_with fail
    refine (turned_any A c l p B _ (by omega) hpl hBl h).mono ?_
    rintro e w1 ⟨g, c2, rfl, hG, hb1⟩
    have hA := h.below hb1
    have hTl := Crc.turnTo_length l p (told B p l.length) 32
    have hlaw : (Crc.add 0#16 l == Crc.add 0#16 (Crc.turnTo l p (told B p l.length) 32)) = (decide (l = Crc.turnTo l p (told B p l.length) 32)) := by
      rw [Bool.eq_iff_iff, beq_iff_eq, decide_eq_true_iff]
      constructor
      · intro he
        refine (Crc.burst l p 32 _ (fun i hi => ?_) he).symm
        simp only [told, Bool.and_eq_true, decide_eq_true_eq] at hi
        refine ⟨?_, hi.2⟩
        rcases Nat.lt_or_ge i 16 with h16 | h16
        · exact h16
        · exfalso
          have h1 := hi.1
          rw [HBE.out] at h1
          by_cases h32 : i ≤ 31
          · have : b.toNat * 65536 / 2 ^ (31 - i) = b.toNat * 2 ^ (i - 15) := by
              rw [show (65536 : Nat) = 2 ^ (i - 15) * 2 ^ (31 - i) by rw [← Nat.pow_add, show i - 15 + (31 - i) = 16 by omega], ← Nat.mul_assoc, Nat.mul_div_cancel _ (Nat.two_pow_pos _)]
            rw [this, show i - 15 = (i - 16) + 1 by omega, Nat.pow_succ, ← Nat.mul_assoc] at h1
            omega
          · rw [show 31 - i = 0 by omega] at h1
            omega
      · rintro he; rw [← he]
    generalize Crc.turnTo l p (told B p l.length) 32 = T at *
    have HTL := Lib.hid hTl
    have hcmp : (((Crc.add 0#16 l).toNat : Int) == ((Crc.add 0#16 T).toNat : Int)) = (l == T) := by
      rw [Bool.eq_iff_iff, beq_iff_eq] at hlaw ⊢
      rw [decide_eq_true_iff] at hlaw
      rw [beq_iff_eq, ← hlaw, Int.ofNat_inj]
      exact ⟨fun h => BitVec.eq_of_toNat_eq h, fun h => congrArg _ h⟩
    clear hTl hlaw h
    go_wp2_with fail
    refine wp_region_legs (fun w' => SliceAt w' A (l.map u8v) ∧ SliceAt w' (some ⟨g, 0, none⟩) (T.map u8v)) [⟨[0, 2, 5, 6, 7, 8, 9], some 1⟩, ⟨[], some 3⟩, ⟨[4, 10, 11], some 12⟩, ⟨[13, 14], none⟩] (by kernel_rfl) (by kernel_rfl) ?_
    refine legs_onS ?_ ⟨hA.drew, hG.drew⟩ (fun w' hSw => ?_) ?_ ?_
    rotate_left
    · simp only [pick, nthOp]; have e1 := run_str (dst := 9) Try.underlying23 Try.underlying5 Try.underlying9 hSw.1 c; have e2 := run_str (dst := 9) Try.underlying23 Try.underlying5 Try.underlying9 hSw.2 c2; rw [HTL.out] at e2; go_wp2_with fail; refine And.intro ?_ ?_ <;> rfl
    · kernel_rfl
    simp only [pick, nthOp]
    go_wp2_with fail
    refine (sum_any A c l _ (by omega) hA.drew).mono ?_
    rintro e w2 ⟨rfl, hb2⟩
    replace hA := hA.drew.below hb2
    replace hG := hG.drew.below hb2
    go_wp2_with fail
    refine legs_nextS ⟨hA, hG⟩ ?_
    refine legs_onS ?_ ⟨hA, hG⟩ (fun w' hSw => ?_) ?_ ?_
    rotate_left
    · simp only [pick, nthOp]; go_wp2_with fail; refine And.intro ?_ ?_ <;> rfl
    · kernel_rfl
    simp only [pick, nthOp]
    go_wp2_with fail
    refine (sum_len _ _ c2 T HTL.out.symm _ (by rw [HTL.out]; omega) hG).mono ?_
    rintro e w3 ⟨rfl, hb3⟩
    replace hA := hA.below hb3
    replace hG := hG.below hb3
    go_wp2_with fail
    refine legs_nextS ⟨hA, hG⟩ ?_
    refine legs_onS ?_ ⟨hA, hG⟩ (fun w' hSw => ?_) ?_ ?_
    rotate_left
    · simp only [pick, nthOp]; go_wp2_with fail; refine And.intro ?_ ?_ <;> rfl
    · kernel_rfl
    simp only [pick, nthOp]
    go_wp2_with fail
    refine (works_any _).mono ?_
    rintro e w4 ⟨rfl, hb4⟩
    replace hA := hA.below hb4
    replace hG := hG.below hb4
    go_wp2_with fail
    refine legs_nextS ⟨hA, hG⟩ ?_
    refine legs_rowS ?_ ⟨hA, hG⟩ (fun w' hSw => ?_) ?_ ?_
    rotate_left
    · simp only [pick, nthOp]; go_wp2_with fail; refine And.intro ?_ ?_ <;> rfl
    · kernel_rfl
    refine legs_endS ?_
    go_wp2
    go_ret
    refine ⟨rfl, ?_⟩
    have z1 := hb1.size
    have z2 := hb2.size
    have z3 := hb3.size
    simp at z2
    exact ((hb1.drew.trans (hb2.mono (by simpa using z1))).trans (hb3.mono (by omega))).trans (hb4.mono (by omega))
theorem crcBursts_row (a0 : Option Addr) (len0 cap0 : Nat) (z0 : List Int) (a1 a2 : Int) (W : World) (w0 : IsRow .u8 W a0 len0 cap0 z0) (w1 : (Lit.int .i64 a1).wf = true) (w2 : (Lit.int .u16 a2).wf = true) :
    Calls Try.prog 5 #[.slice a0 len0 cap0, .int .i64 a1, .int .u16 a2] W fun e w' => e = .returned (.bool true) ∧ Below W.heap.size W w' := by
  obtain ⟨s, rfl⟩ := bits_of_u16 w2
  obtain ⟨l, rfl, hl, h⟩ := w0.bytes
  exact bursts_walk a0 cap0 l a1 s W hl h
end Go.Proofs.Ytmbboljkppoohaa
