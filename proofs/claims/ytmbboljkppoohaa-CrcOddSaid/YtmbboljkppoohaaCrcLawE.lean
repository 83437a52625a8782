/- The laws on the sum of 16 bits: CrcOdd. -/
import Derived.Test.YtmbboljkppoohaaCrcLawD
namespace Go.Proofs.Ytmbboljkppoohaa
open Go.RowKit
set_option linter.unusedSimpArgs false
set_option linter.unusedVariables false
/-- the bits that two rows of bytes do not share -/
def differ (l T : List UInt8) : Nat → Bool := Crc.bitAt (List.zipWith (· ^^^ ·) l T)
theorem differ_at {l T : List UInt8} (k : Nat) (h1 : k / 8 < l.length) (h2 : k / 8 < T.length) : differ l T k = decide (128 ≤ (l[k / 8] ^^^ T[k / 8]).toNat * 2 ^ (k % 8) % 256) := by
  unfold differ Crc.bitAt Crc.bitOf
  have : (List.zipWith (· ^^^ ·) l T).getD (k / 8) 0 = l[k / 8] ^^^ T[k / 8] := by
    rw [List.getD_eq_getElem?_getD, List.getElem?_zipWith, List.getElem?_eq_getElem h1, List.getElem?_eq_getElem h2]; rfl
  rw [this]
set_option maxRecDepth 100000 in
set_option maxHeartbeats 1000000 in
theorem odd_walk (A B : Option Addr) (c d : Nat) (l : List UInt8) (ps : List Int) (w : World) (hl : l.length ≤ 9223372036854775807) (hpl : ps.length ≤ 9223372036854775807) (h : SliceAt w A (l.map u8v)) (hp : SliceAt w B (ps.map (Value.int .i64))) :
    Calls Try.prog 6 #[.slice A l.length c, .slice B ps.length d] w fun e w' => e = .returned (.bool true) ∧ Below w.heap.size w w' := by
  by_cases h0 : l.length = 0
  · have h0' : ((l.length : Int) == 0) = true := beq_iff_eq.2 (by omega)
    go_enter Try.func6, Try.ntmps6
    go_wp2_with fail
    refine (works_any _).mono ?_
    rintro e w1 ⟨rfl, hb⟩
    go_wp2_with fail
    go_ret
    exact ⟨rfl, hb⟩
  have h0' : ((l.length : Int) == 0) = false := beq_eq_false_iff_ne.2 (by omega)
  by_cases h5 : 5000 < l.length
  · have h5' : (5000 : Int) < (l.length : Int) := by omega
    go_enter Try.func6, Try.ntmps6
    go_wp2_with fail
    refine (works_any _).mono ?_
    rintro e w1 ⟨rfl, hb⟩
    go_wp2_with fail
    go_ret
    exact ⟨rfl, hb⟩
  have h5' : (l.length : Int) ≤ 5000 := by omega
  by_cases hm : 100 < ps.length
  · have hm' : (100 : Int) < (ps.length : Int) := by omega
    go_enter Try.func6, Try.ntmps6
    go_wp2_with fail
    refine (works_any _).mono ?_
    rintro e w1 ⟨rfl, hb⟩
    go_wp2_with fail
    go_ret
    exact ⟨rfl, hb⟩
  have hm' : (ps.length : Int) ≤ 100 := by omega
  have e1 := run_str (dst := 9) Try.underlying23 Try.underlying5 Try.underlying9 h c
  have e2 := Lib.run_convert_string_bytes w 9 23 5 ⟨l.toArray⟩ Try.underlying9 Try.underlying23 Try.underlying5
  have hB0 := bytesWorld_below w 5 ⟨l.toArray⟩
  have ho0 := bytesWorld_own w 5 l
  go_enter Try.func6, Try.ntmps6
  go_wp2_with fail
  clear e1 e2
  generalize grownCap w l.length 0 5 = c2
  generalize Lib.bytesWorld w 5 ⟨l.toArray⟩ = W0 at *
  go_loopw [6] (fun v wr => ∃ (i : Nat) (T : List UInt8), i ≤ ps.length ∧ v = .int .i64 i ∧ T.length = l.length ∧ OwnAt wr w.heap.size 0 (T.map u8v) ∧ Below w.heap.size w wr) (fun v _ => ps.length - (intOf v).toNat)
  case atStart => exact ⟨0, l, by omega, rfl, rfl, ho0, hB0⟩
  case round =>
    obtain ⟨i, T, hi, rfl, hTl, ho, hb⟩ := hrel
    by_cases hlt : i < ps.length
    · have hB' := hp.below hb
      obtain ⟨b2, o2, rfl, hc2⟩ := hB'.at_ i (by simpa using hlt)
      simp only [List.getElem_map] at hc2
      obtain ⟨k, hk, hkl⟩ : ∃ k : Nat, wrap64 ((IntKind.u64.wrap ps[i]).tmod (8 * ↑l.length)) = (k : Int) ∧ k < 8 * l.length := by
        have h0 : 0 ≤ IntKind.u64.wrap ps[i] := by rw [IntKind.wrap_u64]; omega
        have h1 := Int.emod_nonneg (IntKind.u64.wrap ps[i]) (b := 8 * (l.length : Int)) (by omega)
        have h2 := Int.emod_lt_of_pos (IntKind.u64.wrap ps[i]) (b := 8 * (l.length : Int)) (by omega)
        refine ⟨((IntKind.u64.wrap ps[i]) % (8 * ↑l.length)).toNat, ?_, ?_⟩
        · rw [Int.tmod_eq_emod_of_nonneg h0]; unfold wrap64; omega
        · omega
      generalize ps[i] = q at *
      have hq : k / 8 < T.length := by omega
      have hc := ho.get (k / 8) (by simpa using hq)
      have hf := ho.free (k / 8) (by simpa using hq)
      simp only [Nat.zero_add, List.getElem_map, u8v] at hc hf
      have hq1 : (k : Int) / 8 < (l.length : Int) := by omega
      have hq0 : 0 ≤ (k : Int) / 8 := by omega
      have HTL := Lib.hid hTl
      clear hTl
      go_wp2_with fail
      refine wp_region_by [⟨false, [0, 1, 2, 3, 4, 5, 6, 8, 9, 10], none⟩, ⟨true, [7, 11, 12], some 13⟩] (by kernel_rfl) (by kernel_rfl) ?_
      refine by_row ?_ (fun w' => ?_) ?_ ?_
      rotate_left
      · simp only [pick, nthOp]; go_wp2_with fail; refine And.intro ?_ ?_ <;> rfl
      · kernel_rfl
      refine by_here ?_ ?_ ?_ ?_
      rotate_left
      · simp only [pick, nthOp]; go_wp2_with fail; refine And.intro ?_ ?_ <;> rfl
      · kernel_rfl
      simp only [pick, nthOp]
      go_wp2_with fail
      refine by_onward ?_
      go_wp2
      go_roundw
      case rel => exact ⟨i + 1, Crc.flip T k, by omega, by go_num, by rw [Crc.flip_length]; exact HTL.out, flip_own ho k hq, (hb.setCell (Nat.le_refl _) _).drew⟩
      case measure => simp [intOf]; omega
    · have : i = ps.length := by omega
      subst this
      go_wp2_with fail
      have hA := h.below hb
      clear h hp ho0 hB0
      have hG := ho.slice
      clear ho
      obtain ⟨wo, rfl⟩ : ∃ wo : World, wo = wr := ⟨_, rfl⟩
      have HTL := Lib.hid hTl
      clear hTl
      go_loopw [8, 9, 10, 11] (fun v8 v9 v10 v11 wr => ∃ (k n f la : Nat), k ≤ 8 * l.length ∧ v11 = .int .i64 k ∧ v8 = .int .i64 n ∧ v9 = .int .i64 f ∧ v10 = .int .i64 la ∧ Crc.Tells (differ l T) k n f la ∧ n ≤ k ∧ f ≤ k ∧ la ≤ k ∧ SliceAt wr A (l.map u8v) ∧ SliceAt wr (some ⟨w.heap.size, 0, none⟩) (T.map u8v) ∧ Below w.heap.size w wr) (fun _ _ _ v _ => 8 * l.length - (intOf v).toNat)
      case atStart => exact ⟨0, 0, 0, 0, by omega, rfl, rfl, rfl, rfl, Crc.tells_zero _ _ _, by omega, by omega, by omega, hA, hG, hb⟩
      case round =>
        clear hA hG hb
        obtain ⟨k, n, f, la, hk, rfl, rfl, rfl, rfl, htell, hnk, hfk, hlk, hA, hG, hb⟩ := hrel
        have HT := Lib.hid htell
        clear htell
        by_cases hlt : k < 8 * l.length
        · have hq : k / 8 < l.length := by omega
          have hq' : k / 8 < T.length := by rw [HTL.out]; exact hq
          obtain ⟨b1, o1, rfl, hc1⟩ := hA.at_ (k / 8) (by simpa using hq)
          obtain ⟨b2, o2, hbe, hc2⟩ := hG.at_ (k / 8) (by simpa using hq')
          injection hbe with hbe; injection hbe with hbe1 hbe2; subst hbe1; subst hbe2
          simp only [List.getElem_map, u8v, Nat.zero_add] at hc1 hc2
          have hq1 : (k : Int) / 8 < (l.length : Int) := by omega
          have hq0 : 0 ≤ (k : Int) / 8 := by omega
          have hx : bits .xor .u8 (l[k / 8].toNat : Int) (T[k / 8].toNat : Int) = ((l[k / 8] ^^^ T[k / 8]).toNat : Int) := by
            rw [u8_xor_nat _ _ l[k / 8].toNat_lt T[k / 8].toNat_lt, UInt8.toNat_xor]
          have hD := Lib.hid (differ_at k hq hq')
          generalize l[k / 8] ^^^ T[k / 8] = z at *
          generalize l[k / 8].toNat = x at *
          generalize T[k / 8].toNat = y at *
          have hmul : (z.toNat : Int) * 2 ^ (k % 8) % 256 = ((z.toNat * 2 ^ (k % 8) % 256 : Nat) : Int) := by simp
          generalize z.toNat * 2 ^ (k % 8) % 256 = m at *
          cases hbit : differ l T k with
          | true =>
            have hm : ¬ ((m : Int) < 128) := by have := hD.out; rw [hbit] at this; simp at this; omega
            have hm' : (128 : Int) ≤ (m : Int) := by omega
            have HY := Lib.hid (Crc.tells_yes HT.out hbit)
            clear hbit hm
            go_wp2_with fail
            refine wp_region_by [⟨false, [0, 1, 2, 3, 5, 6, 7, 8, 11, 12], none⟩, ⟨true, [4, 9, 10, 13, 14], none⟩] (by kernel_rfl) (by kernel_rfl) ?_
            refine by_row ?_ (fun w' => ?_) ?_ ?_
            rotate_left
            · simp only [pick, nthOp]; go_wp2_with fail; refine And.intro ?_ ?_ <;> rfl
            · kernel_rfl
            refine by_row_here ?_ ?_ ?_ ?_
            rotate_left
            · simp only [pick, nthOp]; go_wp2_with fail; refine And.intro ?_ ?_ <;> rfl
            · kernel_rfl
            refine by_end ?_
            go_wp2
            · have hn0 : n = 0 := by have := beq_iff_eq.1 (‹((n : Int) == 0) = true›); omega
              go_roundw
              case rel => exact ⟨k + 1, n + 1, k, k, by omega, by go_num, by go_num, rfl, rfl, by have := HY.out; rw [if_pos hn0] at this; exact this, by omega, by omega, by omega, hA.drew, hG.drew, hb.drew⟩
              case measure => simp [intOf]; omega
            · have hn0 : ¬ n = 0 := by have := beq_eq_false_iff_ne.1 (‹((n : Int) == 0) = false›); omega
              go_roundw
              case rel => exact ⟨k + 1, n + 1, f, k, by omega, by go_num, by go_num, rfl, rfl, by have := HY.out; rw [if_neg hn0] at this; exact this, by omega, by omega, by omega, hA.drew, hG.drew, hb.drew⟩
              case measure => simp [intOf]; omega
          | false =>
            have hm' : (m : Int) < 128 := by have := hD.out; rw [hbit] at this; simp at this; omega
            have HY := Lib.hid (Crc.tells_no HT.out hbit)
            clear hbit
            go_wp2_with fail
            refine wp_region_by [⟨false, [0, 1, 2, 3, 5, 6, 7, 8, 11, 12], none⟩, ⟨true, [4, 9, 10, 13, 14], none⟩] (by kernel_rfl) (by kernel_rfl) ?_
            refine by_row ?_ (fun w' => ?_) ?_ ?_
            rotate_left
            · simp only [pick, nthOp]; go_wp2_with fail; refine And.intro ?_ ?_ <;> rfl
            · kernel_rfl
            refine by_row_here ?_ ?_ ?_ ?_
            rotate_left
            · simp only [pick, nthOp]; go_wp2_with fail; refine And.intro ?_ ?_ <;> rfl
            · kernel_rfl
            refine by_end ?_
            go_wp2
            go_roundw
            case rel => exact ⟨k + 1, n, f, la, by omega, by go_num, rfl, rfl, rfl, HY.out, by omega, by omega, by omega, hA.drew, hG.drew, hb.drew⟩
            case measure => simp [intOf]; omega
        · have hk' : k = 8 * l.length := by omega
          have HK := Lib.hid hk'
          clear hk'
          -- is the number odd, or two, and near?
          by_cases hn : n % 2 = 1 ∨ n = 2 ∧ la - f < 32767
          · have hne := Crc.sums_apart HTL.out.symm (by have := HT.out; rw [HK.out] at this; exact this) hn
            have hne' : (((Crc.add 0#16 l).toNat : Int) != ((Crc.add 0#16 T).toNat : Int)) = true := bne_iff_ne.2 fun e => hne (BitVec.eq_of_toNat_eq (by omega))
            clear hne
            by_cases ho : n % 2 = 1
            · have ho' : (((n : Int) % 2) == 1) = true := beq_iff_eq.2 (by omega)
              clear ho hn
              go_wp2_with fail
              refine (sum_any A c l _ (by omega) hA).mono ?_
              rintro e w2 ⟨rfl, hb2⟩
              replace hG := hG.below hb2
              go_wp2_with fail
              refine (sum_len _ _ c2 T HTL.out.symm _ (by rw [HTL.out]; omega) hG).mono ?_
              rintro e w3 ⟨rfl, hb3⟩
              go_wp2_with fail
              refine (works_any _).mono ?_
              rintro e w4 ⟨rfl, hb4⟩
              go_wp2_with fail
              go_ret
              have q1 := hb.size; have q2 := hb2.size; have q3 := hb3.size
              exact ⟨rfl, ((hb.trans (hb2.mono q1)).trans (hb3.mono (by omega))).trans (hb4.mono (by omega))⟩
            · have ho' : (((n : Int) % 2) == 1) = false := beq_eq_false_iff_ne.2 (by omega)
              have h2 : n = 2 := by omega
              have h3 : (la : Int) - (f : Int) < 32767 := by omega
              subst h2
              clear ho hn
              go_wp2_with fail
              refine (sum_any A c l _ (by omega) hA).mono ?_
              rintro e w2 ⟨rfl, hb2⟩
              replace hG := hG.below hb2
              go_wp2_with fail
              refine (sum_len _ _ c2 T HTL.out.symm _ (by rw [HTL.out]; omega) hG).mono ?_
              rintro e w3 ⟨rfl, hb3⟩
              go_wp2_with fail
              refine (works_any _).mono ?_
              rintro e w4 ⟨rfl, hb4⟩
              go_wp2_with fail
              go_ret
              have q1 := hb.size; have q2 := hb2.size; have q3 := hb3.size
              exact ⟨rfl, ((hb.trans (hb2.mono q1)).trans (hb3.mono (by omega))).trans (hb4.mono (by omega))⟩
          · have ho' : (((n : Int) % 2) == 1) = false := beq_eq_false_iff_ne.2 (by omega)
            by_cases h2 : n = 2
            · have h3 : ¬ (la : Int) - (f : Int) < 32767 := by omega
              have h3' : 32767 ≤ (la : Int) - (f : Int) := by omega
              subst h2
              clear hn
              go_wp2_with fail
              refine (works_any _).mono ?_
              rintro e w4 ⟨rfl, hb4⟩
              go_wp2_with fail
              go_ret
              exact ⟨rfl, hb.trans (hb4.mono hb.size)⟩
            · have h2' : ((n : Int) == 2) = false := beq_eq_false_iff_ne.2 (by omega)
              clear hn h2
              go_wp2_with fail
              refine (works_any _).mono ?_
              rintro e w4 ⟨rfl, hb4⟩
              go_wp2_with fail
              go_ret
              exact ⟨rfl, hb.trans (hb4.mono hb.size)⟩
theorem crcOdd_row (a0 : Option Addr) (len0 cap0 : Nat) (z0 : List Int) (a1 : Option Addr) (len1 cap1 : Nat) (z1 : List Int) (W : World) (w0 : IsRow .u8 W a0 len0 cap0 z0) (w1 : IsRow .i64 W a1 len1 cap1 z1) :
    Calls Try.prog 6 #[.slice a0 len0 cap0, .slice a1 len1 cap1] W fun e w' => e = .returned (.bool true) ∧ Below W.heap.size W w' := by
  obtain ⟨l, rfl, hl, h⟩ := w0.bytes
  obtain ⟨ps, rfl, hl1, h1, _⟩ := w1.ints
  exact odd_walk a0 a1 cap0 cap1 l ps W hl hl1 h h1
end Go.Proofs.Ytmbboljkppoohaa
