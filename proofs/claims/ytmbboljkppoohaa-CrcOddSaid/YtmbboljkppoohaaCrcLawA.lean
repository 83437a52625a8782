/- The laws on the sum of 16 bits: works, CrcSums. -/
import Derived.Test.YtmbboljkppoohaaCrcRef
namespace Go.Proofs.Ytmbboljkppoohaa
open Go.RowKit
theorem known_digits : Crc.add 0#16 [49, 50, 51, 52, 53, 54, 55, 56, 57] = 12739#16 := by decide +kernel
set_option maxHeartbeats 400000 in
theorem works_any (w : World) : Calls Try.prog 9 #[] w fun e w' => e = .returned (.bool true) ∧ Below w.heap.size w w' := by
  have kc := fun (w : World) (C : Array Value) (n c : Nat) => Lib.run_convert_bytes_const (P := Try.prog) w 23 5 C n c Try.underlying23 Try.underlying5
  go_enter Try.func9, Try.ntmps9
  go_wp2_with fail
  refine (sum_any _ _ [49, 50, 51, 52, 53, 54, 55, 56, 57] _ (by simp) ?_).mono ?_
  · exact SliceAt.block (heap_alloc_new _ _)
  rintro e w1 ⟨rfl, hb⟩
  rw [known_digits]
  go_wp2_with fail
  refine (sum_any _ _ [] _ (by simp) (SliceAt.nil _ _)).mono ?_
  rintro e w2 ⟨rfl, hb2⟩
  go_wp2_with fail
  go_ret
  exact ⟨rfl, ((Below.refl _ _).alloc (Nat.le_refl _) _).trans ((hb.mono (by simp)).trans (hb2.mono (by have := hb.size; simp at this; omega)))⟩
theorem sums_walk {n : Int} (s : BitVec 16) (hn : n = (s.toNat : Int)) (A : Option Addr) (c : Nat) (l : List UInt8) (w : World) (hl : l.length ≤ 9223372036854775807) (h : SliceAt w A (l.map u8v)) :
    Calls Try.prog 3 #[.int .u16 n, .slice A l.length c] w fun e w' => e = .returned (.bool true) ∧ Below w.heap.size w w' := by
  subst hn
  by_cases h5 : 5000 < l.length
  · go_enter Try.func3, Try.ntmps3
    go_wp2_with fail
    refine (works_any _).mono ?_
    rintro e w1 ⟨rfl, hb⟩
    go_wp2_with fail
    go_ret
    exact ⟨rfl, hb⟩
  · have e1 := run_str (dst := 9) Try.underlying23 Try.underlying5 Try.underlying9 h c
    have e2 := Lib.run_convert_string_bytes w 9 23 5 ⟨l.toArray⟩ Try.underlying9 Try.underlying23 Try.underlying5
    go_enter Try.func3, Try.ntmps3
    have hB := bytesWorld_below w 5 ⟨l.toArray⟩
    have hS := bytesWorld_slice w 5 l
    have hA := h.below hB
    have hz : w.heap.size < (Lib.bytesWorld w 5 ⟨l.toArray⟩).heap.size := by rw [Lib.bytesWorld_size]; omega
    go_wp2_with fail
    clear e1 e2
    generalize Lib.bytesWorld w 5 ⟨l.toArray⟩ = W at *
    generalize grownCap w l.length 0 5 = c2
    refine (add_any s rfl _ _ l _ (by omega) hS).mono ?_
    rintro e w1 ⟨rfl, hb1⟩
    replace hS := hS.below hb1
    replace hA := hA.below hb1
    replace hB := hB.trans (hb1.mono (by omega))
    replace hz := Nat.lt_of_lt_of_le hz hb1.size
    go_wp2_with fail
    refine (refAdd_any s rfl _ _ l _ (by omega) hA).mono ?_
    rintro e _ ⟨rfl, rfl⟩
    go_wp2_with fail
    refine (sum_any _ _ l _ (by omega) hS).mono ?_
    rintro e w2 ⟨rfl, hb2⟩
    replace hS := hS.below hb2
    replace hA := hA.below hb2
    replace hB := hB.trans (hb2.mono (by omega))
    replace hz := Nat.lt_of_lt_of_le hz hb2.size
    have e1 := run_str (dst := 9) Try.underlying23 Try.underlying5 Try.underlying9 hS c2
    have e2 := run_str (dst := 9) Try.underlying23 Try.underlying5 Try.underlying9 hA c
    go_wp2_with fail
    refine (refSum_any _ _ l _ (by omega) hA).mono ?_
    rintro e _ ⟨rfl, rfl⟩
    go_wp2_with fail
    refine (works_any _).mono ?_
    rintro e w3 ⟨rfl, hb3⟩
    go_wp2_with fail
    go_ret
    exact ⟨rfl, hB.trans (hb3.mono (by omega))⟩
theorem crcSums_row (a0 : Int) (a1 : Option Addr) (len1 cap1 : Nat) (z1 : List Int) (W : World) (w0 : (Lit.int .u16 a0).wf = true) (w1 : IsRow .u8 W a1 len1 cap1 z1) :
    Calls Try.prog 3 #[.int .u16 a0, .slice a1 len1 cap1] W fun e w' => e = .returned (.bool true) ∧ Below W.heap.size W w' := by
  obtain ⟨s, hs⟩ := bits_of_u16 w0
  obtain ⟨l, rfl, hl, h⟩ := w1.bytes
  exact sums_walk s hs a1 cap1 l W hl h
end Go.Proofs.Ytmbboljkppoohaa
