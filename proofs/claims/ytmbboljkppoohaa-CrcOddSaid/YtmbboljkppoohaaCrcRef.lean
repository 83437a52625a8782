/- What the reference's functions on the sum of 16 bits come to. -/
import Derived.Test.YtmbboljkppoohaaCrcWalk
namespace Go.Proofs.Ytmbboljkppoohaa
open Go.RowKit
set_option maxHeartbeats 400000 in
theorem refAdd_any {n : Int} (s : BitVec 16) (hn : n = (s.toNat : Int)) (A : Option Addr) (c : Nat) (l : List UInt8) (w : World) (hl : l.length ≤ 140737488355328) (hs : SliceAt w A (l.map u8v)) :
    Calls Try.prog 11 #[.int .u16 n, .slice A l.length c] w fun e w' => e = .returned (u16v (Crc.add s l)) ∧ w = w' := by
  subst hn
  go_enter Try.func11, Try.ntmps11
  go_wp2
  go_loop [0, 5] (fun v i => ∃ (k : Nat), k ≤ l.length ∧ i = .int .i64 k ∧ v = u16v (Crc.add s (l.take k))) (fun _ i => l.length - (intOf i).toNat)
  case atStart => exact ⟨0, by omega, rfl, rfl⟩
  case round =>
    obtain ⟨k, hk, rfl, rfl⟩ := hrel
    by_cases hlt : k < l.length
    · obtain ⟨b, off, rfl, hc⟩ := hs.at_ k (by simpa using hlt)
      simp only [List.getElem_map, u8v] at hc
      have hx : l[k].toNat < 256 := l[k].toNat_lt
      have e1 : bits .xor .u16 ((Crc.add s (l.take k)).toNat : Int) ((l[k].toNat : Int) * (256 : Int)) = ((Crc.add s (l.take k) ^^^ (BitVec.ofNat 16 l[k].toNat <<< 8)).toNat : Int) := by rw [byte16, xor16]
      have hfin : Crc.shN 8 (Crc.add s (l.take k) ^^^ (BitVec.ofNat 16 l[k].toNat <<< 8)) = Crc.add s (l.take (k + 1)) := by
        rw [take_snoc l k hlt, Crc.add_snoc]; rfl
      have HF := Lib.hid hfin
      clear hfin
      generalize Crc.add s (l.take k) ^^^ (BitVec.ofNat 16 l[k].toNat <<< 8) = s1 at *
      generalize l[k].toNat = x at *
      go_wp2
      go_loop [0, 6] (fun v i => ∃ n : Nat, n ≤ 8 ∧ i = .int .i64 n ∧ v = u16v (Crc.shN n s1)) (fun _ i => 8 - (intOf i).toNat)
      case atStart => exact ⟨0, by omega, rfl, rfl⟩
      case round =>
        obtain ⟨n, hn, rfl, rfl⟩ := hrel
        by_cases hn8 : n < 8
        · have hs2 := (Crc.shN n s1).isLt
          go_wp2
          · go_round
            case rel => exact ⟨n + 1, by omega, by go_num, by rw [shr_yes (by assumption)]; rfl⟩
            case measure => simp [intOf]; omega
          · go_round
            case rel => exact ⟨n + 1, by omega, by go_num, by rw [shr_no (by assumption)]; rfl⟩
            case measure => simp [intOf]; omega
        · have hn' : n = 8 := by omega
          subst hn'
          go_wp2
          go_round
          case rel => exact ⟨k + 1, by omega, by go_num, by rw [HF.out]⟩
          case measure => simp [intOf]; omega
    · have : k = l.length := by omega
      subst this
      go_wp2
      go_ret
      exact ⟨by simp, rfl⟩
theorem refSum_any (A : Option Addr) (c : Nat) (l : List UInt8) (w : World) (hl : l.length ≤ 140737488355328) (hs : SliceAt w A (l.map u8v)) :
    Calls Try.prog 13 #[.slice A l.length c] w fun e w' => e = .returned (u16v (Crc.add 0#16 l)) ∧ w = w' := by
  go_enter Try.func13, Try.ntmps13
  go_wp2_with ((with_reducible refine (refAdd_any 0#16 ?_ A c l _ hl hs).mono ?_); (rfl); rintro e w1 ⟨rfl, rfl⟩)
  go_ret
  exact ⟨rfl, rfl⟩
end Go.Proofs.Ytmbboljkppoohaa
