/- What the functions of the program and of the reference on the sum of 16 bits come to. -/
import Derived.Test.YtdfgcenbkclpbaaDoorCrcPure
import Derived.Test.YtdfgcenbkclpbaaDoorBase
namespace Go.Proofs.YtdfgcenbkclpbaaDoor
open Go.RowKit
theorem xor16 (a b : BitVec 16) : bits .xor .u16 (a.toNat : Int) (b.toNat : Int) = ((a ^^^ b).toNat : Int) := by
  rw [u16_xor_nat _ _ a.isLt b.isLt, BitVec.toNat_xor]
theorem shl16 (a : BitVec 16) (n : Nat) : IntKind.u16.wrap ((a.toNat : Int) * ((2 ^ n : Nat) : Int)) = ((a <<< n).toNat : Int) := by
  rw [IntKind.wrap_u16, BitVec.toNat_shiftLeft, Nat.shiftLeft_eq, ← Int.natCast_mul]; omega
theorem byte16 (x : UInt8) : (x.toNat : Int) * (256 : Int) = ((BitVec.ofNat 16 x.toNat <<< 8).toNat : Int) := by
  have := x.toNat_lt
  rw [BitVec.toNat_shiftLeft, Nat.shiftLeft_eq, BitVec.toNat_ofNat]; omega
theorem nib16 (s : BitVec 16) : bits .xor .u16 (IntKind.u16.wrap ((s.toNat : Int) * 16)) ((Crc.tab (s.toNat / 4096)).toNat : Int) = ((Crc.nib s).toNat : Int) := by
  have := shl16 s 4
  rw [show ((2 ^ 4 : Nat) : Int) = 16 from rfl] at this
  rw [this, xor16]; rfl
theorem take_snoc {α : Type} (l : List α) (k : Nat) (h : k < l.length) : l.take (k + 1) = l.take k ++ [l[k]] := by
  rw [List.take_succ_eq_append_getElem h]
/-- one bit, by the program's own test and by the reference's -/
theorem sh_of_msb {s : BitVec 16} (h : s.msb = true) : bits .xor .u16 (IntKind.u16.wrap ((s.toNat : Int) * 2)) 4129 = ((Crc.sh s).toNat : Int) := by
  have e := shl16 s 1
  rw [show ((2 ^ 1 : Nat) : Int) = 2 from rfl] at e
  rw [e, show (4129 : Int) = ((4129#16).toNat : Int) from rfl, xor16, Crc.sh, if_pos h]
theorem sh_of_not {s : BitVec 16} (h : s.msb = false) : IntKind.u16.wrap ((s.toNat : Int) * 2) = ((Crc.sh s).toNat : Int) := by
  have e := shl16 s 1
  rw [show ((2 ^ 1 : Nat) : Int) = 2 from rfl] at e
  rw [e, Crc.sh, if_neg (by simp [h])]
theorem msb_and (s : BitVec 16) : (bits .and .u16 (s.toNat : Int) 32768 != 0) = s.msb := by
  have hs := s.isLt
  rw [show (32768 : Int) = ((32768 : Nat) : Int) from rfl, u16_and_nat _ _ hs (by omega), show (32768 : Nat) = 2 ^ 15 from rfl, nat_bit, BitVec.msb_eq_decide, Bool.eq_iff_iff, bne_iff_ne, decide_eq_true_iff]
  show _ ↔ 32768 ≤ s.toNat
  omega
theorem msb_div (s : BitVec 16) : ((s.toNat : Int) / 32768 == 1) = s.msb := by
  have hs := s.isLt
  rw [BitVec.msb_eq_decide, Bool.eq_iff_iff, beq_iff_eq, decide_eq_true_iff]
  show _ ↔ 32768 ≤ s.toNat
  omega
theorem sh_yes {s : BitVec 16} (h : (bits .and .u16 (s.toNat : Int) 32768 != 0) = true) : bits .xor .u16 (IntKind.u16.wrap ((s.toNat : Int) * 2)) 4129 = ((Crc.sh s).toNat : Int) :=
  sh_of_msb (by rw [← msb_and]; exact h)
theorem sh_no {s : BitVec 16} (h : (bits .and .u16 (s.toNat : Int) 32768 != 0) = false) : IntKind.u16.wrap ((s.toNat : Int) * 2) = ((Crc.sh s).toNat : Int) :=
  sh_of_not (by rw [← msb_and]; exact h)
theorem shr_yes {s : BitVec 16} (h : ((s.toNat : Int) / 32768 == 1) = true) : bits .xor .u16 (IntKind.u16.wrap ((s.toNat : Int) * 2)) 4129 = ((Crc.sh s).toNat : Int) :=
  sh_of_msb (by rw [← msb_div]; exact h)
theorem shr_no {s : BitVec 16} (h : ((s.toNat : Int) / 32768 == 1) = false) : IntKind.u16.wrap ((s.toNat : Int) * 2) = ((Crc.sh s).toNat : Int) :=
  sh_of_not (by rw [← msb_div]; exact h)
theorem tab_start (k : Nat) (h : k < 16) : (k : Int) * (4096 : Int) = ((BitVec.ofNat 16 k <<< 12).toNat : Int) := by
  rw [BitVec.toNat_shiftLeft, Nat.shiftLeft_eq, BitVec.toNat_ofNat]; omega

def tabTo (k : Nat) : Array Value := ((List.range 16).map fun i => u16v (if i < k then Crc.tab i else 0#16)).toArray
theorem tabTo_size (k : Nat) : (tabTo k).size = 16 := by simp [tabTo]
theorem tabTo_at (k : Nat) (hk : k < 16) : (tabTo k)[k]? = some (.int .u16 0) := by simp [tabTo, hk]
theorem tabTo_16 (k : Nat) (hk : k < 16) : (tabTo 16)[k]? = some (u16v (Crc.tab k)) := by simp [tabTo, hk]
theorem tabTo_set (k : Nat) : (tabTo k).setIfInBounds k (u16v (Crc.tab k)) = tabTo (k + 1) := by
  apply Array.ext
  · simp [tabTo]
  · intro i h1 h2
    rw [Array.getElem_setIfInBounds (by simpa using h1)]
    by_cases e : k = i
    · subst e; simp [tabTo]
    · rw [if_neg e]
      simp [tabTo, show (i < k + 1) ↔ (i < k) by omega]
theorem tabTo_one (k : Nat) : (tabTo k).all (·.oneCell') = true := by
  simp [tabTo, Value.oneCell']
set_option maxHeartbeats 400000 in
theorem table_any (w : World) : Calls Tryd.prog 72 #[] w fun e w' => e = .returned (.agg (tabTo 16)) ∧ Below w.heap.size w w' := by
  go_enter Tryd.func72, Tryd.ntmps72
  go_wp2
  go_loopw [4] (fun v wr => ∃ k : Nat, k ≤ 16 ∧ v = .int .i64 k ∧ wr = w.alloc (.cells (tabTo k) 124)) (fun v _ => 16 - (intOf v).toNat)
  case atStart => exact ⟨0, by omega, rfl, rfl⟩
  case round =>
    obtain ⟨k, hk, rfl, rfl⟩ := hrel
    by_cases hlt : k < 16
    · go_wp2
      go_loop [2, 10] (fun s i => ∃ n : Nat, n ≤ 4 ∧ i = .int .i64 n ∧ s = u16v (Crc.shN n (BitVec.ofNat 16 k <<< 12))) (fun _ i => 4 - (intOf i).toNat)
      case atStart => exact ⟨0, by omega, rfl, by rw [tab_start k hlt]; rfl⟩
      case round =>
        obtain ⟨n, hn, rfl, rfl⟩ := hrel
        by_cases hn4 : n < 4
        · go_wp2
          · go_round
            case rel => exact ⟨n + 1, by omega, by go_num, by rw [sh_yes (by assumption)]; rfl⟩
            case measure => simp [intOf]; omega
          · go_round
            case rel => exact ⟨n + 1, by omega, by go_num, by rw [sh_no (by assumption)]; rfl⟩
            case measure => simp [intOf]; omega
        · have hn' : n = 4 := by omega
          subst hn'
          have hc := tabTo_at k hlt
          go_wp2
          go_roundw
          case rel => exact ⟨k + 1, by omega, by go_num, by rw [← tabTo_set k]; rfl⟩
          case measure => simp [intOf]; omega
    · have hk' : k = 16 := by omega
      subst hk'
      have hi : (Tryd.prog.info? 124).map (·.size) = some (tabTo 16).size := by rw [tabTo_size]; kernel_rfl
      go_wp2_with (first | (refine wpList_load_row rfl 124 _ rfl _ rfl 124 (tabTo 16) (0, 0) _ (heap_alloc_new _ _) Tryd.underlying124 rfl hi ?_) | (refine wpList_store_row rfl 124 _ _ rfl _ (tabTo 16) rfl rfl 124 (tabTo 16) (heap_alloc_new _ _) hi rfl (tabTo_one 16) ?_))
      simp only [World.setRow_alloc_new]
      go_wp2
      refine bodyPost_ret (results_cell_row rfl _ _ _ 124 (tabTo 16) (0, 0) _ rfl (heap_alloc_new _ _) Tryd.underlying124 rfl hi) rfl ⟨rfl, (Below.refl _ _).alloc (Nat.le_refl _) _⟩
set_option maxHeartbeats 400000 in
theorem add_any {n : Int} (s : BitVec 16) (hn : n = (s.toNat : Int)) (A : Option Addr) (c : Nat) (l : List UInt8) (w : World) (hl : l.length ≤ 140737488355328) (hs : SliceAt w A (l.map u8v)) :
    Calls Tryd.prog 70 #[.int .u16 n, .slice A l.length c] w fun e w' => e = .returned (u16v (Crc.add s l)) ∧ Below w.heap.size w w' := by
  subst hn
  have hi : (Tryd.prog.info? 124).map (·.size) = some (tabTo 16).size := by rw [tabTo_size]; kernel_rfl
  go_enter Tryd.func70, Tryd.ntmps70
  go_wp2_with (first | ((with_reducible refine (table_any _).mono ?_); rintro e w1 ⟨rfl, hb⟩) | (refine wpList_store_row rfl 124 _ _ rfl _ (tabTo 16) rfl rfl 124 _ (heap_alloc_new _ _) hi rfl (tabTo_one 16) ?_))
  simp only [World.setRow_alloc_new]
  have hs1 := hs.below hb
  have hsW : SliceAt (w1.alloc (.cells (tabTo 16) 124)) A (l.map u8v) := hs1.below ((Below.refl _ _).alloc (Nat.le_refl _) _)
  have htW : ∀ n, n < 16 → (w1.alloc (.cells (tabTo 16) 124)).cell? ⟨w1.heap.size, n, none⟩ = some (u16v (Crc.tab n)) := fun n hn => by
    rw [cell_of_row _ _ _ _ _ _ (heap_alloc_new _ _)]; exact tabTo_16 n hn
  have hbW : Below w.heap.size w (w1.alloc (.cells (tabTo 16) 124)) := hb.alloc hb.size _
  generalize w1.alloc (.cells (tabTo 16) 124) = W at *
  generalize w1.heap.size = B at *
  clear hs1 hb hi hs
  go_loop [0, 11] (fun v i => ∃ (k : Nat), k ≤ l.length ∧ i = .int .i64 k ∧ v = u16v (Crc.add s (l.take k))) (fun _ i => l.length - (intOf i).toNat)
  case atStart => exact ⟨0, by omega, rfl, rfl⟩
  case round =>
    obtain ⟨k, hk, rfl, rfl⟩ := hrel
    by_cases hlt : k < l.length
    · obtain ⟨b, off, rfl, hc⟩ := hsW.at_ k (by simpa using hlt)
      simp only [List.getElem_map, u8v] at hc
      have hx : l[k].toNat < 256 := l[k].toNat_lt
      have e1 : bits .xor .u16 ((Crc.add s (l.take k)).toNat : Int) ((l[k].toNat : Int) * (256 : Int)) = ((Crc.add s (l.take k) ^^^ (BitVec.ofNat 16 l[k].toNat <<< 8)).toNat : Int) := by rw [byte16, xor16]
      have hfin : Crc.nib (Crc.nib (Crc.add s (l.take k) ^^^ (BitVec.ofNat 16 l[k].toNat <<< 8))) = Crc.add s (l.take (k + 1)) := by
        rw [take_snoc l k hlt, Crc.add_snoc, Crc.nib_nib]; rfl
      have HF := Lib.hid hfin
      clear hfin
      generalize Crc.add s (l.take k) ^^^ (BitVec.ofNat 16 l[k].toNat <<< 8) = s1 at *
      generalize l[k].toNat = x at *
      have hs1 := s1.isLt
      have hm1 : (s1.toNat : Int) / 4096 < 16 := by omega
      have hm2 : 0 ≤ (s1.toNat : Int) / 4096 := by omega
      have ht1 := htW (s1.toNat / 4096) (by omega)
      have e2 := nib16 s1
      generalize Crc.nib s1 = s2 at *
      have hs2 := s2.isLt
      have hn1 : (s2.toNat : Int) / 4096 < 16 := by omega
      have hn2 : 0 ≤ (s2.toNat : Int) / 4096 := by omega
      have ht2 := htW (s2.toNat / 4096) (by omega)
      have e3 := nib16 s2
      clear htW
      go_wp2
      go_round
      case rel => exact ⟨k + 1, by omega, by go_num, by rw [HF.out]⟩
      case measure => simp [intOf]; omega
    · have : k = l.length := by omega
      subst this
      go_wp2
      go_ret
      exact ⟨by simp, hbW⟩
theorem add_len {n : Int} (s : BitVec 16) (hn : n = (s.toNat : Int)) (A : Option Addr) (len c : Nat) (l : List UInt8) (hlen : len = l.length) (w : World) (hl : l.length ≤ 140737488355328) (hs : SliceAt w A (l.map u8v)) :
    Calls Tryd.prog 70 #[.int .u16 n, .slice A len c] w fun e w' => e = .returned (u16v (Crc.add s l)) ∧ Below w.heap.size w w' := by
  subst hlen
  exact add_any s hn A c l w hl hs
theorem sum_any (A : Option Addr) (c : Nat) (l : List UInt8) (w : World) (hl : l.length ≤ 140737488355328) (hs : SliceAt w A (l.map u8v)) :
    Calls Tryd.prog 71 #[.slice A l.length c] w fun e w' => e = .returned (u16v (Crc.add 0#16 l)) ∧ Below w.heap.size w w' := by
  go_enter Tryd.func71, Tryd.ntmps71
  go_wp2_with ((with_reducible refine (add_any 0#16 ?_ A c l _ hl hs).mono ?_); (rfl); rintro e w1 ⟨rfl, hb⟩)
  go_ret
  exact ⟨rfl, hb⟩
end Go.Proofs.YtdfgcenbkclpbaaDoor
