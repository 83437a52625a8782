/- The halves of a journal: put, erase, generation. -/
import Derived.Test.YtdfgcenbkclpbaaDoorHalf
namespace Go.Proofs.YtdfgcenbkclpbaaDoor
open Go.RowKit
set_option linter.unusedSimpArgs false
set_option linter.unusedVariables false
theorem Fl.write_off {F : Fl} {k : Nat} {y : W4} (ho : F.off = false) (h : (F.write k y).1 ≠ 7) : (F.write k y).2.off = false := by
  unfold Fl.write at *
  split
  · exact ho
  · split
    · rename_i h1 h2; rw [if_neg h1, if_pos h2] at h; exact absurd rfl h
    · exact ho
theorem Fl.write_count (F : Fl) (k : Nat) (y : W4) : (F.write k y).2.count = F.count := by
  unfold Fl.write; split
  · rfl
  · split <;> rfl
theorem Fl.write_size (F : Fl) (k : Nat) (y : W4) : (F.write k y).2.mem.length = F.mem.length := by
  unfold Fl.write; split
  · rfl
  · split
    · rfl
    · simp
theorem Fl.erase_off {F : Fl} {i : Nat} (ho : F.off = false) (h : (F.erase i).1 = 0) : (F.erase i).2.off = false := by
  unfold Fl.erase at *
  split
  · rename_i h1; simp [h1] at h
  · exact ho
theorem Fl.erase_count (F : Fl) (i : Nat) : (F.erase i).2.count = F.count := by
  unfold Fl.erase; split <;> rfl
set_option maxRecDepth 100000 in
theorem half_put (w : World) (f s : Nat) (F : Fl) (first count i : Nat) (y : W4) (h : FlashAt w f s F) (ho : F.off = false) (hc : first + count ≤ F.count) (hi : i < 256 * count) :
    Calls Tryd.prog 54 #[halfV f first count, .int .i64 i, y.val] w fun e w' => e = .returned (.int .i64 (F.write (256 * first + i) y).1) ∧ FlashAt w' f s (F.write (256 * first + i) y).2 ∧ Touch [f, s] w w' := by
  have hfew := h.few
  have hA := (h.alloc (.cells #[ptr f, .int .i64 first, .int .i64 count] 73)).alloc (.cells #[u8v y.a, u8v y.b, u8v y.c, u8v y.d] 30)
  have hT := ((Touch.refl [f, s] w).alloc (.cells #[ptr f, .int .i64 first, .int .i64 count] 73)).alloc (.cells #[u8v y.a, u8v y.b, u8v y.c, u8v y.d] 30)
  have hk : 256 * (first + i / 256) + i % 256 = 256 * first + i := by omega
  have hr := (OwnAt.new' (w.alloc (.cells #[ptr f, .int .i64 first, .int .i64 count] 73)) #[u8v y.a, u8v y.b, u8v y.c, u8v y.d] 30 (g := w.heap.size + 1) (by simp)).all
  go_enter Tryd.func54, Tryd.ntmps54
  go_wp2_with (refine wp_load_word (y := y) (b := w.heap.size + 1) (o := 0) ?_ rfl rfl rfl ?_; (with_reducible exact hr))
  have hC := flash_write' _ f s F (first + i / 256) (i % 256) (iv := (first : Int) + (i : Int) / 256) (kv := (i : Int) % 256) (by simp) (by simp) y hA ho (by omega) (by omega)
  rw [hk] at hC
  refine hC.mono ?_
  rintro e w1 ⟨rfl, hF, hT1⟩
  go_wp2_with fail
  go_ret
  exact ⟨rfl, hF, hT.trans hT1⟩
/-- what erase comes to: n sectors from first on -/
def Fl.eraseAll (F : Fl) (first : Nat) : Nat → Int × Fl
  | 0 => (0, F)
  | n + 1 => if (F.erase first).1 = 0 then (F.erase first).2.eraseAll (first + 1) n else F.erase first
theorem Fl.erase_code (F : Fl) (i : Nat) : (F.erase i).1 = 0 ∨ (F.erase i).1 = 7 := by
  unfold Fl.erase; split <;> simp
set_option maxRecDepth 100000 in
theorem half_erase (w : World) (f s : Nat) (F : Fl) (first count : Nat) (h : FlashAt w f s F) (ho : F.off = false) (hc : first + count ≤ F.count) :
    Calls Tryd.prog 50 #[halfV f first count] w fun e w' => e = .returned (.int .i64 (F.eraseAll first count).1) ∧ FlashAt w' f s (F.eraseAll first count).2 ∧ Touch [f, s] w w' := by
  have hfew := h.few
  have hfl := h.flt
  have hsl := h.slt
  have hA := h.alloc (.cells #[ptr f, .int .i64 first, .int .i64 count] 73)
  have hT := (Touch.refl [f, s] w).alloc (.cells #[ptr f, .int .i64 first, .int .i64 count] 73)
  have hO := OwnAt.new w #[ptr f, .int .i64 first, .int .i64 count] 73
  go_enter Tryd.func50, Tryd.ntmps50
  go_wp2_with fail
  generalize w.alloc (.cells #[ptr f, .int .i64 first, .int .i64 count] 73) = W at *
  go_loopw [7] (fun v wr => ∃ (k : Nat) (G : Fl), k ≤ count ∧ v = .int .i64 k ∧ FlashAt wr f s G ∧ G.off = false ∧ G.count = F.count ∧ F.eraseAll first count = G.eraseAll (first + k) (count - k) ∧ Touch [f, s] w wr ∧ OwnAt wr w.heap.size 0 [ptr f, .int .i64 first, .int .i64 count]) (fun v _ => count - (intOf v).toNat)
  case atStart => exact ⟨0, F, by omega, rfl, hA, ho, rfl, rfl, hT, hO⟩
  case round =>
    obtain ⟨k, G, hk, rfl, hG, hgo, hgc, heq, hT, hO⟩ := hrel
    have HE := Lib.hid heq
    clear heq
    by_cases hlt : k < count
    · have c0 := hO.get 0 (by simp)
      have c1 := hO.get 1 (by simp)
      simp only [Nat.zero_add, List.getElem_cons_zero, List.getElem_cons_succ] at c0 c1
      have hlt' : (k : Int) < count := by omega
      go_wp2_with fail
      refine (flash_erase' _ f s G (first + k) (by simp) hG hgo (by omega)).mono ?_
      rintro e w1 ⟨rfl, hG1, hT1⟩
      have hst := HE.out
      rw [show count - k = (count - (k + 1)) + 1 by omega, Fl.eraseAll] at hst
      by_cases hz : (G.erase (first + k)).1 = 0
      · rw [if_pos hz] at hst
        have hoff := Fl.erase_off hgo hz
        have hcnt := Fl.erase_count G (first + k)
        rw [hz]
        have HS := Lib.hid hst
        clear hst hz
        generalize (G.erase (first + k)).2 = G2 at *
        go_wp2_with fail
        go_roundw
        case rel => exact ⟨k + 1, G2, by omega, by go_num, hG1, hoff, hcnt.trans hgc, HS.out, hT.trans hT1, hO.touch hT1 (by simp; omega)⟩
        case measure => simp [intOf]; omega
      · rw [if_neg hz] at hst
        have h7 : (G.erase (first + k)).1 = 7 := (Fl.erase_code G (first + k)).resolve_left hz
        rw [h7]
        have HS := Lib.hid hst
        have H7 := Lib.hid h7
        clear hst hz h7
        go_wp2_with fail
        go_ret
        rw [HS.out, H7.out]
        exact ⟨rfl, hG1, hT.trans hT1⟩
    · have : k = count := by omega
      subst this
      go_wp2_with fail
      go_ret
      have := HE.out
      rw [Nat.sub_self, Fl.eraseAll] at this
      rw [this]
      exact ⟨rfl, hG, hT⟩
theorem not_u32 (m : Nat) (h : m < 4294967296) : bits .xor .u32 IntKind.u32.max (m : Int) = ((4294967295 - m : Nat) : Int) := by
  rw [show IntKind.u32.max = ((4294967295 : Nat) : Int) from rfl, u32_xor_nat _ _ (by omega) h]
  have h1 := BitVec.toNat_not (x := BitVec.ofNat 32 m)
  rw [BitVec.not_def, BitVec.toNat_xor, BitVec.toNat_allOnes, BitVec.toNat_ofNat, Nat.mod_eq_of_lt (a := m) (by omega)] at h1
  congr 1
/-- is a generation whole? -/
def genOk (x y : W4) : Bool := x.num != 0 && x.num != 4294967295 && y.num == 4294967295 - x.num
set_option maxRecDepth 100000 in
theorem half_generation (w : World) (f s : Nat) (F : Fl) (first count : Nat) (x y : W4) (h : FlashAt w f s F) (ho : F.off = false) (hc : first + count ≤ F.count) (hp : 0 < count) (hx : F.mem[256 * first]? = some x) (hy : F.mem[256 * first + 1]? = some y) :
    Calls Tryd.prog 38 #[halfV f first count] w fun e w' => e = .returned (.tuple #[.int .u32 x.num, .bool (genOk x y)]) ∧ Touch [] w w' := by
  have hfew := h.few
  have hA := h.alloc (.cells #[ptr f, .int .i64 first, .int .i64 count] 73)
  have hT := (Touch.refl [] w).alloc (.cells #[ptr f, .int .i64 first, .int .i64 count] 73)
  have hO := OwnAt.new w #[ptr f, .int .i64 first, .int .i64 count] 73
  have hlx := x.num_lt
  have hly := y.num_lt
  have hnx := fun W => number_any W x
  have hny := fun W => number_any W y
  have hat := fun W hF => half_at W f s F first count 0 x hF ho hc (by omega) hx
  have hat1 := fun W hF => half_at W f s F first count 1 y hF ho hc (by omega) hy
  have hg : genOk x y = (x.num != 0 && x.num != 4294967295 && y.num == 4294967295 - x.num) := rfl
  generalize genOk x y = g at *
  generalize x.num = m at *
  generalize y.num = m' at *
  have hnot := not_u32 m hlx
  have HG := Lib.hid hg
  clear hg
  go_enter Tryd.func38, Tryd.ntmps38
  go_wp2_with fail
  refine (hat _ hA).mono ?_
  rintro e w1 ⟨rfl, hT1⟩
  go_wp2_with fail
  refine (hnx _).mono ?_
  rintro e w2 ⟨rfl, hT2⟩
  have hO2 := (hO.touch hT1 (by simp)).touch hT2 (by simp)
  have hA2 := (hA.touch hT1 (by simp) (by simp)).touch hT2 (by simp) (by simp)
  have c0 := hO2.get 0 (by simp)
  have c1 := hO2.get 1 (by simp)
  have c2 := hO2.get 2 (by simp)
  simp only [Nat.zero_add, List.getElem_cons_zero, List.getElem_cons_succ] at c0 c1 c2
  have hTT := (hT.trans hT1).trans hT2
  clear hO hO2 hA hT
  by_cases h0 : m = 0
  · have hgf : g = false := by rw [HG.out, h0]; rfl
    subst h0; subst hgf
    go_wp2_with fail
    go_ret2
    exact ⟨rfl, hTT⟩
  · have b0 : ((m : Int) != 0) = true := bne_iff_ne.2 (by omega)
    by_cases h1 : m = 4294967295
    · have b1 : ((m : Int) != 4294967295) = false := by rw [h1]; rfl
      have hgf : g = false := by rw [HG.out, h1]; rfl
      subst hgf
      clear h1 HG
      go_wp2_with fail
      go_ret2
      exact ⟨rfl, hTT⟩
    · have b1 : ((m : Int) != 4294967295) = true := bne_iff_ne.2 (by omega)
      have hgt : g = ((m' : Int) == ((4294967295 - m : Nat) : Int)) := by
        rw [HG.out, show (m != 0) = true from bne_iff_ne.2 h0, show (m != 4294967295) = true from bne_iff_ne.2 h1, Bool.true_and, Bool.true_and, Bool.eq_iff_iff, beq_iff_eq, beq_iff_eq]; omega
      subst hgt
      clear h0 h1 HG
      go_wp2_with fail
      refine (hat1 _ hA2).mono ?_
      rintro e w3 ⟨rfl, hT3⟩
      go_wp2_with fail
      refine (hny _).mono ?_
      rintro e w4 ⟨rfl, hT4⟩
      go_wp2_with fail
      go_ret2
      exact ⟨rfl, (hTT.trans hT3).trans hT4⟩
end Go.Proofs.YtdfgcenbkclpbaaDoor
