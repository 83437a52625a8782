/- The law JournalAny, walked. -/
import Derived.Test.YtdfgcenbkclpbaaDoorLoads
namespace Go.Proofs.YtdfgcenbkclpbaaDoor
open Go.RowKit
set_option linter.unusedSimpArgs false
set_option linter.unusedVariables false
theorem Fl.write_stays {F : Fl} (k : Nat) (y : W4) (ho : F.off = false) (ha : F.armed = false) : (F.write k y).2.off = false ∧ (F.write k y).2.armed = false ∧ (F.write k y).2.count = F.count := by
  have hs : F.stops = false := by unfold Fl.stops; rw [ha]; rfl
  unfold Fl.write
  rw [hs]
  split
  · exact ⟨ho, ha, rfl⟩
  · rw [if_neg (by simp)]; exact ⟨ho, ha, rfl⟩
set_option maxRecDepth 100000 in
set_option maxHeartbeats 3200000 in
theorem any_walk (w : World) (hg : w.rangeAt 0 0 W4.free.cells) (Ab Ax : Option Addr) (cb cx : Nat) (b x : List UInt8) (at_ : Int) (gr : Nat) (hgr : gr < 256) (hA : SliceAt w Ab (b.map u8v)) (hX : SliceAt w Ax (x.map u8v)) (hnx : Ax = none → x.length = 0 ∧ cx = 0) (hbl : b.length ≤ 9223372036854775807) (hxl : x.length ≤ 9223372036854775807)
    (hat : -9223372036854775808 ≤ at_ ∧ at_ ≤ 9223372036854775807) :
    Calls Tryd.prog 3 #[.slice Ab b.length cb, .int .i64 at_, .int .u8 gr, .slice Ax x.length cx] w fun e w' => e = .returned (.bool true) ∧ Touch [] w w' := by
  have h0 := glob_pos hg
  by_cases hl : 3072 < b.length ∨ 200 < x.length
  · by_cases hb : 3072 < b.length
    · have hbI : (3072 : Int) < b.length := by omega
      clear hl
      go_enter Tryd.func3, Tryd.ntmps3
      go_wp2_with fail
      refine (works_any _ hg).mono ?_
      rintro e w1 ⟨rfl, hT⟩
      go_wp2_with fail
      go_ret
      exact ⟨rfl, hT⟩
    · have hbI : (b.length : Int) ≤ 3072 := by omega
      have hxI : (200 : Int) < x.length := by omega
      clear hl
      go_enter Tryd.func3, Tryd.ntmps3
      go_wp2_with fail
      refine (works_any _ hg).mono ?_
      rintro e w1 ⟨rfl, hT⟩
      go_wp2_with fail
      go_ret
      exact ⟨rfl, hT⟩
  · have hbI : (b.length : Int) ≤ 3072 := by omega
    have hxI : (x.length : Int) ≤ 200 := by omega
    clear hl
    go_enter Tryd.func3, Tryd.ntmps3
    go_wp2_with fail
    refine (flash_new _ 3 (by omega) (by omega)).mono ?_
    rintro e w1 ⟨f, s, rfl, hf, hs, hF, t1⟩
    have g1 := glob_to hg t1 (by simp)
    have s1 := t1.size
    go_wp2_with fail
    obtain ⟨q, hq, hq2⟩ : ∃ q : Nat, wrap64 ((IntKind.u64.wrap at_).tmod 768) = (q : Int) ∧ q < 768 := by
      have h1 : 0 ≤ IntKind.u64.wrap at_ := by rw [IntKind.wrap_u64]; omega
      refine ⟨((IntKind.u64.wrap at_) % 768).toNat, ?_, by omega⟩
      rw [Int.tmod_eq_emod_of_nonneg h1]
      unfold wrap64
      omega
    rw [hq]
    have hqI : (q : Int) < 768 := by omega
    clear hq hat
    generalize hF0 : (⟨List.replicate (256 * 3) W4.free, 3, false, 0, false, 0⟩ : Fl) = F0 at hF
    have hF1 : F0.off = false ∧ F0.armed = false ∧ F0.count = 3 := by subst hF0; exact ⟨rfl, rfl, rfl⟩
    clear hF0
    go_loopw [12, 13] (fun v v13 wr => ∃ (m : Nat) (F : Fl), 4 * m ≤ b.length ∧ v = .int .i64 (4 * m : Nat) ∧ FlashAt wr f s F ∧ F.off = false ∧ F.armed = false ∧ F.count = 3 ∧ Touch [f, s] w1 wr) (fun v _ _ => b.length - (intOf v).toNat)
    case atStart => exact ⟨0, F0, by omega, rfl, hF, hF1.1, hF1.2.1, hF1.2.2, Touch.refl _ _⟩
    case round =>
      obtain ⟨m, F, hm, rfl, hF, hoff, harm, hcnt, hT⟩ := hrel
      by_cases hlt : 4 * m + 4 ≤ b.length
      · have hltI : ((4 * m : Nat) : Int) + 4 ≤ (b.length : Int) := by omega
        have hm0 : (0 : Int) ≤ ((4 * m : Nat) : Int) := by omega
        have td := Touch.dr wr
        have TD := hT.to td
        have hAd : SliceAt wr.drew Ab (b.map u8v) := hA.to (t1.to TD)
        obtain ⟨B, off, rfl, c0⟩ := hAd.at_ (4 * m) (by simp; omega)
        obtain ⟨B', off', e1, c1⟩ := hAd.at_ (4 * m + 1) (by simp; omega)
        obtain ⟨B2, off2, e2, c2⟩ := hAd.at_ (4 * m + 2) (by simp; omega)
        obtain ⟨B3, off3, e3, c3⟩ := hAd.at_ (4 * m + 3) (by simp; omega)
        cases e1; cases e2; cases e3
        simp only [List.getElem_map] at c0 c1 c2 c3
        obtain ⟨k, hk⟩ : ∃ k, (q + m) % 768 = k := ⟨_, rfl⟩
        have hkI : ((q : Int) + (m : Int)) % 768 = (k : Int) := by omega
        have hk2 : (k : Int) < 768 := by omega
        have hHK := Lib.hid hkI
        clear hkI hk
        go_wp2_with fail
        rw [hHK.out]
        refine wp_region_by [⟨false, [0, 1, 2, 3, 4, 5, 6, 7, 9, 10, 11, 12, 14, 15, 16, 17, 19, 20, 21, 22], none⟩, ⟨true, [8, 13, 18, 23], some 24⟩, ⟨false, [], some 25⟩] (by kernel_rfl) (by kernel_rfl) ?_
        refine by_row ?_ (fun w' => ?_) ?_ ?_
        rotate_left
        · simp only [pick, nthOp]; go_wp2_with fail; refine And.intro ?_ ?_ <;> rfl
        · kernel_rfl
        refine by_here ?_ ?_ ?_ ?_
        rotate_left
        · simp only [pick, nthOp]; go_wp2_with fail; refine And.intro ?_ ?_ <;> rfl
        · kernel_rfl
        simp only [pick, nthOp]
        go_wp2_with fail
        refine by_any ?_ (fun w' => ?_) ?_ ?_
        rotate_left
        · simp only [pick, nthOp]; go_wp2_with fail; refine And.intro ?_ ?_ <;> rfl
        · kernel_rfl
        simp only [pick, nthOp]
        go_wp2_with fail
        refine (flash_write' (iv := (k : Int) / 256) (kv := (k : Int) % 256) _ f s F (k / 256) (k % 256) (by omega) (by omega) ⟨b[4 * m], b[4 * m + 1], b[4 * m + 2], b[4 * m + 3]⟩ (hF.to td) hoff (by omega) (by omega)).mono ?_
        rintro e w2 ⟨rfl, hF2, t2⟩
        obtain ⟨s0, s1', s2⟩ := F.write_stays (256 * (k / 256) + k % 256) ⟨b[4 * m], b[4 * m + 1], b[4 * m + 2], b[4 * m + 3]⟩ hoff harm
        have T2 := TD.to t2
        go_wp2_with fail
        refine by_onward ?_
        go_wp2_with fail
        go_roundw
        case rel => exact ⟨m + 1, _, by omega, by go_num, hF2, s0, s1', s2.trans hcnt, T2⟩
        case measure => simp [intOf]; omega
      · have hltI : (b.length : Int) < ((4 * m : Nat) : Int) + 4 := by omega
        have hmI : ((4 * m : Nat) : Int) ≤ (b.length : Int) := by omega
        have hm0 : (0 : Int) ≤ ((4 * m : Nat) : Int) := by omega
        have T := t1.to hT
        have g2 := glob_to hg T (by simp)
        clear hA hm hlt
        go_wp2_with fail
        refine (open_any _ f s F 0 3 hF hoff g2 (by omega) (by omega) (by omega)).mono ?_
        intro e w2 hop
        have hop2 : ∃ j K G, e = .returned (.tuple #[ptr j, .int .i64 0]) ∧ Opened wr f s 0 (3 / 2) j K G w2 ∧ opened (K.slots.map Slot.p) = K.slots.map Slot.p ∧ G.armed = false ∧ G.count = 3 ∧ Touch [f, s] wr w2 := by
          rcases hop with ⟨j, K, rfl, hO, hk, hr, ht⟩ | ⟨j, K, G, rfl, hO, _, hP, hu, ht⟩ | ⟨G, _, _, _, h, _⟩
          · exact ⟨j, K, F, rfl, hO, Fl.readAll_opened hr.symm, harm, hcnt, ht.mono (by simp)⟩
          · exact ⟨j, K, G, rfl, hO, by rw [hP]; exact opened_blanks, hu.armed.trans harm, hu.count.trans hcnt, ht⟩
          · rw [harm] at h; cases h
        clear hop
        obtain ⟨j, K, G, rfl, hO, hopn, hga, hgc, t2⟩ := hop2
        have hJ := hO.jn
        have hG := hO.flash
        have hk := hO.keeps
        have hcut := hO.cut
        have hgo := hO.off
        have hj := hO.fresh
        have T2 := T.to t2
        have sT := T.size
        have sT2 := t2.size
        have hjl := hJ.lt
        have hfl := hG.flt
        have hsl := hG.slt
        have g3 := glob_to g2 t2 (by simp; omega)
        clear hO hF
        go_wp2_with fail
        refine (groups_any _ j f s K hJ).mono ?_
        rintro e w3 ⟨v, rfl, hv, t3⟩
        have T3 := T2.to t3
        have g4 := glob_to g3 t3 (by simp)
        go_wp2_with fail
        obtain ⟨g, hg1, hg2⟩ : ∃ g : Nat, (gr : Int) % 16 = (g : Int) ∧ g < 16 := ⟨gr % 16, by omega, by omega⟩
        rw [hg1]
        have hk1 : Keeps G 0 1 K := hk
        refine (store_does _ j f s K G 0 1 g x Ax cx (hJ.to t3) (hG.to t3) (by omega) hcut hgo (by omega) (hX.to T3) hnx hk1).mono ?_
        rintro e w4 ⟨code, G', K', rfl, hG', hJ', t4, hd⟩
        have T4 := T3.to t4
        have g5 := glob_to g4 t4 (by simp; omega)
        obtain ⟨P, hP⟩ : ∃ P, K.slots.map Slot.p = P := ⟨_, rfl⟩
        have hP16 : P.length = 16 := by rw [← hP, List.length_map]; exact hJ.sixteen
        rw [hP] at hd hopn
        rw [there_p, hP] at hv
        have hd2 : ∃ P', Did G 0 1 P' G' K' ∧ opened P' = P' ∧ (∀ (i : Nat) (y : PSlot), P[i]? = some y → y.there = true → ∃ y' : PSlot, P'[i]? = some y' ∧ y'.there = true) ∧ (code = 60 ∨ (code = 0 ∧ loadP P' g = (true, x))) := by
          rcases hd with ⟨rfl, hd⟩ | ⟨_, _, hd⟩
          · unfold refStore at hd ⊢
            rw [if_neg (by omega), if_neg (by omega)] at hd ⊢
            split
            · rename_i h1
              rw [if_pos h1] at hd
              exact ⟨P, hd, hopn, fun i y h1 h2 => ⟨y, h1, h2⟩, Or.inl rfl⟩
            · rename_i h1
              rw [if_neg h1] at hd
              refine ⟨_, hd, by rw [opened_set, hopn]; rfl, fun i y h1 h2 => ?_, Or.inr ⟨rfl, ?_⟩⟩
              · by_cases e : g = i
                · subst e; exact ⟨_, List.getElem?_set_self (by omega), rfl⟩
                · exact ⟨y, by rw [List.getElem?_set_ne e]; exact h1, h2⟩
              · exact loadP_there (y := ⟨true, false, x⟩) (List.getElem?_set_self (by omega)) rfl
          · have := hd.armed
            rw [hga] at this; cases this
        clear hd
        obtain ⟨P', hd, hop', hkeep, hcode⟩ := hd2
        obtain ⟨l, cap, rfl, hl, hlc, hln, hlb⟩ := ownsRow_slice' hv
        have hcnt' : G'.count = 3 := hd.out.count.trans hgc
        have hH := hd.keeps.holds
        rw [hd.slots, hop'] at hH
        have hH1 : Holds G' 0 (3 / 2) K'.first K'.other K'.gen K'.next P' := hH
        have hPK : K'.slots.map Slot.p = P' := hd.slots
        have hoff' := hd.off
        clear hd hH hk hk1 hcut hgo hv
        have hall : ∀ n (hn : n < (thereP P 0).length), ∃ i, i < 16 ∧ ∃ y' : PSlot, u8v (thereP P 0)[n] = .int .u8 (i : Nat) ∧ P'[i]? = some y' ∧ y'.there = true := fun n hn => by
          obtain ⟨i, y, h1, h2, h3⟩ := thereP_mem (List.getElem?_eq_getElem hn)
          obtain ⟨y', h4, h5⟩ := hkeep i y h2 h3
          have hi : i < 16 := by have := (List.getElem?_eq_some_iff.1 h2).1; omega
          refine ⟨i, hi, y', ?_, h4, h5⟩
          rw [h1]
          simp [u8v]
          omega
        have hd8 : ∀ y' ∈ P', y'.b.length ≤ 4096 := fun y' hy => by
          rw [← hPK] at hy
          obtain ⟨sl, h1, rfl⟩ := List.mem_map.1 hy
          exact (hJ'.slots sl h1).2.1
        have hL16 : (thereP P 0).length ≤ 16 := by rw [← hP, ← there_p]; have := thereFrom_length K.slots 0; have := hJ.sixteen; omega
        clear hkeep
        rcases hcode with rfl | ⟨rfl, hld⟩
        ·
          go_wp2_with fail
          refine (open_held _ f s G' 0 3 _ _ _ _ _ hH1 hG' hoff' g5 (by omega) (by omega) (by omega)).mono ?_
          rintro e w5 ⟨j2, K2, rfl, hO, hP2, t5⟩
          have T5 := T4.to t5
          have g6 := glob_to g5 t5 (by simp)
          have hJ2 := hO.jn
          have hJ1 := hJ'.to t5
          have hl5 := hl.to (t4.to t5) (fun y hy hm => by have := hlb y hy; simp at hm; omega)
          clear hO hH1 hG' hl
          go_wp2_with fail
          rw [hg1]
          refine (load_p _ j2 f s K2 g P' hJ2 hP2 (by omega)).mono ?_
          rintro e w6 ⟨A6, c6, rfl, hv6, t6⟩
          have T6 := T5.to t6
          go_wp2_with fail
          have hJ1' := hJ1.to t6
          have hJ2' := hJ2.to t6
          have hl6 := hl5.to t6 (by simp)
          have g7 := glob_to g6 t6 (by simp)
          generalize thereP P 0 = L at *
          have hLI : (L.length : Int) ≤ 16 := by omega
          go_loopw [22, 23, 24, 25, 26] (fun v _ _ _ _ wl => ∃ n : Nat, n ≤ L.length ∧ v = .int .i64 n ∧ Touch [] w6 wl) (fun v _ _ _ _ _ => L.length - (intOf v).toNat)
          case atStart => exact ⟨0, by omega, rfl, Touch.refl _ _⟩
          case round =>
            obtain ⟨n, hn, rfl, hR⟩ := hrel
            by_cases hlt : n < L.length
            · have hltI : (n : Int) < (L.length : Int) := by omega
              obtain ⟨B, off, hB, hcell⟩ := (hl6.to hR (by simp)).at_ n (by simp; exact hlt)
              obtain ⟨i, hi, y', hcv, hy, hty⟩ := hall n hlt
              rw [List.getElem_map, hcv] at hcell
              have e0 := loadP_there hy hty
              have hb := hd8 _ (List.mem_of_getElem? hy)
              generalize y'.b = bb at *
              cases hB
              clear hl6 hl5 hall hy hty hcv hlb hln
              have hJa := hJ1'.to hR
              have hJb := hJ2'.to hR
              go_wp2_with fail
              refine (load_p _ j f s K' i P' hJa hPK (by omega)).mono ?_
              rintro e w7 ⟨A7, c7, rfl, hv7, t7⟩
              rw [e0] at hv7 ⊢
              have hcell7 := t7.cell hcell (by simp)
              go_wp2_with fail
              refine (load_p _ j2 f s K2 i P' (hJb.to t7) hP2 (by omega)).mono ?_
              rintro e w8 ⟨A8, c8, rfl, hv8, t8⟩
              rw [e0] at hv8 ⊢
              obtain ⟨_, _, q7, hs7, _⟩ := ownsRow_slice' hv7
              cases q7
              obtain ⟨_, _, q8, hs8, _⟩ := ownsRow_slice' hv8
              cases q8
              have x7 := run_str (dst := 9) Tryd.underlying22 Tryd.underlying5 Tryd.underlying9 (hs7.to t8) c7
              have x8 := run_str (dst := 9) Tryd.underlying22 Tryd.underlying5 Tryd.underlying9 hs8 c8
              have tR := (hR.to t7).to t8
              clear hv7 hv8 hs7 hs8
              go_wp2_with fail
              go_roundw
              case rel => exact ⟨n + 1, by omega, by go_num, tR⟩
              case measure => simp [intOf]; omega
            · have : n = L.length := by omega
              subst this
              go_wp2_with fail
              refine (works_any _ (glob_to g7 hR (by simp))).mono ?_
              rintro e w9 ⟨rfl, t9⟩
              go_wp2_with fail
              go_ret
              exact ⟨rfl, (T6.to hR).to t9⟩
        ·
          go_wp2_with fail
          refine (open_held _ f s G' 0 3 _ _ _ _ _ hH1 hG' hoff' g5 (by omega) (by omega) (by omega)).mono ?_
          rintro e w5 ⟨j2, K2, rfl, hO, hP2, t5⟩
          have T5 := T4.to t5
          have g6 := glob_to g5 t5 (by simp)
          have hJ2 := hO.jn
          have hJ1 := hJ'.to t5
          have hl5 := hl.to (t4.to t5) (fun y hy hm => by have := hlb y hy; simp at hm; omega)
          clear hO hH1 hG' hl
          go_wp2_with fail
          rw [hg1]
          refine (load_p _ j2 f s K2 g P' hJ2 hP2 (by omega)).mono ?_
          rintro e w6 ⟨A6, c6, rfl, hv6, t6⟩
          have T6 := T5.to t6
          rw [hld] at hv6 ⊢
          obtain ⟨_, _, q6, hs6, _⟩ := ownsRow_slice' hv6
          cases q6
          have x1 := run_str (dst := 9) Tryd.underlying22 Tryd.underlying5 Tryd.underlying9 hs6 c6
          have x2 := run_str (dst := 9) Tryd.underlying22 Tryd.underlying5 Tryd.underlying9 (hX.to T6) cx
          go_wp2_with fail
          clear x1 x2
          have hJ1' := hJ1.to t6
          have hJ2' := hJ2.to t6
          have hl6 := hl5.to t6 (by simp)
          have g7 := glob_to g6 t6 (by simp)
          generalize thereP P 0 = L at *
          have hLI : (L.length : Int) ≤ 16 := by omega
          go_loopw [22, 23, 24, 25, 26] (fun v _ _ _ _ wl => ∃ n : Nat, n ≤ L.length ∧ v = .int .i64 n ∧ Touch [] w6 wl) (fun v _ _ _ _ _ => L.length - (intOf v).toNat)
          case atStart => exact ⟨0, by omega, rfl, Touch.refl _ _⟩
          case round =>
            obtain ⟨n, hn, rfl, hR⟩ := hrel
            by_cases hlt : n < L.length
            · have hltI : (n : Int) < (L.length : Int) := by omega
              obtain ⟨B, off, hB, hcell⟩ := (hl6.to hR (by simp)).at_ n (by simp; exact hlt)
              obtain ⟨i, hi, y', hcv, hy, hty⟩ := hall n hlt
              rw [List.getElem_map, hcv] at hcell
              have e0 := loadP_there hy hty
              have hb := hd8 _ (List.mem_of_getElem? hy)
              generalize y'.b = bb at *
              cases hB
              clear hl6 hl5 hall hy hty hcv hlb hln
              have hJa := hJ1'.to hR
              have hJb := hJ2'.to hR
              go_wp2_with fail
              refine (load_p _ j f s K' i P' hJa hPK (by omega)).mono ?_
              rintro e w7 ⟨A7, c7, rfl, hv7, t7⟩
              rw [e0] at hv7 ⊢
              have hcell7 := t7.cell hcell (by simp)
              go_wp2_with fail
              refine (load_p _ j2 f s K2 i P' (hJb.to t7) hP2 (by omega)).mono ?_
              rintro e w8 ⟨A8, c8, rfl, hv8, t8⟩
              rw [e0] at hv8 ⊢
              obtain ⟨_, _, q7, hs7, _⟩ := ownsRow_slice' hv7
              cases q7
              obtain ⟨_, _, q8, hs8, _⟩ := ownsRow_slice' hv8
              cases q8
              have x7 := run_str (dst := 9) Tryd.underlying22 Tryd.underlying5 Tryd.underlying9 (hs7.to t8) c7
              have x8 := run_str (dst := 9) Tryd.underlying22 Tryd.underlying5 Tryd.underlying9 hs8 c8
              have tR := (hR.to t7).to t8
              clear hv7 hv8 hs7 hs8
              go_wp2_with fail
              go_roundw
              case rel => exact ⟨n + 1, by omega, by go_num, tR⟩
              case measure => simp [intOf]; omega
            · have : n = L.length := by omega
              subst this
              go_wp2_with fail
              refine (works_any _ (glob_to g7 hR (by simp))).mono ?_
              rintro e w9 ⟨rfl, t9⟩
              go_wp2_with fail
              go_ret
              exact ⟨rfl, (T6.to hR).to t9⟩
theorem IsRow.nil_cap {k : IntKind} {w : World} {len cap : Nat} {zs : List Int} (h : IsRow k w none len cap zs) : len = 0 ∧ cap = 0 := by
  rcases h with ⟨_, rfl, rfl, _⟩ | ⟨_, h, _⟩
  · exact ⟨rfl, rfl⟩
  · cases h
theorem journalAny_row (a0 : Option Addr) (len0 cap0 : Nat) (z0 : List Int) (a1 a2 : Int) (a3 : Option Addr) (len3 cap3 : Nat) (z3 : List Int) (W : World) (hg : W.rangeAt 0 0 W4.free.cells) (w0 : IsRow .u8 W a0 len0 cap0 z0) (w1 : (Lit.int .i64 a1).wf = true) (w2 : (Lit.int .u8 a2).wf = true) (w3 : IsRow .u8 W a3 len3 cap3 z3) :
    Calls Tryd.prog 3 #[.slice a0 len0 cap0, .int .i64 a1, .int .u8 a2, .slice a3 len3 cap3] W fun e w' => e = .returned (.bool true) ∧ Below W.heap.size W w' := by
  have hn : a3 = none → len3 = 0 ∧ cap3 = 0 := fun e => by subst e; exact w3.nil_cap
  obtain ⟨b, rfl, hb, hB⟩ := w0.bytes
  obtain ⟨x, rfl, hx, hX⟩ := w3.bytes
  obtain ⟨n, rfl⟩ : ∃ n : Nat, a2 = (n : Int) := ⟨a2.toNat, by have := wf_u8 w2; omega⟩
  have h2 := wf_u8 w2
  have h1 : -9223372036854775808 ≤ a1 ∧ a1 ≤ 9223372036854775807 := by simp [Lit.wf, IntKind.min, IntKind.max, IntKind.bits, IntKind.signed] at w1; omega
  refine (any_walk W hg a0 a3 cap0 cap3 b x a1 n (by omega) hB hX hn hb hx h1).mono ?_
  rintro e w' ⟨rfl, hT⟩
  exact ⟨rfl, hT.below⟩
end Go.Proofs.YtdfgcenbkclpbaaDoor
