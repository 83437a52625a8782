/- The law JournalTwo, walked. -/
import Derived.Test.YtdfgcenbkclpbaaDoorDuo
namespace Go.Proofs.YtdfgcenbkclpbaaDoor
open Go.RowKit
set_option linter.unusedSimpArgs false
set_option linter.unusedVariables false
set_option maxRecDepth 100000 in
set_option maxHeartbeats 6400000 in
theorem two_walk (w : World) (hg : w.rangeAt 0 0 W4.free.cells) (A B : Option Addr) (ca cb : Nat) (la lb : List OpP) (hA : OpsAt w A la) (hB : OpsAt w B lb) (hla : la.length ≤ 9223372036854775807) (hlb : lb.length ≤ 9223372036854775807) :
    Calls Tryd.prog 4 #[.slice A la.length ca, .slice B lb.length cb] w fun e w' => e = .returned (.bool true) ∧ Touch [] w w' := by
  have h0 := glob_pos hg
  go_enter Tryd.func4, Tryd.ntmps4
  go_wp2_with fail
  refine (large_any _ A ca la hA hla).mono ?_
  rintro e w1 ⟨r1, rfl, hr1, t1⟩
  have g1 := glob_to hg t1 (by simp)
  cases r1 with
  | true =>
    go_wp2_with fail
    refine (works_any _ g1).mono ?_
    rintro e w2 ⟨rfl, t2⟩
    go_wp2_with fail
    go_ret
    exact ⟨rfl, t1.to t2⟩
  | false =>
    obtain ⟨hla60, ha⟩ := hr1 rfl
    clear hr1
    go_wp2_with fail
    refine (large_any _ B cb lb (hB.to t1) hlb).mono ?_
    rintro e w2 ⟨r2, rfl, hr2, t2⟩
    have g2 := glob_to g1 t2 (by simp)
    have T2 := t1.to t2
    cases r2 with
    | true =>
      go_wp2_with fail
      refine (works_any _ g2).mono ?_
      rintro e w3 ⟨rfl, t3⟩
      go_wp2_with fail
      go_ret
      exact ⟨rfl, T2.to t3⟩
    | false =>
      obtain ⟨hlb60, hb⟩ := hr2 rfl
      clear hr2
      go_wp2_with fail
      refine (flash_new _ 6 (by omega) (by omega)).mono ?_
      rintro e w3 ⟨f, s, rfl, hf, hs, hF, t3⟩
      have T3 := T2.to t3
      have g3 := glob_to g2 t3 (by simp)
      have s2 := T2.size
      have s3 := t3.size
      go_wp2_with fail
      refine (open_blank _ f s _ 0 2 (pick_blank (fun k h1 h2 => word_free (by omega) _ _ _ _) (by omega)) rfl hF rfl g3 (by omega) (by omega) (by show 0 + 2 ≤ 6; omega)).mono ?_
      rintro e w4 ⟨x, J, F4, rfl, hO4, hP4, hu4, t4⟩
      have T4 := T3.to t4 (by simp; omega)
      have g4 := glob_to g3 t4 (by simp; omega)
      have s4 := t4.size
      have hxf := hO4.fresh
      have hF4 := hO4.flash
      have hJ4 := hO4.jn
      have hk4 := hO4.keeps
      have hc4 := hO4.cut
      have ho4 := hO4.off
      have ha4 : F4.armed = false := hu4.armed
      have hn4 : F4.count = 6 := hu4.count
      have hw4 : ∀ k, 256 * 3 ≤ k → k < 256 * (3 + 2 * 1) → F4.word k = W4.free := fun k h1 h2 => (hu4.out k (by omega)).trans (word_free (by omega) _ _ _ _)
      clear hO4 hu4 hF
      go_wp2_with fail
      refine (open_blank _ f s F4 3 3 (pick_blank hw4 (by omega)) ha4 hF4 ho4 g4 (by omega) (by omega) (by omega)).mono ?_
      rintro e w5 ⟨y, K, F5, rfl, hO5, hP5, hu5, t5⟩
      have T5 := T4.to t5 (by simp; omega)
      have g5 := glob_to g4 t5 (by simp; omega)
      have s5 := t5.size
      have hyf := hO5.fresh
      have hxl := hJ4.lt
      have hJ5 : JnAt w5 x f s J := hJ4.touch t5 (by simp; have := hJ4.apart; omega) (by simp)
      have hk5 := hk4.away hu5 (by omega)
      have hc5 := hO5.cut
      clear hw4 hJ4 hk4 hF4
      go_wp2_with fail
      refine (ref_new _ 2 (by omega)).mono ?_
      rintro e w6 ⟨m, g, rfl, hm, hgg, hR6, t6⟩
      have T6 := T5.to t6
      have s6 := t6.size
      have hml := hR6.mlt
      have hgl := hR6.glt
      go_wp2_with fail
      refine (ref_new _ 3 (by omega)).mono ?_
      rintro e w7 ⟨n, q, rfl, hn, hq, hR7, t7⟩
      have T7 := T6.to t7
      have s7 := t7.size
      have hfl := hO5.flash.flt
      have hsl := hO5.flash.slt
      have hyl := hO5.jn.lt
      have hD : Duo w7 f s x y m g n q J K F5 := { jx := (hJ5.to t6).to t7, jy := (hO5.jn.to t6).to t7, flash := (hO5.flash.to t6).to t7, rx := by rw [hP4]; exact hR6.to t7, ry := by rw [hP5]; exact hR7, kx := hk5, ky := hO5.keeps, cx := hc4, cy := hc5, off := hO5.off, armed := hu5.armed.trans ha4, cnt := hu5.count.trans hn4, ne := by omega, dx := by omega, dy := by omega, fx := .blank hP4, fy := .blank hP5 }
      clear hO5 hu5 hR6 hR7 hJ5 hk5 hP4 hP5 g1 g2 g3 g4
      go_wp2_with fail
      go_loopw [11, 12, 13, 14, 15, 16, 17] (fun v11 v12 v13 v14 v15 v16 v17 wr => ∃ (k mx gx my gy : Nat) (J K : Jn) (F : Fl), (k ≤ la.length ∨ k ≤ lb.length) ∧ v13 = .int .i64 k ∧ v11 = ptr mx ∧ v12 = ptr my ∧ Duo wr f s x y mx gx my gy J K F ∧ (w.heap.size ≤ f ∧ w.heap.size ≤ s ∧ w.heap.size ≤ x ∧ w.heap.size ≤ y ∧ w.heap.size ≤ gx ∧ w.heap.size ≤ gy) ∧ Touch [] w wr) (fun _ _ v _ _ _ _ _ => la.length + lb.length - (intOf v).toNat)
      case atStart => exact ⟨0, m, g, n, q, J, K, F5, by omega, rfl, rfl, rfl, hD, by omega, T7⟩
      case round =>
        clear hD hm hgg hn hq hml hgl hfl hsl hyl t7 t6 t5 t4 g5 hc4 hc5 ha4 hn4 ho4 hxl hxf hyf
        obtain ⟨k, mx, gx, my, gy, J, K, F, hk, rfl, rfl, rfl, hD, hfr, hT⟩ := hrel
        have hAr := hA.to hT
        by_cases hx : k < la.length
        · have hxI : (k : Int) < (la.length : Int) := by omega
          obtain ⟨z, hz⟩ : ∃ z, la[k]? = some z := ⟨_, List.getElem?_eq_getElem hx⟩
          have hzm := List.mem_of_getElem? hz
          obtain ⟨A', off, hAe, c0, c1, c2, c3⟩ := hAr.at_ hz
          have hok := hAr.each z hzm
          have hzb := ha z hzm
          cases hAe
          have hkd := hok.kind
          have hc : wr.rangeAt A' (off + k * 4) z.cells := by
            intro i v hv
            match i with
            | 0 => cases hv; exact c0
            | 1 => cases hv; exact c1
            | 2 => cases hv; exact c2
            | 3 => cases hv; exact c3
            | i + 4 => simp [OpP.cells] at hv
          clear c1 c2 c3 hz hAr
          by_cases h4 : z.kind % 6 < 4
          · have h4I : (z.kind : Int) % 6 < 4 := by omega
            go_wp2_with (refine wp_load_op z ?_ rfl rfl rfl ?_; (with_reducible exact hc))
            refine (would_any _ mx gx 2 _ z hD.rx hok hzb).mono ?_
            rintro e p1 ⟨mx1, gx1, rfl, pm1, pg1, pR1, pt1⟩
            have pT1 := hT.to pt1
            have pD1 := hD.to pt1
            have pok1 := hok.to pt1
            have pz1 := hT.size
            have pc1 : p1.rangeAt _ _ z.cells := fun i v hv => pt1.cell (hc i v hv) (by simp)
            go_wp2_with (refine wp_load_op z ?_ rfl rfl rfl ?_; (with_reducible exact pc1))
            refine (does_any _ x f s _ _ 0 1 z pD1.jx pD1.flash pD1.cx pD1.off pD1.kx pok1 hzb).mono ?_
            rintro e p2 ⟨code, pG, pK, rfl, phG, phK, pt2, pfr, pd⟩
            rcases pd with ⟨rfl, pd⟩ | ⟨_, _, pd⟩
            rotate_left
            · have := pd.armed
              rw [hD.armed] at this; cases this
            have pT2 := pT1.to pt2 (by simp; omega)
            have pl1 := hD.jx.lt
            have pl2 := hD.jy.lt
            have pl3 := hD.flash.flt
            have pl4 := hD.flash.slt
            have pD2 := pD1.nextX phG phK pt2 pfr pd pR1 (by omega)
            clear phG phK pd pfr pR1 pD1 pc1
            clear hok hzm hzb hc hkd h4
            by_cases hy : k < lb.length
            rotate_left
            · have hyI : (lb.length : Int) ≤ (k : Int) := by omega
              go_wp2_with fail
              refine (pD2).sameX.mono ?_
              rintro e wa ⟨rfl, ta⟩
              go_wp2_with fail
              refine ((pD2).to ta).sameY.mono ?_
              rintro e wb ⟨rfl, tb⟩
              have hDz := ((pD2).to ta).to tb
              have Tz := ((pT2).to ta).to tb
              go_wp2_with fail
              go_roundw
              case rel => exact ⟨k + 1, _, _, _, _, _, _, _, by omega, by go_num, rfl, rfl, hDz, by omega, Tz⟩
              case measure => simp [intOf]; omega
            have hyI : (k : Int) < (lb.length : Int) := by omega
            obtain ⟨z', hz'⟩ : ∃ z', lb[k]? = some z' := ⟨_, List.getElem?_eq_getElem hy⟩
            have hzm' := List.mem_of_getElem? hz'
            obtain ⟨B', off', hBe, c0', c1', c2', c3'⟩ := (hB.to pT2).at_ hz'
            have hok' := (hB.to pT2).each z' hzm'
            have hzb' := hb z' hzm'
            cases hBe
            have hkd' := hok'.kind
            have hc' : World.rangeAt p2 B' (off' + k * 4) z'.cells := by
              intro i v hv
              match i with
              | 0 => cases hv; exact c0'
              | 1 => cases hv; exact c1'
              | 2 => cases hv; exact c2'
              | 3 => cases hv; exact c3'
              | i + 4 => simp [OpP.cells] at hv
            clear c1' c2' c3' hz'
            by_cases h4' : z'.kind % 6 < 4
            · have h4I' : (z'.kind : Int) % 6 < 4 := by omega
              go_wp2_with (refine wp_load_op z' ?_ rfl rfl rfl ?_; (with_reducible exact hc'))
              refine (would_any _ my gy 3 _ z' pD2.ry hok' hzb').mono ?_
              rintro e q1 ⟨my1, gy1, rfl, qm1, qg1, qR1, qt1⟩
              have qT1 := pT2.to qt1
              have qD1 := pD2.to qt1
              have qok1 := hok'.to qt1
              have qz1 := pT2.size
              have qc1 : q1.rangeAt _ _ z'.cells := fun i v hv => qt1.cell (hc' i v hv) (by simp)
              go_wp2_with (refine wp_load_op z' ?_ rfl rfl rfl ?_; (with_reducible exact qc1))
              refine (does_any _ y f s _ _ 3 1 z' qD1.jy qD1.flash qD1.cy qD1.off qD1.ky qok1 hzb').mono ?_
              rintro e q2 ⟨code, qG, qK, rfl, qhG, qhK, qt2, qfr, qd⟩
              rcases qd with ⟨rfl, qd⟩ | ⟨_, _, qd⟩
              rotate_left
              · have := qd.armed
                rw [pD2.armed] at this; cases this
              have qT2 := qT1.to qt2 (by simp; omega)
              have ql1 := pD2.jx.lt
              have ql2 := pD2.jy.lt
              have ql3 := pD2.flash.flt
              have ql4 := pD2.flash.slt
              have qD2 := qD1.nextY qhG qhK qt2 qfr qd qR1 (by omega)
              clear qhG qhK qd qfr qR1 qD1 qc1
              go_wp2_with fail
              refine (qD2).sameX.mono ?_
              rintro e wa ⟨rfl, ta⟩
              go_wp2_with fail
              refine ((qD2).to ta).sameY.mono ?_
              rintro e wb ⟨rfl, tb⟩
              have hDz := ((qD2).to ta).to tb
              have Tz := ((qT2).to ta).to tb
              go_wp2_with fail
              go_roundw
              case rel => exact ⟨k + 1, _, _, _, _, _, _, _, by omega, by go_num, rfl, rfl, hDz, by omega, Tz⟩
              case measure => simp [intOf]; omega
            · have h4I' : 4 ≤ (z'.kind : Int) % 6 := by omega
              go_wp2_with fail
              refine (pD2).sameX.mono ?_
              rintro e wa ⟨rfl, ta⟩
              go_wp2_with fail
              refine ((pD2).to ta).sameY.mono ?_
              rintro e wb ⟨rfl, tb⟩
              have hDz := ((pD2).to ta).to tb
              have Tz := ((pT2).to ta).to tb
              go_wp2_with fail
              go_roundw
              case rel => exact ⟨k + 1, _, _, _, _, _, _, _, by omega, by go_num, rfl, rfl, hDz, by omega, Tz⟩
              case measure => simp [intOf]; omega
          · have h4I : 4 ≤ (z.kind : Int) % 6 := by omega
            clear hok hzm hzb hc hkd h4
            by_cases hy : k < lb.length
            rotate_left
            · have hyI : (lb.length : Int) ≤ (k : Int) := by omega
              go_wp2_with fail
              refine (hD).sameX.mono ?_
              rintro e wa ⟨rfl, ta⟩
              go_wp2_with fail
              refine ((hD).to ta).sameY.mono ?_
              rintro e wb ⟨rfl, tb⟩
              have hDz := ((hD).to ta).to tb
              have Tz := ((hT).to ta).to tb
              go_wp2_with fail
              go_roundw
              case rel => exact ⟨k + 1, _, _, _, _, _, _, _, by omega, by go_num, rfl, rfl, hDz, by omega, Tz⟩
              case measure => simp [intOf]; omega
            have hyI : (k : Int) < (lb.length : Int) := by omega
            obtain ⟨z', hz'⟩ : ∃ z', lb[k]? = some z' := ⟨_, List.getElem?_eq_getElem hy⟩
            have hzm' := List.mem_of_getElem? hz'
            obtain ⟨B', off', hBe, c0', c1', c2', c3'⟩ := (hB.to hT).at_ hz'
            have hok' := (hB.to hT).each z' hzm'
            have hzb' := hb z' hzm'
            cases hBe
            have hkd' := hok'.kind
            have hc' : World.rangeAt wr B' (off' + k * 4) z'.cells := by
              intro i v hv
              match i with
              | 0 => cases hv; exact c0'
              | 1 => cases hv; exact c1'
              | 2 => cases hv; exact c2'
              | 3 => cases hv; exact c3'
              | i + 4 => simp [OpP.cells] at hv
            clear c1' c2' c3' hz'
            by_cases h4' : z'.kind % 6 < 4
            · have h4I' : (z'.kind : Int) % 6 < 4 := by omega
              go_wp2_with (refine wp_load_op z' ?_ rfl rfl rfl ?_; (with_reducible exact hc'))
              refine (would_any _ my gy 3 _ z' hD.ry hok' hzb').mono ?_
              rintro e q1 ⟨my1, gy1, rfl, qm1, qg1, qR1, qt1⟩
              have qT1 := hT.to qt1
              have qD1 := hD.to qt1
              have qok1 := hok'.to qt1
              have qz1 := hT.size
              have qc1 : q1.rangeAt _ _ z'.cells := fun i v hv => qt1.cell (hc' i v hv) (by simp)
              go_wp2_with (refine wp_load_op z' ?_ rfl rfl rfl ?_; (with_reducible exact qc1))
              refine (does_any _ y f s _ _ 3 1 z' qD1.jy qD1.flash qD1.cy qD1.off qD1.ky qok1 hzb').mono ?_
              rintro e q2 ⟨code, qG, qK, rfl, qhG, qhK, qt2, qfr, qd⟩
              rcases qd with ⟨rfl, qd⟩ | ⟨_, _, qd⟩
              rotate_left
              · have := qd.armed
                rw [hD.armed] at this; cases this
              have qT2 := qT1.to qt2 (by simp; omega)
              have ql1 := hD.jx.lt
              have ql2 := hD.jy.lt
              have ql3 := hD.flash.flt
              have ql4 := hD.flash.slt
              have qD2 := qD1.nextY qhG qhK qt2 qfr qd qR1 (by omega)
              clear qhG qhK qd qfr qR1 qD1 qc1
              go_wp2_with fail
              refine (qD2).sameX.mono ?_
              rintro e wa ⟨rfl, ta⟩
              go_wp2_with fail
              refine ((qD2).to ta).sameY.mono ?_
              rintro e wb ⟨rfl, tb⟩
              have hDz := ((qD2).to ta).to tb
              have Tz := ((qT2).to ta).to tb
              go_wp2_with fail
              go_roundw
              case rel => exact ⟨k + 1, _, _, _, _, _, _, _, by omega, by go_num, rfl, rfl, hDz, by omega, Tz⟩
              case measure => simp [intOf]; omega
            · have h4I' : 4 ≤ (z'.kind : Int) % 6 := by omega
              go_wp2_with fail
              refine (hD).sameX.mono ?_
              rintro e wa ⟨rfl, ta⟩
              go_wp2_with fail
              refine ((hD).to ta).sameY.mono ?_
              rintro e wb ⟨rfl, tb⟩
              have hDz := ((hD).to ta).to tb
              have Tz := ((hT).to ta).to tb
              go_wp2_with fail
              go_roundw
              case rel => exact ⟨k + 1, _, _, _, _, _, _, _, by omega, by go_num, rfl, rfl, hDz, by omega, Tz⟩
              case measure => simp [intOf]; omega
        · have hxI : (la.length : Int) ≤ (k : Int) := by omega
          clear hAr
          by_cases hy : k < lb.length
          · skip
            have hyI : (k : Int) < (lb.length : Int) := by omega
            obtain ⟨z', hz'⟩ : ∃ z', lb[k]? = some z' := ⟨_, List.getElem?_eq_getElem hy⟩
            have hzm' := List.mem_of_getElem? hz'
            obtain ⟨B', off', hBe, c0', c1', c2', c3'⟩ := (hB.to hT).at_ hz'
            have hok' := (hB.to hT).each z' hzm'
            have hzb' := hb z' hzm'
            cases hBe
            have hkd' := hok'.kind
            have hc' : World.rangeAt wr B' (off' + k * 4) z'.cells := by
              intro i v hv
              match i with
              | 0 => cases hv; exact c0'
              | 1 => cases hv; exact c1'
              | 2 => cases hv; exact c2'
              | 3 => cases hv; exact c3'
              | i + 4 => simp [OpP.cells] at hv
            clear c1' c2' c3' hz'
            by_cases h4' : z'.kind % 6 < 4
            · have h4I' : (z'.kind : Int) % 6 < 4 := by omega
              go_wp2_with (refine wp_load_op z' ?_ rfl rfl rfl ?_; (with_reducible exact hc'))
              refine (would_any _ my gy 3 _ z' hD.ry hok' hzb').mono ?_
              rintro e q1 ⟨my1, gy1, rfl, qm1, qg1, qR1, qt1⟩
              have qT1 := hT.to qt1
              have qD1 := hD.to qt1
              have qok1 := hok'.to qt1
              have qz1 := hT.size
              have qc1 : q1.rangeAt _ _ z'.cells := fun i v hv => qt1.cell (hc' i v hv) (by simp)
              go_wp2_with (refine wp_load_op z' ?_ rfl rfl rfl ?_; (with_reducible exact qc1))
              refine (does_any _ y f s _ _ 3 1 z' qD1.jy qD1.flash qD1.cy qD1.off qD1.ky qok1 hzb').mono ?_
              rintro e q2 ⟨code, qG, qK, rfl, qhG, qhK, qt2, qfr, qd⟩
              rcases qd with ⟨rfl, qd⟩ | ⟨_, _, qd⟩
              rotate_left
              · have := qd.armed
                rw [hD.armed] at this; cases this
              have qT2 := qT1.to qt2 (by simp; omega)
              have ql1 := hD.jx.lt
              have ql2 := hD.jy.lt
              have ql3 := hD.flash.flt
              have ql4 := hD.flash.slt
              have qD2 := qD1.nextY qhG qhK qt2 qfr qd qR1 (by omega)
              clear qhG qhK qd qfr qR1 qD1 qc1
              go_wp2_with fail
              refine (qD2).sameX.mono ?_
              rintro e wa ⟨rfl, ta⟩
              go_wp2_with fail
              refine ((qD2).to ta).sameY.mono ?_
              rintro e wb ⟨rfl, tb⟩
              have hDz := ((qD2).to ta).to tb
              have Tz := ((qT2).to ta).to tb
              go_wp2_with fail
              go_roundw
              case rel => exact ⟨k + 1, _, _, _, _, _, _, _, by omega, by go_num, rfl, rfl, hDz, by omega, Tz⟩
              case measure => simp [intOf]; omega
            · have h4I' : 4 ≤ (z'.kind : Int) % 6 := by omega
              go_wp2_with fail
              refine (hD).sameX.mono ?_
              rintro e wa ⟨rfl, ta⟩
              go_wp2_with fail
              refine ((hD).to ta).sameY.mono ?_
              rintro e wb ⟨rfl, tb⟩
              have hDz := ((hD).to ta).to tb
              have Tz := ((hT).to ta).to tb
              go_wp2_with fail
              go_roundw
              case rel => exact ⟨k + 1, _, _, _, _, _, _, _, by omega, by go_num, rfl, rfl, hDz, by omega, Tz⟩
              case measure => simp [intOf]; omega
          · have hyI : (lb.length : Int) ≤ (k : Int) := by omega
            have hkx := hD.kx.holds
            have hky := hD.ky.holds
            have hcn := hD.cnt
            have gD := glob_to hg hT (by simp)
            go_wp2_with fail
            refine (open_held _ f s F 0 2 _ _ _ _ _ hkx hD.flash hD.off gD (by omega) (by omega) (by omega)).mono ?_
            rintro e u1 ⟨x1, J1, rfl, hO1, hP1, v1⟩
            have V1 := hT.to v1
            have D1 := hD.to v1
            have gD1 := glob_to hg V1 (by simp)
            go_wp2_with fail
            refine (open_held _ f s F 3 3 _ _ _ _ _ hky D1.flash D1.off gD1 (by omega) (by omega) (by omega)).mono ?_
            rintro e u2 ⟨y1, K1, rfl, hO2, hP2, v2⟩
            have V2 := V1.to v2
            have D2 := D1.to v2
            go_wp2_with fail
            refine (ref_opened _ mx gx 2 _ D2.rx).mono ?_
            rintro e u3 ⟨m3, g3', rfl, hm3, hg3, hR3, v3⟩
            have V3 := V2.to v3
            go_wp2_with fail
            refine (same_any _ x1 f s m3 g3' 2 J1 _ ((hO1.jn.to v2).to v3) hR3).mono ?_
            rintro e u4 ⟨rfl, v4⟩
            have V4 := V3.to v4
            rw [hP1, agreeP_self]
            go_wp2_with fail
            refine (ref_opened _ my gy 3 _ ((D2.ry.to v3).to v4)).mono ?_
            rintro e u5 ⟨m5, g5', rfl, hm5, hg5, hR5, v5⟩
            have V5 := V4.to v5
            go_wp2_with fail
            refine (same_any _ y1 f s m5 g5' 3 K1 _ (((hO2.jn.to v3).to v4).to v5) hR5).mono ?_
            rintro e u6 ⟨rfl, v6⟩
            have V6 := V5.to v6
            rw [hP2, agreeP_self]
            go_wp2_with fail
            refine (works_any _ (glob_to hg V6 (by simp))).mono ?_
            rintro e u7 ⟨rfl, v7⟩
            go_wp2_with fail
            go_ret
            exact ⟨rfl, V6.to v7⟩
theorem journalTwo_row (a0 : Option Addr) (cap0 : Nat) (l0 : List OpP) (a1 : Option Addr) (cap1 : Nat) (l1 : List OpP) (W : World) (hg : W.rangeAt 0 0 W4.free.cells) (w0 : l0.length ≤ 9223372036854775807 ∧ OpsAt W a0 l0) (w1 : l1.length ≤ 9223372036854775807 ∧ OpsAt W a1 l1) :
    Calls Tryd.prog 4 #[.slice a0 l0.length cap0, .slice a1 l1.length cap1] W fun e w' => e = .returned (.bool true) ∧ Below W.heap.size W w' := by
  refine (two_walk W hg a0 a1 cap0 cap1 l0 l1 w0.2 w1.2 w0.1 w1.1).mono ?_
  rintro e w' ⟨rfl, hT⟩
  exact ⟨rfl, hT.below⟩
end Go.Proofs.YtdfgcenbkclpbaaDoor
