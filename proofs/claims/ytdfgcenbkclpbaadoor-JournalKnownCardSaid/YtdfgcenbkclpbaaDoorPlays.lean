/- The law JournalPlays, walked. -/
import Derived.Test.YtdfgcenbkclpbaaDoorGame
import Derived.Test.YtdfgcenbkclpbaaDoorOpenOps
namespace Go.Proofs.YtdfgcenbkclpbaaDoor
open Go.RowKit
set_option linter.unusedSimpArgs false
set_option linter.unusedVariables false
set_option maxRecDepth 100000 in
set_option maxHeartbeats 6400000 in
theorem plays_walk (w : World) (hg : w.rangeAt 0 0 W4.free.cells) (count : Int) (A : Option Addr) (c : Nat) (l : List OpP) (hA : OpsAt w A l) (hl : l.length ≤ 9223372036854775807) (hc0 : -9223372036854775808 ≤ count) (hc1 : count ≤ 9223372036854775807) :
    Calls Tryd.prog 5 #[.int .i64 count, .slice A l.length c] w fun e w' => e = .returned (.bool true) ∧ Touch [] w w' := by
  have h0 := glob_pos hg
  by_cases hc2 : count < 2
  · go_enter Tryd.func5, Tryd.ntmps5
    go_wp2_with fail
    refine (works_any _ hg).mono ?_
    rintro e w1 ⟨rfl, hT⟩
    go_wp2_with fail
    go_ret
    exact ⟨rfl, hT⟩
  · have hc2' : 2 ≤ count := by omega
    by_cases hc8 : 8 < count
    · go_enter Tryd.func5, Tryd.ntmps5
      go_wp2_with fail
      refine (works_any _ hg).mono ?_
      rintro e w1 ⟨rfl, hT⟩
      go_wp2_with fail
      go_ret
      exact ⟨rfl, hT⟩
    · obtain ⟨n, rfl⟩ : ∃ n : Nat, count = (n : Int) := ⟨count.toNat, by omega⟩
      have hn2 : 2 ≤ n := by omega
      have hn8 : n ≤ 8 := by omega
      have hnI : (2 : Int) ≤ (n : Int) := by omega
      have hn8I : (n : Int) ≤ 8 := by omega
      clear hc2 hc8 hc0 hc1 hc2'
      go_enter Tryd.func5, Tryd.ntmps5
      go_wp2_with fail
      refine (large_any _ A c l hA hl).mono ?_
      rintro e w1 ⟨r, rfl, hr, t1⟩
      have g1 := glob_to hg t1 (by simp)
      cases r with
      | true =>
        go_wp2_with fail
        refine (works_any _ g1).mono ?_
        rintro e w2 ⟨rfl, t2⟩
        go_wp2_with fail
        go_ret
        exact ⟨rfl, t1.to t2⟩
      | false =>
        obtain ⟨hl60, hb⟩ := hr rfl
        clear hr
        go_wp2_with fail
        refine (begun_any _ n (by omega)).mono ?_
        rintro e w2 ⟨f, s, F, rfl, hf, hs, hF, hB, t2⟩
        have g2 := glob_to g1 t2 (by simp)
        have s1 := t1.size
        have s2 := t2.size
        have T2 := t1.to t2
        go_wp2_with fail
        refine (open_blank _ f s F 1 n (pick_blank (fun k h1 h2 => hB.mid k (by omega) (by omega)) (by omega)) hB.armed hF hB.off g2 (by omega) hn2 (by rw [hB.apart.cnt]; omega)).mono ?_
        rintro e w3 ⟨j, J, G, rfl, hO, hP, hu, t3⟩
        have T3 := T2.to t3
        have g3 := glob_to g2 t3 (by simp; omega)
        have hap := hB.apart.out hu (two_half n)
        have harm : G.armed = false := hu.armed.trans hB.armed
        have hj := hO.fresh
        go_wp2_with fail
        refine (ref_new _ n (by omega)).mono ?_
        rintro e w4 ⟨m, g, rfl, hm, hgg, hR, t4⟩
        have T4 := T3.to t4
        have g4 := glob_to g3 t4 (by simp)
        have hjl := hO.jn.lt
        have hfl := hO.flash.flt
        have hsl := hO.flash.slt
        have hPl : Play w4 f s j m g n J G := ⟨hO.jn.to t4, hO.flash.to t4, by rw [hP]; exact hR, hO.keeps, hO.cut, hO.off, hap, by omega⟩
        clear hO hF hB hR hu hap hP
        go_wp2_with fail
        go_loopw [6, 8, 9, 10, 11, 12, 13, 14] (fun v6 v8 v9 v10 v11 v12 v13 v14 wr => ∃ (k j m g : Nat) (J : Jn) (F : Fl), k ≤ l.length ∧ v9 = .int .i64 k ∧ v6 = ptr j ∧ v8 = ptr m ∧ Play wr f s j m g n J F ∧ F.armed = false ∧ (w.heap.size ≤ j ∧ w.heap.size ≤ m ∧ w.heap.size ≤ g) ∧ Touch [] w wr) (fun _ _ v _ _ _ _ _ _ => l.length - (intOf v).toNat)
        case atStart => exact ⟨0, j, m, g, J, G, by omega, rfl, rfl, rfl, hPl, harm, ⟨by omega, by omega, by omega⟩, T4⟩
        case round =>
          clear hPl harm hj hm hgg hjl hfl hsl t4 t3 g4 g3
          obtain ⟨k, j, m, g, J, F, hk, rfl, rfl, rfl, hPl, harm, hfr, hT⟩ := hrel
          by_cases hlt : k < l.length
          · have hltI : (k : Int) < (l.length : Int) := by omega
            obtain ⟨x, hx⟩ : ∃ x, l[k]? = some x := ⟨_, List.getElem?_eq_getElem hlt⟩
            have hAr := hA.to hT
            obtain ⟨B, off, hAe, c0, c1, c2, c3⟩ := hAr.at_ hx
            have hok := hAr.each x (List.mem_of_getElem? hx)
            have hxb := hb x (List.mem_of_getElem? hx)
            have hmem := List.mem_of_getElem? hx
            cases hAe
            obtain ⟨kd, gr, b, ba, bc, mo⟩ := x
            simp only at c0 c1 c2 c3 hxb
            have hkd := hok.kind
            have hgr := hok.group
            have hmo := hok.more
            simp only at hkd hgr hmo
            have tX := Touch.one wr (.cells #[Value.int .u8 kd, .int .u8 gr, .slice ba b.length bc, .int .u16 mo] 45)
            have oX := OwnAt.new wr #[Value.int .u8 kd, .int .u8 gr, .slice ba b.length bc, .int .u16 mo] 45
            have hPX := hPl.to tX
            have hokX := hok.to tX
            have TX := hT.to tX
            clear hx hAr
            have tD := Touch.dr (wr.alloc (.cells #[Value.int .u8 kd, .int .u8 gr, .slice ba b.length bc, .int .u16 mo] 45))
            by_cases k3 : kd % 6 = 3
            · have e3 : ((kd : Int) % 6 == 3) = true := beq_iff_eq.2 (by omega)
              have oD := oX.to tD
              have hPD := hPX.to tD
              have TD := TX.to tD
              have r1 := oD.get 1 (by simp)
              clear k3
              go_wp2_with fail
              refine wp_region_legs (fun w' => w'.cell? ⟨wr.heap.size, 1, none⟩ = some (.int .u8 gr)) [⟨[0, 1, 2, 4, 5, 6], some 3⟩, ⟨[], some 7⟩, ⟨[8], none⟩] (by kernel_rfl) (by kernel_rfl) ?_
              refine legs_onS ?_ r1 (fun w' hSw => ?_) ?_ ?_
              rotate_left
              · obtain hr1 := hSw; simp only [pick, nthOp]; go_wp2_with fail; refine And.intro ?_ ?_ <;> rfl
              · kernel_rfl
              simp only [pick, nthOp]
              go_wp2_with fail
              refine (restore_does _ j f s J F 1 (n / 2) gr hPD.jn hPD.flash hgr hPD.cut hPD.off hPD.keeps).mono ?_
              rintro e w5 ⟨code, G5, K5, rfl, hG5, hJ5, t5, _, hd⟩
              rcases hd with ⟨rfl, hd⟩ | ⟨_, _, hd⟩
              rotate_left
              · have := hd.armed
                rw [harm] at this; cases this
              have hr5 := hPD.ref.to t5 (by obtain ⟨d1, d2, d3, d4, d5, d6⟩ := hPD.diff; simp; omega)
              have hjl := hPD.jn.lt
              have hfl := hPD.flash.flt
              have hsl := hPD.flash.slt
              have hxne : wr.heap.size ∉ [f, s, j] := by
                have := hPl.jn.lt; have := hPl.flash.flt; have := hPl.flash.slt; simp; omega
              have r5 := t5.cell r1 hxne
              have T5 := TD.to t5
              go_wp2_with fail
              refine legs_nextS r5 ?_
              refine legs_onS ?_ r5 (fun w' hSw => ?_) ?_ ?_
              rotate_left
              · obtain hr1 := hSw; simp only [pick, nthOp]; go_wp2_with fail; refine And.intro ?_ ?_ <;> rfl
              · kernel_rfl
              simp only [pick, nthOp]
              go_wp2_with fail
              refine (ref_restore _ m g n gr _ hr5 hgr).mono ?_
              rintro e w6 ⟨rfl, hR6, t6⟩
              have hgl := hPl.ref.glt
              have r6 := t6.cell r5 (by simp; omega)
              have hN := hPD.next hG5 hJ5 t5 hd hR6 t6
              have harm6 : G5.armed = false := hd.out.armed.trans harm
              have T6 := T5.to t6
              clear hd hr5 hG5 hJ5 hR6
              go_wp2_with fail
              refine legs_nextS r6 ?_
              refine legs_rowS ?_ r6 (fun w' hSw => ?_) ?_ ?_
              rotate_left
              · obtain hr1 := hSw; simp only [pick, nthOp]; go_wp2_with fail; refine And.intro ?_ ?_ <;> rfl
              · kernel_rfl
              refine legs_endS ?_
              go_wp2_with fail
              refine (hN).same.mono ?_
              rintro e wz ⟨rfl, tz⟩
              go_wp2_with fail
              go_roundw
              case rel => exact ⟨k + 1, j, m, g, K5, G5, by omega, by go_num, rfl, rfl, (hN).to tz, harm6, by omega, (T6).to tz⟩
              case measure => simp [intOf]; omega
            · by_cases k45 : kd % 6 = 4 ∨ kd % 6 = 5
              · have e3 : ((kd : Int) % 6 == 3) = false := beq_eq_false_iff_ne.2 (by omega)
                have gX := glob_to hg TX (by simp)
                have hH := hPX.keeps.holds
                have hop := hPX.flash
                have hcn := hPX.apart.cnt
                have hfp : f ≠ 0 ∧ s ≠ 0 := by omega
                by_cases k4 : kd % 6 = 4
                · have e4 : ((kd : Int) % 6 == 4) = true := beq_iff_eq.2 (by omega)
                  clear k3 k45 k4
                  go_wp2_with fail
                  refine (open_held _ f s F 1 n _ _ _ _ _ hH hop hPX.off gX hfp hn2 (by omega)).mono ?_
                  rintro e w5 ⟨j5, K5, rfl, hO, hP5, t5⟩
                  have T5 := TX.to t5
                  have h5 := hPX.to t5
                  have hz5 := TX.size
                  go_wp2_with fail
                  refine (ref_opened _ m g n _ h5.ref).mono ?_
                  rintro e w6 ⟨m6, g6, rfl, hm6, hg6, hR6, t6⟩
                  have T6 := T5.to t6
                  have hjl := hO.jn.lt
                  have hfl := hO.flash.flt
                  have hsl := hO.flash.slt
                  have hz6 := T5.size
                  have hjf := hO.fresh
                  have hN : Play w6 f s j5 m6 g6 n K5 F := ⟨hO.jn.to t6, hO.flash.to t6, by rw [hP5]; exact hR6, hO.keeps, hO.cut, hO.off, hPX.apart, by omega⟩
                  clear hO hR6 hP5 hH
                  go_wp2_with fail
                  refine (hN).same.mono ?_
                  rintro e wz ⟨rfl, tz⟩
                  go_wp2_with fail
                  go_roundw
                  case rel => exact ⟨k + 1, j5, m6, g6, K5, F, by omega, by go_num, rfl, rfl, (hN).to tz, harm, by omega, (T6).to tz⟩
                  case measure => simp [intOf]; omega
                · have e4 : ((kd : Int) % 6 == 4) = false := beq_eq_false_iff_ne.2 (by omega)
                  have e5 : ((kd : Int) % 6 == 5) = true := beq_iff_eq.2 (by omega)
                  clear k3 k45 k4
                  go_wp2_with fail
                  refine (open_held _ f s F 1 n _ _ _ _ _ hH hop hPX.off gX hfp hn2 (by omega)).mono ?_
                  rintro e w5 ⟨j5, K5, rfl, hO, hP5, t5⟩
                  have T5 := TX.to t5
                  have h5 := hPX.to t5
                  have hz5 := TX.size
                  go_wp2_with fail
                  refine (ref_opened _ m g n _ h5.ref).mono ?_
                  rintro e w6 ⟨m6, g6, rfl, hm6, hg6, hR6, t6⟩
                  have T6 := T5.to t6
                  have hjl := hO.jn.lt
                  have hfl := hO.flash.flt
                  have hsl := hO.flash.slt
                  have hz6 := T5.size
                  have hjf := hO.fresh
                  have hN : Play w6 f s j5 m6 g6 n K5 F := ⟨hO.jn.to t6, hO.flash.to t6, by rw [hP5]; exact hR6, hO.keeps, hO.cut, hO.off, hPX.apart, by omega⟩
                  clear hO hR6 hP5 hH
                  go_wp2_with fail
                  refine (hN).same.mono ?_
                  rintro e wz ⟨rfl, tz⟩
                  go_wp2_with fail
                  go_roundw
                  case rel => exact ⟨k + 1, j5, m6, g6, K5, F, by omega, by go_num, rfl, rfl, (hN).to tz, harm, by omega, (T6).to tz⟩
                  case measure => simp [intOf]; omega
              · have e3 : ((kd : Int) % 6 == 3) = false := beq_eq_false_iff_ne.2 (by omega)
                have e4 : ((kd : Int) % 6 == 4) = false := beq_eq_false_iff_ne.2 (by omega)
                have e5 : ((kd : Int) % 6 == 5) = false := beq_eq_false_iff_ne.2 (by omega)
                clear k3 k45
                go_wp2_with fail
                obtain ⟨D, hD⟩ : ∃ D, OpP.data ⟨kd, gr, b, ba, bc, mo⟩ = D := ⟨_, rfl⟩
                have hDl : D.length ≤ 25000 := by rw [← hD, OpP.data_len]; simp only; omega
                have hDI : (D.length : Int) ≤ 25000 := by omega
                have hbt := fun (W : World) (hW : OpOk W ⟨kd, gr, b, ba, bc, mo⟩) => bytes_any W ⟨kd, gr, b, ba, bc, mo⟩ hW (by simp only; omega)
                rw [hD] at hbt
                have HBT := Lib.hid hbt
                clear hD hbt
                refine (HBT.out _ hokX).mono ?_
                rintro e w5 ⟨v5, rfl, hv5, t5⟩
                obtain ⟨A5, c5, rfl, hs5, _, hn5, hb5⟩ := ownsRow_slice' hv5
                have oX5 := oX.to t5
                have h5 := hPX.to t5
                have T5 := TX.to t5
                have hok5 := hokX.to t5
                have hzX := TX.size
                have hz5 := t5.size
                clear hv5 c0 c1 c2 c3
                have q1 := oX5.get 1 (by simp)
                go_wp2_with fail
                refine (store_does _ j f s J F 1 (n / 2) gr D A5 c5 h5.jn h5.flash hgr h5.cut h5.off (by omega) hs5 hn5 h5.keeps).mono ?_
                rintro e w6 ⟨code, G6, K6, rfl, hG6, hJ6, t6, _, hd⟩
                rcases hd with ⟨rfl, hd⟩ | ⟨_, _, hd⟩
                rotate_left
                · have := hd.armed
                  rw [harm] at this; cases this
                have hjl := hPl.jn.lt
                have hfl := hPl.flash.flt
                have hsl := hPl.flash.slt
                have hgl := hPl.ref.glt
                have hml := hPl.ref.mlt
                have hr6 := h5.ref.to t6 (by obtain ⟨d1, d2, d3, d4, d5, d6⟩ := h5.diff; simp; omega)
                have oX6 := oX5.to t6 (by simp; omega)
                have hlX : wr.heap.size < (wr.alloc (.cells #[Value.int .u8 kd, .int .u8 gr, .slice ba b.length bc, .int .u16 mo] 45)).heap.size := by simp
                have hs6 := hs5.to t6 (fun y hy hm => by have := hb5 y hy; simp at hm; omega)
                have T6 := T5.to t6
                go_wp2_with fail
                have tD := Touch.dr w6
                have oD := oX6.to tD
                have rD := hr6.to tD
                have sD := hs6.to tD
                have TD := T6.to tD
                have okD : OpOk w6.drew ⟨kd, gr, b, ba, bc, mo⟩ := (hA.to TD |>.each _ hmem)
                refine wp_region_legs (fun w' => OwnAt w' wr.heap.size 0 [Value.int .u8 kd, .int .u8 gr, .slice ba b.length bc, .int .u16 mo] ∧ SliceAt w' A5 (D.map u8v)) [⟨[0, 1, 2, 3, 4], some 5⟩, ⟨[], some 6⟩, ⟨[7, 8, 9, 10, 11], some 12⟩, ⟨[], some 13⟩, ⟨[14, 15], none⟩] (by kernel_rfl) (by kernel_rfl) ?_
                refine legs_onS ?_ ⟨oD, sD⟩ (fun w' hSw => ?_) ?_ ?_
                rotate_left
                · obtain ⟨hO, hs'⟩ := hSw
                  have y0 := hO.get 0 (by simp)
                  have y1 := hO.get 1 (by simp)
                  have y2 := hO.get 2 (by simp)
                  have y3 := hO.get 3 (by simp)
                  simp only [pick, nthOp]; go_wp2_with fail; refine And.intro ?_ ?_ <;> rfl
                · kernel_rfl
                simp only [pick, nthOp]
                go_wp2_with fail
                refine (HBT.out _ okD).mono ?_
                rintro e w7 ⟨v7, rfl, hv7, t7⟩
                obtain ⟨A7, c7, rfl, hs7, _, hn7, hb7⟩ := ownsRow_slice' hv7
                have oX7 := oD.to t7
                have s57 := sD.to t7
                have r7 := rD.to t7
                have T7 := TD.to t7
                have hz7 := T6.size
                clear hv7
                go_wp2_with fail
                refine legs_nextS ⟨oX7, s57⟩ ?_
                refine legs_onS ?_ ⟨oX7, s57⟩ (fun w' hSw => ?_) ?_ ?_
                rotate_left
                · simp only [pick, nthOp]; go_wp2_with fail; refine And.intro ?_ ?_ <;> rfl
                · kernel_rfl
                simp only [pick, nthOp]
                go_wp2_with fail
                refine (ref_store _ m g n gr _ D A7 c7 r7 hgr (by omega) hs7 (fun y hy => by have := hb7 y hy; have := hr6.glt; simp at *; omega)).mono ?_
                rintro e w8 ⟨rfl, hR8, t8⟩
                have hN := h5.next hG6 hJ6 t6 hd hR8 ((t7.undrew.mono (T := [g]) (by simp)).trans t8)
                have harm6 : G6.armed = false := hd.out.armed.trans harm
                have oX8 := oX7.to t8 (by simp; omega)
                have s58 := s57.to t8 (fun y hy hm => by have := hb5 y hy; simp at hm; omega)
                have T8 := T7.to t8
                have ok8 : OpOk w8 ⟨kd, gr, b, ba, bc, mo⟩ := (hA.to T8 |>.each _ hmem)
                clear hd hR8 hr6 rD hG6 hJ6 r7
                generalize (refStore (J.slots.map Slot.p) (n / 2) gr D).1 = cde at *
                go_wp2_with fail
                refine legs_nextS ⟨oX8, s58⟩ ?_
                refine legs_onS ?_ ⟨oX8, s58⟩ (fun w' hSw => ?_) ?_ ?_
                rotate_left
                · obtain ⟨hO, hs'⟩ := hSw
                  have y0 := hO.get 0 (by simp)
                  have y1 := hO.get 1 (by simp)
                  have y2 := hO.get 2 (by simp)
                  have y3 := hO.get 3 (by simp)
                  have e1 := run_str (dst := 9) Tryd.underlying22 Tryd.underlying5 Tryd.underlying9 hs' c5
                  simp only [pick, nthOp]; go_wp2_with fail; refine And.intro ?_ ?_ <;> rfl
                · kernel_rfl
                simp only [pick, nthOp]
                go_wp2_with fail
                refine (HBT.out _ ok8).mono ?_
                rintro e w9 ⟨v9, rfl, hv9, t9⟩
                obtain ⟨A9, c9, rfl, hs9, _, _, _⟩ := ownsRow_slice' hv9
                have oX9 := oX8.to t9
                have s59 := s58.to t9
                have T9 := T8.to t9
                clear hv9
                go_wp2_with fail
                refine legs_nextS ⟨oX9, s59⟩ ?_
                refine legs_onS ?_ ⟨oX9, s59⟩ (fun w' hSw => ?_) ?_ ?_
                rotate_left
                · simp only [pick, nthOp]; go_wp2_with fail; refine And.intro ?_ ?_ <;> rfl
                · kernel_rfl
                simp only [pick, nthOp]
                have e2 := run_str (dst := 9) Tryd.underlying22 Tryd.underlying5 Tryd.underlying9 hs9 c9
                go_wp2_with fail
                refine legs_nextS ⟨oX9, s59⟩ ?_
                refine legs_rowS ?_ ⟨oX9, s59⟩ (fun w' hSw => ?_) ?_ ?_
                rotate_left
                · simp only [pick, nthOp]; go_wp2_with fail; refine And.intro ?_ ?_ <;> rfl
                · kernel_rfl
                refine legs_endS ?_
                clear e2
                go_wp2_with fail
                have hN9 := hN.to t9
                refine (hN9).same.mono ?_
                rintro e wz ⟨rfl, tz⟩
                go_wp2_with fail
                go_roundw
                case rel => exact ⟨k + 1, j, m, g, K6, G6, by omega, by go_num, rfl, rfl, (hN9).to tz, harm6, by omega, (T9).to tz⟩
                case measure => simp [intOf]; omega
          · have : k = l.length := by omega
            subst this
            go_wp2_with fail
            refine hPl.same.mono ?_
            rintro e w5 ⟨rfl, t5⟩
            have h5 := hPl.to t5
            go_wp2_with fail
            refine (apart_any _ f s F n h5.flash h5.apart h5.off (by omega)).mono ?_
            rintro e w6 ⟨rfl, t6⟩
            have T6 := (hT.to t5).to t6
            go_wp2_with fail
            refine (works_any _ (glob_to hg T6 (by simp))).mono ?_
            rintro e w7 ⟨rfl, t7⟩
            go_wp2_with fail
            go_ret
            exact ⟨rfl, T6.to t7⟩
theorem journalPlays_row (a0 : Int) (a1 : Option Addr) (cap1 : Nat) (l1 : List OpP) (W : World) (hg : W.rangeAt 0 0 W4.free.cells) (w0 : (Lit.int .i64 a0).wf = true) (w1 : l1.length ≤ 9223372036854775807 ∧ OpsAt W a1 l1) :
    Calls Tryd.prog 5 #[.int .i64 a0, .slice a1 l1.length cap1] W fun e w' => e = .returned (.bool true) ∧ Below W.heap.size W w' := by
  have h1 : -9223372036854775808 ≤ a0 ∧ a0 ≤ 9223372036854775807 := by simp [Lit.wf, IntKind.min, IntKind.max, IntKind.bits, IntKind.signed] at w0; omega
  refine (plays_walk W hg a0 a1 cap1 l1 w1.2 w1.1 h1.1 h1.2).mono ?_
  rintro e w' ⟨rfl, hT⟩
  exact ⟨rfl, hT.below⟩
end Go.Proofs.YtdfgcenbkclpbaaDoor
