/- The law JournalCuts, walked. -/
import Derived.Test.YtdfgcenbkclpbaaDoorTries
import Derived.Test.YtdfgcenbkclpbaaDoorOpenOps
namespace Go.Proofs.YtdfgcenbkclpbaaDoor
open Go.RowKit
set_option linter.unusedSimpArgs false
set_option linter.unusedVariables false
/-- the first opening was cut: nothing stands in the halves -/
structure Dark (w : World) (f s m g count : Nat) (F : Fl) : Prop where
  flash : FlashAt w f s F
  off : F.off = true
  none : (F.pickHalf 1 (count / 2)).2.2.2 = false
  ref : RefAt w m g blanks count
  apart : Apart F count
  diff : m ≠ f ∧ m ≠ s ∧ g ≠ f ∧ g ≠ s
/-- a round's begin: a journal that plays, or the dark -/
def CutHead (B : Nat) (w : World) (f s m g count : Nat) (v8 v9 : Value) : Prop :=
  (∃ j J F, v8 = ptr j ∧ v9 = .int .i64 0 ∧ Play w f s j m g count J F ∧ B ≤ j) ∨ (∃ F, v8 = .pointer none ∧ v9 = .int .i64 7 ∧ Dark w f s m g count F)
set_option maxRecDepth 100000 in
set_option maxHeartbeats 6400000 in
theorem cuts_walk (w : World) (hg : w.rangeAt 0 0 W4.free.cells) (count : Int) (A : Option Addr) (c : Nat) (l : List OpP) (first : Nat) (hA : OpsAt w A l) (hl : l.length ≤ 9223372036854775807) (hc0 : -9223372036854775808 ≤ count) (hc1 : count ≤ 9223372036854775807) (hfi : first < 65536) :
    Calls Tryd.prog 6 #[.int .i64 count, .slice A l.length c, .int .u16 first] w fun e w' => e = .returned (.bool true) ∧ Touch [] w w' := by
  have h0 := glob_pos hg
  by_cases hc2 : count < 2
  · go_enter Tryd.func6, Tryd.ntmps6
    go_wp2_with fail
    refine (works_any _ hg).mono ?_
    rintro e w1 ⟨rfl, hT⟩
    go_wp2_with fail
    go_ret
    exact ⟨rfl, hT⟩
  · have hc2' : 2 ≤ count := by omega
    by_cases hc8 : 8 < count
    · go_enter Tryd.func6, Tryd.ntmps6
      go_wp2_with fail
      refine (works_any _ hg).mono ?_
      rintro e w1 ⟨rfl, hT⟩
      go_wp2_with fail
      go_ret
      exact ⟨rfl, hT⟩
    · obtain ⟨n, rfl⟩ : ∃ n : Nat, count = (n : Int) := ⟨count.toNat, by omega⟩
      have hn2 : 2 ≤ n := by omega
      have hn8 : n ≤ 8 := by omega
      have hnI : (2 : Int) ≤ (n : Int) := by omega
      have hn8I : (n : Int) ≤ 8 := by omega
      clear hc2 hc8 hc0 hc1 hc2'
      go_enter Tryd.func6, Tryd.ntmps6
      go_wp2_with fail
      refine (large_any _ A c l hA hl).mono ?_
      rintro e w1 ⟨r, rfl, hr, t1⟩
      have g1 := glob_to hg t1 (by simp)
      cases r with
      | true =>
        go_wp2_with fail
        refine (works_any _ g1).mono ?_
        rintro e w2 ⟨rfl, t2⟩
        go_wp2_with fail
        go_ret
        exact ⟨rfl, t1.to t2⟩
      | false =>
        obtain ⟨hl60, hb⟩ := hr rfl
        clear hr
        go_wp2_with fail
        refine (begun_any _ n (by omega)).mono ?_
        rintro e w2 ⟨f, s, F, rfl, hf, hs, hF, hB, t2⟩
        have g2 := glob_to g1 t2 (by simp)
        have s1 := t1.size
        have s2 := t2.size
        have T2 := t1.to t2
        go_wp2_with fail
        refine (flash_cut _ f s F _ hF).mono ?_
        rintro e w3 ⟨rfl, hF3, t3⟩
        have T3 := T2.to t3
        have g3 := glob_to g2 t3 (by simp; omega)
        have hp3 := pick_blank (A := 1) (h := n / 2) (fun k h1 h2 => hB.mid k (by omega) (by omega)) (by omega)
        generalize hF' : ({ F with armed := _, left := _ } : Fl) = F3 at hF3
        have hm3 : F3.mem = F.mem := by rw [← hF']
        have hc3 : F3.count = F.count := by rw [← hF']
        have ho3 : F3.off = false := by rw [← hF']; exact hB.off
        have ha3 := hB.apart.mem hm3 hc3
        rw [← pick_mem hm3] at hp3
        have hcn := hB.apart.cnt
        clear hF'
        go_wp2_with fail
        refine (open_any _ f s F3 1 n hF3 ho3 g3 (by omega) hn2 (by omega)).mono ?_
        intro e w4 hop
        have hop2 : ∃ v k, e = .returned (.tuple #[v, .int .i64 k]) ∧ Touch [f, s] w3 w4 ∧ ((∃ j J G, v = ptr j ∧ k = 0 ∧ Opened w3 f s 1 (n / 2) j J G w4 ∧ J.slots.map Slot.p = blanks ∧ Apart G n) ∨ (∃ G, v = .pointer none ∧ k = 7 ∧ FlashAt w4 f s G ∧ G.off = true ∧ (G.pickHalf 1 (n / 2)).2.2.2 = false ∧ Apart G n)) := by
          rcases hop with ⟨j, K, rfl, hO, hk, _⟩ | ⟨j, K, G, rfl, hO, _, hP, hu, ht⟩ | ⟨G, rfl, hG, h1, _, hu, _, h2, ht⟩
          · rw [hk] at hp3; cases hp3
          · exact ⟨_, _, rfl, ht, Or.inl ⟨j, K, G, rfl, rfl, hO, hP, ha3.out hu (two_half n)⟩⟩
          · exact ⟨_, _, rfl, ht, Or.inr ⟨G, rfl, rfl, hG, h1, h2, ha3.out hu (two_half n)⟩⟩
        clear hop hp3 ha3 hF3
        obtain ⟨v, kk, rfl, t4, hop⟩ := hop2
        have HO := Lib.hid hop
        have T4 := T3.to t4
        have g4 := glob_to g3 t4 (by simp; omega)
        have s4 := T4.size
        clear hop
        go_wp2_with fail
        refine (ref_new _ n (by omega)).mono ?_
        rintro e w5 ⟨m, g, rfl, hm, hgg, hR, t5⟩
        have T5 := T4.to t5
        have hH : CutHead w.heap.size w5 f s m g n v (.int .i64 kk) := by
          rcases HO.out with ⟨j, J, G, rfl, rfl, hO, hP, hap⟩ | ⟨G, rfl, rfl, hG, h1, h2, hap⟩
          · have hjl := hO.jn.lt
            have hfl := hO.flash.flt
            have hsl := hO.flash.slt
            exact Or.inl ⟨j, J, G, rfl, rfl, ⟨hO.jn.to t5, hO.flash.to t5, by rw [hP]; exact hR, hO.keeps, hO.cut, hO.off, hap, by omega⟩, by have := hO.fresh; have := T3.size; omega⟩
          · have hfl := hG.flt
            have hsl := hG.slt
            exact Or.inr ⟨G, rfl, rfl, hG.to t5, h1, h2, hR, hap, by omega⟩
        have HH := Lib.hid hH
        clear HO hH hR
        go_wp2_with fail
        go_loopw [8, 9, 10, 11, 12, 13, 14, 15] (fun v8 v9 v10 v11 v12 v13 v14 v15 wr => ∃ (k m g : Nat), k ≤ l.length ∧ v11 = .int .i64 k ∧ v10 = ptr m ∧ CutHead w.heap.size wr f s m g n v8 v9 ∧ (w.heap.size ≤ m ∧ w.heap.size ≤ g) ∧ Touch [] w wr) (fun _ _ _ v _ _ _ _ _ => l.length - (intOf v).toNat)
        case atStart => exact ⟨0, m, g, by omega, rfl, rfl, HH.out, by omega, T5⟩
        case round =>
          clear HH hm hgg g4 g3 g2 t4 t5 T4 T5
          obtain ⟨k, m, g, hk, rfl, rfl, hH, hfr, hT⟩ := hrel
          by_cases hlt : k < l.length
          · have hltI : (k : Int) < (l.length : Int) := by omega
            obtain ⟨x, hx⟩ : ∃ x, l[k]? = some x := ⟨_, List.getElem?_eq_getElem hlt⟩
            have hmem := List.mem_of_getElem? hx
            have hxb := hb x hmem
            rcases hH with ⟨j, J, F, rfl, rfl, hPl, hjB⟩ | ⟨F, rfl, rfl, hD⟩
            · go_wp2_with fail
              refine (flash_off _ f s F hPl.flash).mono ?_
              rintro e w6 ⟨rfl, hWe⟩
              obtain rfl : wr = w6 := hWe.symm
              rw [hPl.off]
              go_wp2_with fail
              have hAr := hA.to hT
              obtain ⟨B, off, hAe, c0, c1, c2, c3⟩ := hAr.at_ hx
              have hok := hAr.each x hmem
              cases hAe
              obtain ⟨kd, gr, b, ba, bc, mo⟩ := x
              simp only at c0 c1 c2 c3 hxb
              have hkd := hok.kind
              have hgr := hok.group
              have hmo := hok.more
              simp only at hkd hgr hmo
              have tX := Touch.one wr (.cells #[Value.int .u8 kd, .int .u8 gr, .slice ba b.length bc, .int .u16 mo] 45)
              have oX := OwnAt.new wr #[Value.int .u8 kd, .int .u8 gr, .slice ba b.length bc, .int .u16 mo] 45
              have hPX := (hPl).to tX
              have hokX := hok.to tX
              have TX := (hT).to tX
              have q0 := oX.get 0 (by simp)
              have q3 := oX.get 3 (by simp)
              clear hx hAr
              by_cases k5 : kd % 6 = 5
              · have e5 : ((kd : Int) % 6 == 5) = true := beq_iff_eq.2 (by omega)
                clear k5
                go_wp2_with fail
                refine (flash_cut _ f s _ _ hPX.flash).mono ?_
                rintro e w6 ⟨rfl, hF6, t6⟩
                have hN := hPX.arm hF6 rfl rfl hPX.off t6
                have T6 := TX.to t6
                go_wp2_with fail
                go_roundw
                case rel => exact ⟨k + 1, m, g, by omega, by go_num, rfl, Or.inl ⟨_, _, _, rfl, rfl, hN, hjB⟩, hfr, T6⟩
                case measure => simp [intOf]; omega
              · have e5 : ((kd : Int) % 6 == 5) = false := beq_eq_false_iff_ne.2 (by omega)
                have gX := glob_to hg TX (by simp)
                by_cases k4 : kd % 6 = 4
                · have e4 : ((kd : Int) % 6 == 4) = true := beq_iff_eq.2 (by omega)
                  have hH := hPX.keeps.holds
                  have hcn4 := hPX.apart.cnt
                  have hfp : f ≠ 0 ∧ s ≠ 0 := by omega
                  clear k4 k5
                  go_wp2_with fail
                  refine (open_held _ f s _ 1 n _ _ _ _ _ hH hPX.flash hPX.off gX hfp hn2 (by omega)).mono ?_
                  rintro e w6 ⟨j6, K6, rfl, hO, hP6, t6⟩
                  have T6 := TX.to t6
                  have h6 := hPX.to t6
                  have hz6 := TX.size
                  go_wp2_with fail
                  refine (ref_opened _ m g n _ h6.ref).mono ?_
                  rintro e w7 ⟨m7, g7, rfl, hm7, hg7, hR7, t7⟩
                  have T7 := T6.to t7
                  have hjl := hO.jn.lt
                  have hfl := hO.flash.flt
                  have hsl := hO.flash.slt
                  have hz7 := T6.size
                  have hjf := hO.fresh
                  have hN : Play w7 f s j6 m7 g7 n K6 _ := ⟨hO.jn.to t7, hO.flash.to t7, by rw [hP6]; exact hR7, hO.keeps, hO.cut, hO.off, hPX.apart, by omega⟩
                  clear hO hR7 hP6 hH
                  go_wp2_with fail
                  go_roundw
                  case rel => exact ⟨k + 1, m7, g7, by omega, by go_num, rfl, Or.inl ⟨_, _, _, rfl, rfl, hN, by omega⟩, by omega, T7⟩
                  case measure => simp [intOf]; omega
                · have e4 : ((kd : Int) % 6 == 4) = false := beq_eq_false_iff_ne.2 (by omega)
                  have q1 := oX.get 1 (by simp)
                  have q2 := oX.get 2 (by simp)
                  clear k4 k5
                  go_wp2_with fail
                  refine (would_any _ m g n _ ⟨kd, gr, b, ba, bc, mo⟩ hPX.ref hokX (by simp only; omega)).mono ?_
                  rintro e w6 ⟨m6, g6, rfl, hm6, hg6, hR6, t6⟩
                  have T6 := TX.to t6
                  have h6 := hPX.to t6
                  have hok6 := hokX.to t6
                  have hz6 := TX.size
                  have o6 := oX.to t6
                  have r0 := o6.get 0 (by simp)
                  have r1 := o6.get 1 (by simp)
                  have r2 := o6.get 2 (by simp)
                  have r3 := o6.get 3 (by simp)
                  go_wp2_with fail
                  refine (does_any _ _ f s _ _ 1 (n / 2) ⟨kd, gr, b, ba, bc, mo⟩ h6.jn h6.flash h6.cut h6.off h6.keeps hok6 (by simp only; omega)).mono ?_
                  rintro e w7 ⟨code, G7, K7, rfl, hG7, hK7, t7, _, hd⟩
                  have T7 := T6.to t7 (by intro q hq; simp at hq; rcases hq with rfl | rfl | rfl <;> right <;> omega)
                  have hjl := h6.jn.lt
                  have hfl := h6.flash.flt
                  have hsl := h6.flash.slt
                  have hml := hPX.ref.mlt
                  have hgl := hPX.ref.glt
                  have hjl0 := hPX.jn.lt
                  have hfl0 := hPX.flash.flt
                  have hsl0 := hPX.flash.slt
                  have hR7 := hR6.to t7 (by simp; omega)
                  go_wp2_with fail
                  refine (flash_off _ f s G7 hG7).mono ?_
                  rintro e w8 ⟨rfl, hWe8⟩
                  obtain rfl : w7 = w8 := hWe8.symm
                  rcases hd with ⟨rfl, hd⟩ | ⟨rfl, hcd, hd⟩
                  · rw [hd.off]
                    have hN : Play w7 f s _ m6 g6 n K7 G7 := ⟨hK7, hG7, by rw [hd.slots]; exact hR7, hd.keeps, hd.cut, hd.off, h6.apart.out hd.out (two_half n), by omega⟩
                    clear hd hR7 hR6
                    go_wp2_with fail
                    refine hN.same.mono ?_
                    rintro e w9 ⟨rfl, t9⟩
                    go_wp2_with fail
                    go_roundw
                    case rel => exact ⟨k + 1, m6, g6, by omega, by go_num, rfl, Or.inl ⟨_, _, _, rfl, rfl, hN.to t9, hjB⟩, by omega, T7.to t9⟩
                    case measure => simp [intOf]; omega
                  · rw [hd.off, hcd]
                    have hM7 := h6.ref.to t7 (by obtain ⟨d1, d2, d3, d4, d5, d6⟩ := hPX.diff; simp; omega)
                    have hcut := hd.cut
                    have hsl7 := hd.slots
                    obtain ⟨nn, hHo⟩ := hd.holds
                    have hap7 := h6.apart.out hd.out (two_half n)
                    go_wp2_with fail
                    refine (same_any _ _ f s m g n K7 _ hK7 hM7).mono ?_
                    rintro e w9 ⟨rfl, t9⟩
                    rw [hsl7, agreeP_self]
                    go_wp2_with fail
                    refine (store_cut _ _ f s K7 G7 (hK7.to t9) (hG7.to t9) hcut).mono ?_
                    rintro e w10 ⟨rfl, hK10, hG10, t10⟩
                    go_wp2_with fail
                    refine (flash_on _ f s G7 hG10).mono ?_
                    rintro e w11 ⟨rfl, hG11, t11⟩
                    have hjf := hK7.apart
                    have hK11 := hK10.to t11 (by simpa using hjf.1)
                    go_wp2_with fail
                    refine (store_cut _ _ f s K7 _ hK11 hG11 hcut).mono ?_
                    rintro e w12 ⟨rfl, hK12, hG12, t12⟩
                    go_wp2_with fail
                    refine (restore_cut _ _ f s K7 _ hK12 hG12 hcut).mono ?_
                    rintro e w13 ⟨rfl, hK13, hG13, t13⟩
                    have hjB := hjB
                    have T13 : Touch [] w w13 := ((((T7.to t9).to t10 (by simp; omega)).to t11 (by simp; omega)).to t12 (by simp; omega)).to t13 (by simp; omega)
                    have g13 := glob_to hg T13 (by simp)
                    have hfp : f ≠ 0 ∧ s ≠ 0 := by omega
                    have hcn7 := hap7.cnt
                    go_wp2_with fail
                    refine (open_held _ f s _ 1 n _ _ _ _ _ (hHo.mem (G := { G7 with off := false, armed := false }) rfl rfl) hG13 rfl g13 hfp hn2 (by show 1 + n ≤ G7.count; omega)).mono ?_
                    rintro e w14 ⟨j14, K14, rfl, hO, hP14, t14⟩
                    go_wp2_with fail
                    have t714 : Touch [f, s, j] w7 w14 := (((((t9.mono (by simp)).trans (t10.mono (by simp))).trans (t11.mono (by simp))).trans (t12.mono (by simp))).trans (t13.mono (by simp))).trans (t14.mono (by simp))
                    have T14 : Touch [] w w14 := T13.to t14
                    obtain ⟨d1, d2, d3, d4, d5, d6⟩ := hPX.diff
                    have hRn := hR7.to t714 (by simp; omega)
                    have hMn := hM7.to t714 (by simp; omega)
                    have hz14 := T13.size
                    have hz7 := T6.size
                    have hz77 := T7.size
                    have hjf14 := hO.fresh
                    have hl16 := hRn.sixteen
                    have hm16 := hMn.sixteen
                    clear hK7 hG7 hK10 hG10 hK11 hG11 hK12 hG12 hK13 hG13 hM7 hR7 hR6 hHo hd
                    refine (ref_opened _ m6 g6 n _ hRn).mono ?_
                    rintro e w15 ⟨m15, g15, rfl, hm15, hg15, hR15, t15⟩
                    have T15 := T14.to t15
                    have hz15 := T14.size
                    go_wp2_with fail
                    refine (same_any _ _ f s m15 g15 n K14 _ (hO.jn.to t15) hR15).mono ?_
                    rintro e w16 ⟨rfl, t16⟩
                    have T16 := T15.to t16
                    have hz16 := T15.size
                    have y15 := t15.size
                    have y16 := t16.size
                    have hjl14 := hO.jn.lt
                    have hfl14 := hO.flash.flt
                    have hsl14 := hO.flash.slt
                    rw [hP14]
                    cases hag : decide (agreeP (opened (J.slots.map Slot.p)) (opened (callP (J.slots.map Slot.p) (n / 2) ⟨kd, gr, b, ba, bc, mo⟩).2)) with
                    | true =>
                      have heq := agree_opened hm16 hl16 (of_decide_eq_true hag)
                      go_wp2_with fail
                      refine (ref_opened _ m6 g6 n _ ((hRn.to t15).to t16)).mono ?_
                      rintro e w17 ⟨m17, g17, rfl, hm17, hg17, hR17, t17⟩
                      have T17 := T16.to t17
                      have hz17 := T16.size
                      have hN : Play w17 f s j14 m17 g17 n K14 _ := ⟨((hO.jn.to t15).to t16).to t17, ((hO.flash.to t15).to t16).to t17, by rw [hP14, heq]; exact hR17, hO.keeps, hO.cut, hO.off, hap7.mem rfl rfl, by omega⟩
                      clear hO hR17 hR15 hRn hMn hap7 heq hag hP14
                      go_wp2_with fail
                      go_roundw
                      case rel => exact ⟨k + 1, m17, g17, by omega, by go_num, rfl, Or.inl ⟨_, _, _, rfl, rfl, hN, by omega⟩, by omega, T17⟩
                      case measure => simp [intOf]; omega
                    | false =>
                      go_wp2_with fail
                      refine (ref_opened _ m g n _ ((hMn.to t15).to t16)).mono ?_
                      rintro e w17 ⟨m17, g17, rfl, hm17, hg17, hR17, t17⟩
                      have T17 := T16.to t17
                      go_wp2_with fail
                      refine (same_any _ _ f s m17 g17 n K14 _ (((hO.jn.to t15).to t16).to t17) hR17).mono ?_
                      rintro e w18 ⟨rfl, t18⟩
                      rw [hP14, agreeP_self]
                      have T18 := T17.to t18
                      have hz18 := T17.size
                      have y17 := t17.size
                      have y18 := t18.size
                      go_wp2_with fail
                      refine (ref_opened _ m g n _ ((((hMn.to t15).to t16).to t17).to t18)).mono ?_
                      rintro e w19 ⟨m19, g19, rfl, hm19, hg19, hR19, t19⟩
                      have T19 := T18.to t19
                      have hz19 := T18.size
                      have hN : Play w19 f s j14 m19 g19 n K14 _ := ⟨((((hO.jn.to t15).to t16).to t17).to t18).to t19, ((((hO.flash.to t15).to t16).to t17).to t18).to t19, by rw [hP14]; exact hR19, hO.keeps, hO.cut, hO.off, hap7.mem rfl rfl, by omega⟩
                      clear hO hR19 hR17 hR15 hRn hMn hap7 hag hP14
                      go_wp2_with fail
                      go_roundw
                      case rel => exact ⟨k + 1, m19, g19, by omega, by go_num, rfl, Or.inl ⟨_, _, _, rfl, rfl, hN, by omega⟩, by omega, T19⟩
                      case measure => simp [intOf]; omega
            · go_wp2_with fail
              refine (flash_off _ f s F hD.flash).mono ?_
              rintro e w6 ⟨rfl, hWe⟩
              obtain rfl : wr = w6 := hWe.symm
              rw [hD.off]
              go_wp2_with fail
              refine (flash_on _ f s F hD.flash).mono ?_
              rintro e w7 ⟨rfl, hF7, t7⟩
              have T7 := hT.to t7 (by simp; omega)
              have g7 := glob_to hg T7 (by simp)
              have hcnD := hD.apart.cnt
              have hpD := hD.none
              rw [← pick_mem (F := F) (G := { F with off := false, armed := false }) rfl] at hpD
              go_wp2_with fail
              refine (open_blank _ f s _ 1 n hpD rfl hF7 rfl g7 (by omega) hn2 (by show 1 + n ≤ F.count; omega)).mono ?_
              rintro e w8 ⟨j8, K8, G8, rfl, hO, hP8, hu8, t8⟩
              have T8 := T7.to t8 (by simp; omega)
              obtain ⟨d1, d2, d3, d4⟩ := hD.diff
              have hR8 := (hD.ref.to t7 (by simp; omega)).to t8 (by simp; omega)
              have hz7 := T7.size
              have hjf8 := hO.fresh
              have y7 := t7.size
              have hml := hD.ref.mlt
              have hgl := hD.ref.glt
              have hapD : Apart { F with off := false, armed := false } n := hD.apart.mem rfl rfl
              have hPl : Play w8 f s j8 m g n K8 G8 := ⟨hO.jn, hO.flash, by rw [hP8]; exact hR8, hO.keeps, hO.cut, hO.off, hapD.out hu8 (two_half n), by omega⟩
              clear hO hR8 hP8 hu8 hF7 hpD hapD
              go_wp2_with fail
              refine hPl.same.mono ?_
              rintro e w9 ⟨rfl, t9⟩
              have hPl9 := hPl.to t9
              have T9 := T8.to t9
              have hjB : w.heap.size ≤ j8 := by omega
              clear hPl hD
              go_wp2_with fail
              have hAr := hA.to T9
              obtain ⟨B, off, hAe, c0, c1, c2, c3⟩ := hAr.at_ hx
              have hok := hAr.each x hmem
              cases hAe
              obtain ⟨kd, gr, b, ba, bc, mo⟩ := x
              simp only at c0 c1 c2 c3 hxb
              have hkd := hok.kind
              have hgr := hok.group
              have hmo := hok.more
              simp only at hkd hgr hmo
              have tX := Touch.one w9 (.cells #[Value.int .u8 kd, .int .u8 gr, .slice ba b.length bc, .int .u16 mo] 45)
              have oX := OwnAt.new w9 #[Value.int .u8 kd, .int .u8 gr, .slice ba b.length bc, .int .u16 mo] 45
              have hPX := (hPl9).to tX
              have hokX := hok.to tX
              have TX := (T9).to tX
              have q0 := oX.get 0 (by simp)
              have q3 := oX.get 3 (by simp)
              clear hx hAr
              by_cases k5 : kd % 6 = 5
              · have e5 : ((kd : Int) % 6 == 5) = true := beq_iff_eq.2 (by omega)
                clear k5
                go_wp2_with fail
                refine (flash_cut _ f s _ _ hPX.flash).mono ?_
                rintro e w6 ⟨rfl, hF6, t6⟩
                have hN := hPX.arm hF6 rfl rfl hPX.off t6
                have T6 := TX.to t6
                go_wp2_with fail
                go_roundw
                case rel => exact ⟨k + 1, m, g, by omega, by go_num, rfl, Or.inl ⟨_, _, _, rfl, rfl, hN, hjB⟩, hfr, T6⟩
                case measure => simp [intOf]; omega
              · have e5 : ((kd : Int) % 6 == 5) = false := beq_eq_false_iff_ne.2 (by omega)
                have gX := glob_to hg TX (by simp)
                by_cases k4 : kd % 6 = 4
                · have e4 : ((kd : Int) % 6 == 4) = true := beq_iff_eq.2 (by omega)
                  have hH := hPX.keeps.holds
                  have hcn4 := hPX.apart.cnt
                  have hfp : f ≠ 0 ∧ s ≠ 0 := by omega
                  clear k4 k5
                  go_wp2_with fail
                  refine (open_held _ f s _ 1 n _ _ _ _ _ hH hPX.flash hPX.off gX hfp hn2 (by omega)).mono ?_
                  rintro e w6 ⟨j6, K6, rfl, hO, hP6, t6⟩
                  have T6 := TX.to t6
                  have h6 := hPX.to t6
                  have hz6 := TX.size
                  go_wp2_with fail
                  refine (ref_opened _ m g n _ h6.ref).mono ?_
                  rintro e w7 ⟨m7, g7, rfl, hm7, hg7, hR7, t7⟩
                  have T7 := T6.to t7
                  have hjl := hO.jn.lt
                  have hfl := hO.flash.flt
                  have hsl := hO.flash.slt
                  have hz7 := T6.size
                  have hjf := hO.fresh
                  have hN : Play w7 f s j6 m7 g7 n K6 _ := ⟨hO.jn.to t7, hO.flash.to t7, by rw [hP6]; exact hR7, hO.keeps, hO.cut, hO.off, hPX.apart, by omega⟩
                  clear hO hR7 hP6 hH
                  go_wp2_with fail
                  go_roundw
                  case rel => exact ⟨k + 1, m7, g7, by omega, by go_num, rfl, Or.inl ⟨_, _, _, rfl, rfl, hN, by omega⟩, by omega, T7⟩
                  case measure => simp [intOf]; omega
                · have e4 : ((kd : Int) % 6 == 4) = false := beq_eq_false_iff_ne.2 (by omega)
                  have q1 := oX.get 1 (by simp)
                  have q2 := oX.get 2 (by simp)
                  clear k4 k5
                  go_wp2_with fail
                  refine (would_any _ m g n _ ⟨kd, gr, b, ba, bc, mo⟩ hPX.ref hokX (by simp only; omega)).mono ?_
                  rintro e w6 ⟨m6, g6, rfl, hm6, hg6, hR6, t6⟩
                  have T6 := TX.to t6
                  have h6 := hPX.to t6
                  have hok6 := hokX.to t6
                  have hz6 := TX.size
                  have o6 := oX.to t6
                  have r0 := o6.get 0 (by simp)
                  have r1 := o6.get 1 (by simp)
                  have r2 := o6.get 2 (by simp)
                  have r3 := o6.get 3 (by simp)
                  go_wp2_with fail
                  refine (does_any _ _ f s _ _ 1 (n / 2) ⟨kd, gr, b, ba, bc, mo⟩ h6.jn h6.flash h6.cut h6.off h6.keeps hok6 (by simp only; omega)).mono ?_
                  rintro e w7 ⟨code, G7, K7, rfl, hG7, hK7, t7, _, hd⟩
                  have T7 := T6.to t7 (by intro q hq; simp at hq; rcases hq with rfl | rfl | rfl <;> right <;> omega)
                  have hjl := h6.jn.lt
                  have hfl := h6.flash.flt
                  have hsl := h6.flash.slt
                  have hml := hPX.ref.mlt
                  have hgl := hPX.ref.glt
                  have hjl0 := hPX.jn.lt
                  have hfl0 := hPX.flash.flt
                  have hsl0 := hPX.flash.slt
                  have hR7 := hR6.to t7 (by simp; omega)
                  go_wp2_with fail
                  refine (flash_off _ f s G7 hG7).mono ?_
                  rintro e w8 ⟨rfl, hWe8⟩
                  obtain rfl : w7 = w8 := hWe8.symm
                  rcases hd with ⟨rfl, hd⟩ | ⟨rfl, hcd, hd⟩
                  · rw [hd.off]
                    have hN : Play w7 f s _ m6 g6 n K7 G7 := ⟨hK7, hG7, by rw [hd.slots]; exact hR7, hd.keeps, hd.cut, hd.off, h6.apart.out hd.out (two_half n), by omega⟩
                    clear hd hR7 hR6
                    go_wp2_with fail
                    refine hN.same.mono ?_
                    rintro e w9 ⟨rfl, t9⟩
                    go_wp2_with fail
                    go_roundw
                    case rel => exact ⟨k + 1, m6, g6, by omega, by go_num, rfl, Or.inl ⟨_, _, _, rfl, rfl, hN.to t9, hjB⟩, by omega, T7.to t9⟩
                    case measure => simp [intOf]; omega
                  · rw [hd.off, hcd]
                    have hM7 := h6.ref.to t7 (by obtain ⟨d1, d2, d3, d4, d5, d6⟩ := hPX.diff; simp; omega)
                    have hcut := hd.cut
                    have hsl7 := hd.slots
                    obtain ⟨nn, hHo⟩ := hd.holds
                    have hap7 := h6.apart.out hd.out (two_half n)
                    go_wp2_with fail
                    refine (same_any _ _ f s m g n K7 _ hK7 hM7).mono ?_
                    rintro e w9 ⟨rfl, t9⟩
                    rw [hsl7, agreeP_self]
                    go_wp2_with fail
                    refine (store_cut _ _ f s K7 G7 (hK7.to t9) (hG7.to t9) hcut).mono ?_
                    rintro e w10 ⟨rfl, hK10, hG10, t10⟩
                    go_wp2_with fail
                    refine (flash_on _ f s G7 hG10).mono ?_
                    rintro e w11 ⟨rfl, hG11, t11⟩
                    have hjf := hK7.apart
                    have hK11 := hK10.to t11 (by simpa using hjf.1)
                    go_wp2_with fail
                    refine (store_cut _ _ f s K7 _ hK11 hG11 hcut).mono ?_
                    rintro e w12 ⟨rfl, hK12, hG12, t12⟩
                    go_wp2_with fail
                    refine (restore_cut _ _ f s K7 _ hK12 hG12 hcut).mono ?_
                    rintro e w13 ⟨rfl, hK13, hG13, t13⟩
                    have hjB := hjB
                    have T13 : Touch [] w w13 := ((((T7.to t9).to t10 (by simp; omega)).to t11 (by simp; omega)).to t12 (by simp; omega)).to t13 (by simp; omega)
                    have g13 := glob_to hg T13 (by simp)
                    have hfp : f ≠ 0 ∧ s ≠ 0 := by omega
                    have hcn7 := hap7.cnt
                    go_wp2_with fail
                    refine (open_held _ f s _ 1 n _ _ _ _ _ (hHo.mem (G := { G7 with off := false, armed := false }) rfl rfl) hG13 rfl g13 hfp hn2 (by show 1 + n ≤ G7.count; omega)).mono ?_
                    rintro e w14 ⟨j14, K14, rfl, hO, hP14, t14⟩
                    go_wp2_with fail
                    have t714 : Touch [f, s, j8] w7 w14 := (((((t9.mono (by simp)).trans (t10.mono (by simp))).trans (t11.mono (by simp))).trans (t12.mono (by simp))).trans (t13.mono (by simp))).trans (t14.mono (by simp))
                    have T14 : Touch [] w w14 := T13.to t14
                    obtain ⟨d1, d2, d3, d4, d5, d6⟩ := hPX.diff
                    have hRn := hR7.to t714 (by simp; omega)
                    have hMn := hM7.to t714 (by simp; omega)
                    have hz14 := T13.size
                    have hz7 := T6.size
                    have hz77 := T7.size
                    have hjf14 := hO.fresh
                    have hl16 := hRn.sixteen
                    have hm16 := hMn.sixteen
                    clear hK7 hG7 hK10 hG10 hK11 hG11 hK12 hG12 hK13 hG13 hM7 hR7 hR6 hHo hd
                    refine (ref_opened _ m6 g6 n _ hRn).mono ?_
                    rintro e w15 ⟨m15, g15, rfl, hm15, hg15, hR15, t15⟩
                    have T15 := T14.to t15
                    have hz15 := T14.size
                    go_wp2_with fail
                    refine (same_any _ _ f s m15 g15 n K14 _ (hO.jn.to t15) hR15).mono ?_
                    rintro e w16 ⟨rfl, t16⟩
                    have T16 := T15.to t16
                    have hz16 := T15.size
                    have y15 := t15.size
                    have y16 := t16.size
                    have hjl14 := hO.jn.lt
                    have hfl14 := hO.flash.flt
                    have hsl14 := hO.flash.slt
                    rw [hP14]
                    cases hag : decide (agreeP (opened (K8.slots.map Slot.p)) (opened (callP (K8.slots.map Slot.p) (n / 2) ⟨kd, gr, b, ba, bc, mo⟩).2)) with
                    | true =>
                      have heq := agree_opened hm16 hl16 (of_decide_eq_true hag)
                      go_wp2_with fail
                      refine (ref_opened _ m6 g6 n _ ((hRn.to t15).to t16)).mono ?_
                      rintro e w17 ⟨m17, g17, rfl, hm17, hg17, hR17, t17⟩
                      have T17 := T16.to t17
                      have hz17 := T16.size
                      have hN : Play w17 f s j14 m17 g17 n K14 _ := ⟨((hO.jn.to t15).to t16).to t17, ((hO.flash.to t15).to t16).to t17, by rw [hP14, heq]; exact hR17, hO.keeps, hO.cut, hO.off, hap7.mem rfl rfl, by omega⟩
                      clear hO hR17 hR15 hRn hMn hap7 heq hag hP14
                      go_wp2_with fail
                      go_roundw
                      case rel => exact ⟨k + 1, m17, g17, by omega, by go_num, rfl, Or.inl ⟨_, _, _, rfl, rfl, hN, by omega⟩, by omega, T17⟩
                      case measure => simp [intOf]; omega
                    | false =>
                      go_wp2_with fail
                      refine (ref_opened _ m g n _ ((hMn.to t15).to t16)).mono ?_
                      rintro e w17 ⟨m17, g17, rfl, hm17, hg17, hR17, t17⟩
                      have T17 := T16.to t17
                      go_wp2_with fail
                      refine (same_any _ _ f s m17 g17 n K14 _ (((hO.jn.to t15).to t16).to t17) hR17).mono ?_
                      rintro e w18 ⟨rfl, t18⟩
                      rw [hP14, agreeP_self]
                      have T18 := T17.to t18
                      have hz18 := T17.size
                      have y17 := t17.size
                      have y18 := t18.size
                      go_wp2_with fail
                      refine (ref_opened _ m g n _ ((((hMn.to t15).to t16).to t17).to t18)).mono ?_
                      rintro e w19 ⟨m19, g19, rfl, hm19, hg19, hR19, t19⟩
                      have T19 := T18.to t19
                      have hz19 := T18.size
                      have hN : Play w19 f s j14 m19 g19 n K14 _ := ⟨((((hO.jn.to t15).to t16).to t17).to t18).to t19, ((((hO.flash.to t15).to t16).to t17).to t18).to t19, by rw [hP14]; exact hR19, hO.keeps, hO.cut, hO.off, hap7.mem rfl rfl, by omega⟩
                      clear hO hR19 hR17 hR15 hRn hMn hap7 hag hP14
                      go_wp2_with fail
                      go_roundw
                      case rel => exact ⟨k + 1, m19, g19, by omega, by go_num, rfl, Or.inl ⟨_, _, _, rfl, rfl, hN, by omega⟩, by omega, T19⟩
                      case measure => simp [intOf]; omega
          · have : k = l.length := by omega
            subst this
            rcases hH with ⟨j, J, F, rfl, rfl, hPl, hjB⟩ | ⟨F, rfl, rfl, hD⟩
            · go_wp2_with fail
              refine (flash_off _ f s F hPl.flash).mono ?_
              rintro e w6 ⟨rfl, hWe⟩
              obtain rfl : wr = w6 := hWe.symm
              rw [hPl.off]
              have hoP := hPl.off
              go_wp2_with fail
              refine (flash_cut _ f s _ _ hPl.flash).mono ?_
              rintro e w10 ⟨rfl, hF10, t10⟩
              have T10 := (hT).to t10 (by simp; omega)
              go_wp2_with fail
              refine (apart_any _ f s _ n hF10 (hPl.apart.mem rfl rfl) (hPl.off) (by omega)).mono ?_
              rintro e w11 ⟨rfl, t11⟩
              have T11 := T10.to t11
              go_wp2_with fail
              refine (works_any _ (glob_to hg T11 (by simp))).mono ?_
              rintro e w12 ⟨rfl, t12⟩
              go_wp2_with fail
              go_ret
              exact ⟨rfl, T11.to t12⟩
            · go_wp2_with fail
              refine (flash_off _ f s F hD.flash).mono ?_
              rintro e w6 ⟨rfl, hWe⟩
              obtain rfl : wr = w6 := hWe.symm
              rw [hD.off]
              go_wp2_with fail
              refine (flash_on _ f s F hD.flash).mono ?_
              rintro e w7 ⟨rfl, hF7, t7⟩
              have T7 := hT.to t7 (by simp; omega)
              go_wp2_with fail
              refine (flash_cut _ f s _ _ hF7).mono ?_
              rintro e w10 ⟨rfl, hF10, t10⟩
              have T10 := (T7).to t10 (by simp; omega)
              go_wp2_with fail
              refine (apart_any _ f s _ n hF10 (hD.apart.mem rfl rfl) (rfl) (by omega)).mono ?_
              rintro e w11 ⟨rfl, t11⟩
              have T11 := T10.to t11
              go_wp2_with fail
              refine (works_any _ (glob_to hg T11 (by simp))).mono ?_
              rintro e w12 ⟨rfl, t12⟩
              go_wp2_with fail
              go_ret
              exact ⟨rfl, T11.to t12⟩
theorem journalCuts_row (a0 : Int) (a1 : Option Addr) (cap1 : Nat) (l1 : List OpP) (a2 : Int) (W : World) (hg : W.rangeAt 0 0 W4.free.cells) (w0 : (Lit.int .i64 a0).wf = true) (w1 : l1.length ≤ 9223372036854775807 ∧ OpsAt W a1 l1) (w2 : (Lit.int .u16 a2).wf = true) :
    Calls Tryd.prog 6 #[.int .i64 a0, .slice a1 l1.length cap1, .int .u16 a2] W fun e w' => e = .returned (.bool true) ∧ Below W.heap.size W w' := by
  have h1 : -9223372036854775808 ≤ a0 ∧ a0 ≤ 9223372036854775807 := by simp [Lit.wf, IntKind.min, IntKind.max, IntKind.bits, IntKind.signed] at w0; omega
  have h2 : 0 ≤ a2 ∧ a2 < 65536 := by simp [Lit.wf, IntKind.min, IntKind.max, IntKind.bits, IntKind.signed] at w2; omega
  obtain ⟨n, rfl⟩ : ∃ n : Nat, a2 = (n : Int) := ⟨a2.toNat, by omega⟩
  refine (cuts_walk W hg a0 a1 cap1 l1 n w1.2 w1.1 h1.1 h1.2 (by omega)).mono ?_
  rintro e w' ⟨rfl, hT⟩
  exact ⟨rfl, hT.below⟩
end Go.Proofs.YtdfgcenbkclpbaaDoor
