/- turn, walked. -/
import Derived.Test.YtdfgcenbkclpbaaDoorTurn
namespace Go.Proofs.YtdfgcenbkclpbaaDoor
open Go.RowKit
set_option linter.unusedSimpArgs false
set_option linter.unusedVariables false
theorem wp_store_half {ops : Array Oper} {rest : List Oper} {op : Oper} {a : Act} {w : World} {Q : Exit → Act → World → Prop} {x z : Operand} {b o f first count : Nat} (hc : w.there b o 3) (hgd : op.guard = none) (ho : op.op = .store 73 x z)
    (hx : a.eval x = .pointer (some ⟨b, o, none⟩)) (hy : a.eval z = halfV f first count) (h : wpList Tryd.prog ops Q rest (a.put op.dst undef) (w.setCells b o [ptr f, .int .i64 first, .int .i64 count])) : wpList Tryd.prog ops Q (op :: rest) a w :=
  wpList_store_mid hgd 73 x z ho b o #[ptr f, .int .i64 first, .int .i64 count] hx hy hc (by kernel_rfl) (by simp [Value.oneCell']) h
theorem JnAt.turned {w : World} {j f s : Nat} {J : Jn} (h : JnAt w j f s J) (gv at_ : Nat) (hg : gv < 4294967296) :
    JnAt ((((w.setCells j 0 [ptr f, .int .i64 J.other, .int .i64 J.count]).setCells j 3 [ptr f, .int .i64 J.first, .int .i64 J.count]).setCell ⟨j, 6, none⟩ (.int .u32 gv)).setCell ⟨j, 7, none⟩ (.int .i64 at_)) j f s { J with first := J.other, other := J.first, gen := gv, next := at_ } := by
  have hl := Jn.cells_length f J
  have o1 := h.own.setCells 0 [ptr f, .int .i64 J.other, .int .i64 J.count] (by rw [hl]; simp; omega)
  have o2 := o1.setCells 3 [ptr f, .int .i64 J.first, .int .i64 J.count] (by simp [hl]; omega)
  have o3 := o2.set0 6 (.int .u32 gv) (by simp [hl]; omega)
  have o4 := o3.set0 7 (.int .i64 at_) (by simp [hl]; omega)
  refine ⟨?_, h.sixteen, h.apart, h.few, hg, fun x hx => ⟨?_, (h.slots x hx).2⟩⟩
  · simpa [Jn.cells] using o4
  · refine (h.slots x hx).1.touch (S := [j]) ((((Touch.refl [j] w).setCells (by simp) _).setCells (by simp) _ |>.setCell (by simp) _).setCell (by simp) _) (fun y hy => by simpa using ((h.slots x hx).2.2.2 y hy).1)
theorem wordOf_any' {nv : Int} (w : World) (n : Nat) (hnv : nv = n) (hn : n < 4294967296) : Calls Tryd.prog 55 #[.int .u32 nv] w fun e w' => e = .returned (W4.ofNum n).val ∧ Touch [] w w' := by
  subst hnv; exact wordOf_any w n hn
set_option maxRecDepth 100000 in
set_option maxHeartbeats 1600000 in
theorem turn_any (w : World) (j f s : Nat) (J : Jn) (F : Fl) (h : JnAt w j f s J) (hF : FlashAt w f s F) (ho : F.off = false) (hc : J.other + J.count ≤ F.count) (hp : 0 < J.count) (hfit : 2 + liveWords J.slots ≤ 256 * J.count) :
    Calls Tryd.prog 39 #[ptr j] w fun e w' => e = .returned (.int .i64 (J.turn F).1) ∧ FlashAt w' f s (J.turn F).2.1 ∧ JnAt w' j f s (J.turn F).2.2 ∧ Touch [f, s, j] w w' := by
  have h1 := h.half1
  have hfew := h.few
  have hjl : j < w.heap.size := h.own.lt (by rw [Jn.cells_length]; omega)
  have hfl := hF.flt
  have hsl := hF.slt
  go_enter Tryd.func39, Tryd.ntmps39
  go_wp2_with (refine wp_load_half (f := f) (first := J.other) (count := J.count) ?_ rfl rfl rfl ?_; (with_reducible exact h1))
  have hJ1 := h.touch ((Touch.refl [] w).alloc (.cells #[ptr f, .int .i64 J.other, .int .i64 J.count] 73)) (by simp) (by simp)
  have hO1 := OwnAt.new w #[ptr f, .int .i64 J.other, .int .i64 J.count] 73
  have hT1 := (Touch.refl [f, s, j] w).alloc (.cells #[ptr f, .int .i64 J.other, .int .i64 J.count] 73)
  refine (half_erase _ f s F J.other J.count (hF.alloc _) ho hc).mono ?_
  rintro e w2 ⟨rfl, hF2, hT2⟩
  have hJ2 := hJ1.touch hT2 (by simp [h.apart.1, h.apart.2]) (by simp)
  have hO2 := hO1.touch hT2 (by simp; omega)
  have hTT := hT1.trans (hT2.mono (by simp))
  by_cases hz : (F.eraseAll J.other J.count).1 = 0
  · have hoff := Fl.eraseAll_off ho hz
    have hcnt := Fl.eraseAll_count F J.other J.count
    rw [hz]
    have HZ := Lib.hid hz
    clear hz
    have hg2 := hJ2.cells8
    go_wp2_with (refine wp_load_groups ?_ h.sixteen rfl rfl rfl ?_; (with_reducible exact hg2))
    go_loopw [4, 26] (fun v4 v26 wr => ∃ (k at_ : Nat) (G : Fl), k ≤ 16 ∧ v26 = .int .i64 k ∧ v4 = .int .i64 at_ ∧ FlashAt wr f s G ∧ G.off = false ∧ G.count = F.count ∧ (F.eraseAll J.other J.count).2.writeLive (256 * J.other) 2 J.slots 0 = G.writeLive (256 * J.other) at_ (J.slots.drop k) k ∧ at_ + liveWords (J.slots.drop k) ≤ 256 * J.count ∧ JnAt wr j f s J ∧ OwnAt wr w.heap.size 0 [ptr f, .int .i64 J.other, .int .i64 J.count] ∧ Touch [f, s, j] w wr) (fun _ v _ => 16 - (intOf v).toNat)
    case atStart => exact ⟨0, 2, _, by omega, rfl, rfl, hF2, hoff, hcnt, by simp, by simpa using hfit, hJ2, hO2, hTT⟩
    case round =>
      obtain ⟨k, at_, G, hk, rfl, rfl, hG, hgo, hgc, heq, hroom, hJr, hOr, hTr⟩ := hrel
      have HE := Lib.hid heq
      have HR := Lib.hid hroom
      clear heq hroom hF2 hJ2 hO2 hTT hoff hcnt hg2
      by_cases hlt : k < 16
      · have hkl : k < J.slots.length := by rw [h.sixteen]; exact hlt
        obtain ⟨x, hx⟩ : ∃ x, J.slots[k]? = some x := ⟨_, List.getElem?_eq_getElem hkl⟩
        have hix := fun W => index_group h.sixteen hx W
        have hdrop : J.slots.drop k = x :: J.slots.drop (k + 1) := by rw [List.drop_eq_getElem_cons hkl, (List.getElem?_eq_some_iff.1 hx).2]
        have hxs := hJr.slots x (List.mem_of_getElem? hx)
        have he := HE.out
        have hr := HR.out
        rw [hdrop] at he hr
        rw [Fl.writeLive] at he
        rw [liveWords] at hr
        have hTX := hTr.alloc (.cells #[.bool x.there, .bool x.marked, .slice x.a x.b.length x.cap] 78)
        have hJX := hJr.touch ((Touch.refl [] wr).alloc (.cells #[.bool x.there, .bool x.marked, .slice x.a x.b.length x.cap] 78)) (by simp) (by simp)
        have hGX := hG.alloc (.cells #[.bool x.there, .bool x.marked, .slice x.a x.b.length x.cap] 78)
        have hOX := hOr.alloc (.cells #[.bool x.there, .bool x.marked, .slice x.a x.b.length x.cap] 78)
        have hSX := hxs.1.touch ((Touch.refl [] wr).alloc (.cells #[.bool x.there, .bool x.marked, .slice x.a x.b.length x.cap] 78)) (by simp)
        clear HE HR hdrop hJr hG hOr
        by_cases hl : x.live = true
        · rw [if_pos hl] at he hr
          have HE := Lib.hid he
          have HR := Lib.hid hr
          clear he hr
          have hl' := hl
          unfold Slot.live at hl'
          simp only [Bool.and_eq_true, Bool.not_eq_true'] at hl'
          obtain ⟨hth, hmk⟩ := hl'
          obtain ⟨t, m, b, a, c⟩ := x
          simp only at hth hmk
          subst hth; subst hmk
          have hb : b.length ≤ 4096 := hxs.2.1
          clear hl
          go_wp2_with fail
          refine (recordOf_kept _ k true a b.length c (by omega) hb).mono ?_
          rintro e w3 ⟨rfl, hT3⟩
          have hG3 := (hGX.touch hT3 (by simp) (by simp)).alloc (.cells #[u8v (headOf k 1 b.length).a, u8v (headOf k 1 b.length).b, u8v (headOf k 1 b.length).c, u8v (headOf k 1 b.length).d, .slice a b.length c] 98)
          have hJ3 := (hJX.touch hT3 (by simp) (by simp)).touch ((Touch.refl [] w3).alloc (.cells #[u8v (headOf k 1 b.length).a, u8v (headOf k 1 b.length).b, u8v (headOf k 1 b.length).c, u8v (headOf k 1 b.length).d, .slice a b.length c] 98)) (by simp) (by simp)
          have hO3 := (hOX.touch hT3 (by simp)).alloc (.cells #[u8v (headOf k 1 b.length).a, u8v (headOf k 1 b.length).b, u8v (headOf k 1 b.length).c, u8v (headOf k 1 b.length).d, .slice a b.length c] 98)
          have hT3' := (hTX.trans (hT3.mono (by simp))).alloc (.cells #[u8v (headOf k 1 b.length).a, u8v (headOf k 1 b.length).b, u8v (headOf k 1 b.length).c, u8v (headOf k 1 b.length).d, .slice a b.length c] 98)
          have hS3 := (hSX.touch hT3 (by simp)).touch ((Touch.refl [] w3).alloc (.cells #[u8v (headOf k 1 b.length).a, u8v (headOf k 1 b.length).b, u8v (headOf k 1 b.length).c, u8v (headOf k 1 b.length).d, .slice a b.length c] 98)) (by simp)
          have hR3 := (OwnAt.new w3 #[u8v (headOf k 1 b.length).a, u8v (headOf k 1 b.length).b, u8v (headOf k 1 b.length).c, u8v (headOf k 1 b.length).d, .slice a b.length c] 98).all
          have hH3 := hO3.all
          have hz3 := hTX.size
          have hz4 := hT3.size
          clear hGX hJX hOX hSX
          go_wp2_with (first | (refine wp_load_half (f := f) (first := J.other) (count := J.count) ?_ rfl rfl rfl ?_; (with_reducible exact hH3)) | (refine wp_load_rec (y := headOf k 1 b.length) (A := a) (n := b.length) (c := c) ?_ rfl rfl rfl ?_; (with_reducible exact hR3)))
          have hHR : at_ + (2 + (b.length + 3) / 4 + liveWords (J.slots.drop (k + 1))) ≤ 256 * J.count := HR.out
          refine (half_write _ f s G J.other J.count at_ (headOf k 1 b.length) a c b hG3 hgo (by rw [hgc]; exact hc) hb (by omega) hS3 hxs.2.2.1).mono ?_
          rintro e w4 ⟨rfl, hG4, hT4⟩
          have hnj : j ∉ [f, s] := by simp [h.apart.1, h.apart.2]
          have hJ4 := hJ3.touch hT4 hnj (by simp)
          have hO4 := hO3.touch hT4 (by simp; omega)
          have hT4' := hT3'.trans (hT4.mono (by simp))
          have hR4 := ((OwnAt.new w3 #[u8v (headOf k 1 b.length).a, u8v (headOf k 1 b.length).b, u8v (headOf k 1 b.length).c, u8v (headOf k 1 b.length).d, .slice a b.length c] 98).touch hT4 (by simp; omega)).all
          have hcnt := Fl.writes_count G (256 * J.other + at_) (recWords (headOf k 1 b.length) b)
          have hEE := HE.out
          by_cases hw : (G.writes (256 * J.other + at_) (recWords (headOf k 1 b.length) b)).1 = 0
          · rw [if_pos hw] at hEE
            have hoff := Fl.writes_off hgo hw
            rw [hw]
            have H4 := Lib.hid hEE
            clear hEE HE hw
            generalize (G.writes (256 * J.other + at_) (recWords (headOf k 1 b.length) b)).2 = G2 at *
            go_wp2_with (first | (refine wp_load_rec (y := headOf k 1 b.length) (A := a) (n := b.length) (c := c) ?_ rfl rfl rfl ?_; (with_reducible exact hR4)))
            refine (rec_length _ (headOf k 1 b.length) a b.length c (by omega)).mono ?_
            rintro e w5 ⟨rfl, hT5⟩
            have hl5 : ((2 + (b.length + 3) / 4 : Nat) : Int) ≤ 2000 := by omega
            go_wp2_with fail
            go_roundw
            case rel => exact ⟨k + 1, at_ + (2 + (b.length + 3) / 4), G2, by omega, by go_num, by go_num, hG4.touch hT5 (by simp) (by simp), hoff, hcnt.trans hgc, H4.out, by omega, hJ4.touch hT5 (by simp) (by simp), hO4.touch hT5 (by simp), hT4'.trans (hT5.mono (by simp))⟩
            case measure => simp [intOf]; omega
          · rw [if_neg hw] at hEE
            have hne : ((G.writes (256 * J.other + at_) (recWords (headOf k 1 b.length) b)).1 != 0) = true := bne_iff_ne.2 hw
            have hte : J.turn F = ((G.writes (256 * J.other + at_) (recWords (headOf k 1 b.length) b)).1, (G.writes (256 * J.other + at_) (recWords (headOf k 1 b.length) b)).2, J) := by
              unfold Jn.turn
              rw [if_neg (by simp [HZ.out])]
              simp only [hEE]
              rw [if_pos hw]
            have H4 := Lib.hid hte
            clear hEE HE hw hte
            go_wp2_with fail
            go_ret
            rw [H4.out]
            exact ⟨rfl, hG4, hJ4, hT4'⟩
        · rw [if_neg hl] at he hr
          have HE := Lib.hid he
          have HR := Lib.hid hr
          clear he hr
          have hl' := hl
          unfold Slot.live at hl'
          obtain ⟨t, m, b, a, c⟩ := x
          cases t with
          | false =>
            clear hl hl'
            go_wp2_with fail
            go_roundw
            case rel => exact ⟨k + 1, at_, G, by omega, by go_num, rfl, hGX, hgo, hgc, HE.out, by have := HR.out; omega, hJX, hOX, hTX⟩
            case measure => simp [intOf]; omega
          | true =>
            cases m with
            | false => exact absurd rfl hl'
            | true =>
              clear hl hl'
              go_wp2_with fail
              go_roundw
              case rel => exact ⟨k + 1, at_, G, by omega, by go_num, rfl, hGX, hgo, hgc, HE.out, by have := HR.out; omega, hJX, hOX, hTX⟩
              case measure => simp [intOf]; omega
      · have hk16 : k = 16 := by omega
        have he := HE.out
        rw [hk16, List.drop_of_length_le (by rw [h.sixteen]; exact Nat.le_refl _), Fl.writeLive] at he
        have HL := Lib.hid he
        clear he HE HR
        have hlt' : (16 : Int) ≤ (k : Int) := by omega
        clear hk16
        have hgn : w.heap.size ≤ wr.heap.size := hTr.size
        have c6 : wr.cell? ⟨j, 6, none⟩ = some (.int .u32 J.gen) := hJr.own.get 6 (by rw [Jn.cells_length]; omega)
        have hgl := h.gen
        obtain ⟨gn, hgnx, hgn1, hgn2⟩ : ∃ gn : Nat, nextGen J.gen = gn ∧ gn < 4294967296 ∧ (((J.gen + 1) % 4294967296 = 4294967295 ∧ gn = 1) ∨ (¬ (J.gen + 1) % 4294967296 = 4294967295 ∧ gn = (J.gen + 1) % 4294967296)) := by
          refine ⟨_, rfl, ?_, ?_⟩ <;> (unfold nextGen; split <;> omega)
        have HG := Lib.hid hgnx
        clear hgnx
        have hO0 := hOr.all
        rcases hgn2 with ⟨hm, hv⟩ | ⟨hm, hv⟩
        · have hmI : (((J.gen : Int) + 1) % 4294967296 == 4294967295) = true := beq_iff_eq.2 (by omega)
          have HV := Lib.hid hv
          clear hm hv
          go_wp2_with fail
          refine wp_region_legs (fun w' => w'.rangeAt w.heap.size 0 [ptr f, .int .i64 J.other, .int .i64 J.count]) [⟨[0, 1], some 2⟩, ⟨[], some 3⟩, ⟨[4], none⟩] (by kernel_rfl) (by kernel_rfl) ?_
          refine legs_onS ?_ (by simpa using hO0) (fun w' hSw => ?_) ?_ ?_
          rotate_left
          · simp only [pick, nthOp]; go_wp2_with (refine wp_load_half (f := f) (first := J.other) (count := J.count) ?_ rfl rfl rfl ?_; (with_reducible exact hSw)); refine And.intro ?_ ?_ <;> rfl
          · kernel_rfl
          simp only [pick, nthOp]
          go_wp2_with fail
          refine (wordOf_any' _ gn (by have := HV.out; omega) hgn1).mono ?_
          rintro e w5 ⟨rfl, hT5⟩
          have hO5 := (hOr.drew.touch hT5 (by simp))
          have hG5 := (hG.drew.touch hT5 (by simp) (by simp))
          have hJ5 := (hJr.touch ((Touch.refl [] wr).drew) (by simp) (by simp)).touch hT5 (by simp) (by simp)
          have hTr5 := hTr.drew.trans (hT5.mono (by simp))
          go_wp2_with fail
          refine legs_nextS hO5.all ?_
          refine legs_onS ?_ hO5.all (fun w' hSw => ?_) ?_ ?_
          rotate_left
          · simp only [pick, nthOp]; go_wp2_with fail; refine And.intro ?_ ?_ <;> rfl
          · kernel_rfl
          simp only [pick, nthOp]
          go_wp2_with fail
          refine (half_put' _ f s G J.other J.count 0 (by simp) (W4.ofNum gn) hG5 hgo (by rw [hgc]; exact hc) (by omega)).mono ?_
          rintro e w6 ⟨rfl, hG6, hT6⟩
          have hnj : j ∉ [f, s] := by simp [h.apart.1, h.apart.2]
          have hO6 := hO5.touch hT6 (by simp; omega)
          have hJ6 := hJ5.touch hT6 hnj (by simp)
          have hTr6 := hTr5.trans (hT6.mono (by simp))
          rw [Nat.add_zero] at hG6 ⊢
          have hAc := Fl.write_count G (256 * J.other) (W4.ofNum gn)
          go_wp2_with fail
          refine legs_nextS hO6.all ?_
          refine legs_rowS ?_ hO6.all (fun w' hSw => ?_) ?_ ?_
          rotate_left
          · simp only [pick, nthOp]; go_wp2_with fail; refine And.intro ?_ ?_ <;> rfl
          · kernel_rfl
          refine legs_endS ?_
          by_cases hA : (G.write (256 * J.other) (W4.ofNum gn)).1 = 0
          · have hAo := Fl.write_off hgo (k := 256 * J.other) (y := W4.ofNum gn) (by rw [hA]; decide)
            rw [hA]
            have HA := Lib.hid hA
            clear hA
            go_wp2_with fail
            refine wp_region_legs (fun w' => w'.rangeAt w.heap.size 0 [ptr f, .int .i64 J.other, .int .i64 J.count]) [⟨[0, 1, 2], some 3⟩, ⟨[], some 4⟩, ⟨[5], none⟩] (by kernel_rfl) (by kernel_rfl) ?_
            refine legs_onS ?_ (by simpa using hO6.all) (fun w' hSw => ?_) ?_ ?_
            rotate_left
            · simp only [pick, nthOp]; go_wp2_with (refine wp_load_half (f := f) (first := J.other) (count := J.count) ?_ rfl rfl rfl ?_; (with_reducible exact hSw)); refine And.intro ?_ ?_ <;> rfl
            · kernel_rfl
            simp only [pick, nthOp]
            go_wp2_with fail
            refine (wordOf_any' _ (4294967295 - gn) (by have hv := HV.out; rw [← not_u32 gn hgn1]; congr 1; omega) (by omega)).mono ?_
            rintro e w7 ⟨rfl, hT7⟩
            have hO7 := (hO6.drew.touch hT7 (by simp))
            have hG7 := (hG6.drew.touch hT7 (by simp) (by simp))
            have hJ7 := (hJ6.touch ((Touch.refl [] w6).drew) (by simp) (by simp)).touch hT7 (by simp) (by simp)
            have hTr7 := hTr6.drew.trans (hT7.mono (by simp))
            go_wp2_with fail
            refine legs_nextS hO7.all ?_
            refine legs_onS ?_ hO7.all (fun w' hSw => ?_) ?_ ?_
            rotate_left
            · simp only [pick, nthOp]; go_wp2_with fail; refine And.intro ?_ ?_ <;> rfl
            · kernel_rfl
            simp only [pick, nthOp]
            go_wp2_with fail
            refine (half_put' _ f s _ J.other J.count 1 (by simp) (W4.ofNum (4294967295 - gn)) hG7 hAo (by rw [hAc, hgc]; exact hc) (by omega)).mono ?_
            rintro e w8 ⟨rfl, hG8, hT8⟩
            have hO8 := hO7.touch hT8 (by simp; omega)
            have hJ8 := hJ7.touch hT8 hnj (by simp)
            have hTr8 := hTr7.trans (hT8.mono (by simp))
            generalize hB0 : (G.write (256 * J.other) (W4.ofNum gn)).2.write (256 * J.other + 1) (W4.ofNum (4294967295 - gn)) = B at *
            have HB := Lib.hid hB0
            clear hB0
            go_wp2_with fail
            refine legs_nextS hO8.all ?_
            refine legs_rowS ?_ hO8.all (fun w' hSw => ?_) ?_ ?_
            rotate_left
            · simp only [pick, nthOp]; go_wp2_with fail; refine And.intro ?_ ?_ <;> rfl
            · kernel_rfl
            refine legs_endS ?_
            by_cases hBz : B.1 = 0
            · rw [hBz]
              have HZB := Lib.hid hBz
              clear hBz
              go_wp2_with fail
              have hH8 := hO8.drew.all
              have hJ0 := (hJ8.touch ((Touch.refl [] w8).drew) (by simp) (by simp))
              have hF0 := hJ0.half0
              have hq1 : (w8.drew).there j 0 3 := by have := hJ0.own.there (i := 0) (n := 3) (by rw [Jn.cells_length]; omega); rwa [Nat.zero_add] at this
              refine wp_region_by [⟨false, [0, 1, 2, 3, 5, 6, 7, 9, 10], none⟩, ⟨true, [4, 8, 11, 12], some 13⟩, ⟨false, [14, 15], some 16⟩, ⟨false, [17, 18], some 19⟩, ⟨false, [20, 21], some 22⟩] (by kernel_rfl) (by kernel_rfl) ?_
              refine by_row ?_ (fun w' => ?_) ?_ ?_
              rotate_left
              · simp only [pick, nthOp]; go_wp2_with fail; refine And.intro ?_ ?_ <;> rfl
              · kernel_rfl
              refine by_here ?_ ?_ ?_ ?_
              rotate_left
              · simp only [pick, nthOp]; go_wp2_with (first | (refine wp_load_half (f := f) (first := J.other) (count := J.count) ?_ rfl rfl rfl ?_; (with_reducible exact hH8)) | (refine wp_load_half (f := f) (first := J.first) (count := J.count) ?_ rfl rfl rfl ?_; (with_reducible exact hF0))); refine And.intro ?_ ?_ <;> rfl
              · kernel_rfl
              simp only [pick, nthOp]
              go_wp2_with (refine wp_store_half (f := f) (first := J.other) (count := J.count) ?_ rfl rfl rfl rfl ?_; (with_reducible exact hq1))
              have hl := Jn.cells_length f J
              have o1 := hJ0.own.setCells 0 [ptr f, .int .i64 J.other, .int .i64 J.count] (by rw [hl]; simp; omega)
              have o2 := o1.setCells 3 [ptr f, .int .i64 J.first, .int .i64 J.count] (by simp [hl]; omega)
              have hq2 := o1.there (i := 3) (n := 3) (by simp [hl]; omega)
              simp only [Nat.zero_add] at o1 o2 hq2
              refine by_any ?_ (fun w' => ?_) ?_ ?_
              rotate_left
              · simp only [pick, nthOp]; go_wp2_with fail; refine And.intro ?_ ?_ <;> rfl
              · kernel_rfl
              simp only [pick, nthOp]
              go_wp2_with (refine wp_store_half (f := f) (first := J.first) (count := J.count) ?_ rfl rfl rfl rfl ?_; (with_reducible exact hq2))
              have c6 := o2.get 6 (by simp [hl]; omega)
              have f6 := o2.free 6 (by simp [hl]; omega)
              have c7 := o2.get 7 (by simp [hl]; omega)
              have f7 := o2.free 7 (by simp [hl]; omega)
              simp only [Nat.zero_add] at c6 f6 c7 f7
              refine by_any ?_ (fun w' => ?_) ?_ ?_
              rotate_left
              · simp only [pick, nthOp]; go_wp2_with fail; refine And.intro ?_ ?_ <;> rfl
              · kernel_rfl
              simp only [pick, nthOp]
              go_wp2_with fail
              refine by_any ?_ (fun w' => ?_) ?_ ?_
              rotate_left
              · simp only [pick, nthOp]; go_wp2_with fail; refine And.intro ?_ ?_ <;> rfl
              · kernel_rfl
              simp only [pick, nthOp]
              go_wp2_with fail
              refine by_onward ?_
              go_wp2
              go_ret
              have hte : J.turn F = (0, B.2, { J with first := J.other, other := J.first, gen := gn, next := at_ }) := by
                unfold Jn.turn
                rw [if_neg (by simp [HZ.out])]
                simp only [HL.out, HG.out]
                rw [if_neg (by simp), if_neg (by simp [HA.out]), HB.out, if_neg (by simp [HZB.out])]
              rw [hte]
              have hJN := hJ0.turned gn at_ hgn1
              have hgv := HV.out
              have hFN := (((hG8.drew.others (c := j) (o := 0) h.apart.1 h.apart.2 [ptr f, .int .i64 J.other, .int .i64 J.count]).others (c := j) (o := 3) h.apart.1 h.apart.2 [ptr f, .int .i64 J.first, .int .i64 J.count]).other (p := ⟨j, 6, none⟩) h.apart.1 h.apart.2 (.int .u32 gn)).other (p := ⟨j, 7, none⟩) h.apart.1 h.apart.2 (.int .i64 at_)
              have hTN := (((hTr8.drew.setCells (b := j) (by simp) [ptr f, .int .i64 J.other, .int .i64 J.count] (o := 0)).setCells (b := j) (by simp) [ptr f, .int .i64 J.first, .int .i64 J.count] (o := 3)).setCell (p := ⟨j, 6, none⟩) (by simp) (.int .u32 gn)).setCell (p := ⟨j, 7, none⟩) (by simp) (.int .i64 at_)
              have e : ∀ z : Int, z = (gn : Int) → Value.int .u32 z = Value.int .u32 (gn : Int) := fun z hz => by rw [hz]
              first
                | (rw [e (((J.gen : Int) + 1) % 4294967296) (by omega)]; exact ⟨rfl, hFN, hJN, hTN⟩)
                | (rw [e 1 (by omega)]; exact ⟨rfl, hFN, hJN, hTN⟩)
            · have hne : (B.1 != 0) = true := bne_iff_ne.2 hBz
              have hte : J.turn F = (B.1, B.2, J) := by
                unfold Jn.turn
                rw [if_neg (by simp [HZ.out])]
                simp only [HL.out, HG.out]
                rw [if_neg (by simp), if_neg (by simp [HA.out]), HB.out, if_pos hBz]
              have HE := Lib.hid hte
              clear hte hBz
              go_wp2_with fail
              go_ret
              rw [HE.out]
              exact ⟨rfl, hG8, hJ8, hTr8⟩
          · have hne : ((G.write (256 * J.other) (W4.ofNum gn)).1 != 0) = true := bne_iff_ne.2 hA
            have hte : J.turn F = ((G.write (256 * J.other) (W4.ofNum gn)).1, (G.write (256 * J.other) (W4.ofNum gn)).2, J) := by
              unfold Jn.turn
              rw [if_neg (by simp [HZ.out])]
              simp only [HL.out, HG.out]
              rw [if_neg (by simp), if_pos hA]
            have HE := Lib.hid hte
            clear hte hA
            go_wp2_with fail
            go_ret
            rw [HE.out]
            exact ⟨rfl, hG6, hJ6, hTr6⟩
        · have hmI : (((J.gen : Int) + 1) % 4294967296 == 4294967295) = false := beq_eq_false_iff_ne.2 (by omega)
          have HV := Lib.hid hv
          clear hm hv
          go_wp2_with fail
          refine wp_region_legs (fun w' => w'.rangeAt w.heap.size 0 [ptr f, .int .i64 J.other, .int .i64 J.count]) [⟨[0, 1], some 2⟩, ⟨[], some 3⟩, ⟨[4], none⟩] (by kernel_rfl) (by kernel_rfl) ?_
          refine legs_onS ?_ (by simpa using hO0) (fun w' hSw => ?_) ?_ ?_
          rotate_left
          · simp only [pick, nthOp]; go_wp2_with (refine wp_load_half (f := f) (first := J.other) (count := J.count) ?_ rfl rfl rfl ?_; (with_reducible exact hSw)); refine And.intro ?_ ?_ <;> rfl
          · kernel_rfl
          simp only [pick, nthOp]
          go_wp2_with fail
          refine (wordOf_any' _ gn (by have := HV.out; omega) hgn1).mono ?_
          rintro e w5 ⟨rfl, hT5⟩
          have hO5 := (hOr.drew.touch hT5 (by simp))
          have hG5 := (hG.drew.touch hT5 (by simp) (by simp))
          have hJ5 := (hJr.touch ((Touch.refl [] wr).drew) (by simp) (by simp)).touch hT5 (by simp) (by simp)
          have hTr5 := hTr.drew.trans (hT5.mono (by simp))
          go_wp2_with fail
          refine legs_nextS hO5.all ?_
          refine legs_onS ?_ hO5.all (fun w' hSw => ?_) ?_ ?_
          rotate_left
          · simp only [pick, nthOp]; go_wp2_with fail; refine And.intro ?_ ?_ <;> rfl
          · kernel_rfl
          simp only [pick, nthOp]
          go_wp2_with fail
          refine (half_put' _ f s G J.other J.count 0 (by simp) (W4.ofNum gn) hG5 hgo (by rw [hgc]; exact hc) (by omega)).mono ?_
          rintro e w6 ⟨rfl, hG6, hT6⟩
          have hnj : j ∉ [f, s] := by simp [h.apart.1, h.apart.2]
          have hO6 := hO5.touch hT6 (by simp; omega)
          have hJ6 := hJ5.touch hT6 hnj (by simp)
          have hTr6 := hTr5.trans (hT6.mono (by simp))
          rw [Nat.add_zero] at hG6 ⊢
          have hAc := Fl.write_count G (256 * J.other) (W4.ofNum gn)
          go_wp2_with fail
          refine legs_nextS hO6.all ?_
          refine legs_rowS ?_ hO6.all (fun w' hSw => ?_) ?_ ?_
          rotate_left
          · simp only [pick, nthOp]; go_wp2_with fail; refine And.intro ?_ ?_ <;> rfl
          · kernel_rfl
          refine legs_endS ?_
          by_cases hA : (G.write (256 * J.other) (W4.ofNum gn)).1 = 0
          · have hAo := Fl.write_off hgo (k := 256 * J.other) (y := W4.ofNum gn) (by rw [hA]; decide)
            rw [hA]
            have HA := Lib.hid hA
            clear hA
            go_wp2_with fail
            refine wp_region_legs (fun w' => w'.rangeAt w.heap.size 0 [ptr f, .int .i64 J.other, .int .i64 J.count]) [⟨[0, 1, 2], some 3⟩, ⟨[], some 4⟩, ⟨[5], none⟩] (by kernel_rfl) (by kernel_rfl) ?_
            refine legs_onS ?_ (by simpa using hO6.all) (fun w' hSw => ?_) ?_ ?_
            rotate_left
            · simp only [pick, nthOp]; go_wp2_with (refine wp_load_half (f := f) (first := J.other) (count := J.count) ?_ rfl rfl rfl ?_; (with_reducible exact hSw)); refine And.intro ?_ ?_ <;> rfl
            · kernel_rfl
            simp only [pick, nthOp]
            go_wp2_with fail
            refine (wordOf_any' _ (4294967295 - gn) (by have hv := HV.out; rw [← not_u32 gn hgn1]; congr 1; omega) (by omega)).mono ?_
            rintro e w7 ⟨rfl, hT7⟩
            have hO7 := (hO6.drew.touch hT7 (by simp))
            have hG7 := (hG6.drew.touch hT7 (by simp) (by simp))
            have hJ7 := (hJ6.touch ((Touch.refl [] w6).drew) (by simp) (by simp)).touch hT7 (by simp) (by simp)
            have hTr7 := hTr6.drew.trans (hT7.mono (by simp))
            go_wp2_with fail
            refine legs_nextS hO7.all ?_
            refine legs_onS ?_ hO7.all (fun w' hSw => ?_) ?_ ?_
            rotate_left
            · simp only [pick, nthOp]; go_wp2_with fail; refine And.intro ?_ ?_ <;> rfl
            · kernel_rfl
            simp only [pick, nthOp]
            go_wp2_with fail
            refine (half_put' _ f s _ J.other J.count 1 (by simp) (W4.ofNum (4294967295 - gn)) hG7 hAo (by rw [hAc, hgc]; exact hc) (by omega)).mono ?_
            rintro e w8 ⟨rfl, hG8, hT8⟩
            have hO8 := hO7.touch hT8 (by simp; omega)
            have hJ8 := hJ7.touch hT8 hnj (by simp)
            have hTr8 := hTr7.trans (hT8.mono (by simp))
            generalize hB0 : (G.write (256 * J.other) (W4.ofNum gn)).2.write (256 * J.other + 1) (W4.ofNum (4294967295 - gn)) = B at *
            have HB := Lib.hid hB0
            clear hB0
            go_wp2_with fail
            refine legs_nextS hO8.all ?_
            refine legs_rowS ?_ hO8.all (fun w' hSw => ?_) ?_ ?_
            rotate_left
            · simp only [pick, nthOp]; go_wp2_with fail; refine And.intro ?_ ?_ <;> rfl
            · kernel_rfl
            refine legs_endS ?_
            by_cases hBz : B.1 = 0
            · rw [hBz]
              have HZB := Lib.hid hBz
              clear hBz
              go_wp2_with fail
              have hH8 := hO8.drew.all
              have hJ0 := (hJ8.touch ((Touch.refl [] w8).drew) (by simp) (by simp))
              have hF0 := hJ0.half0
              have hq1 : (w8.drew).there j 0 3 := by have := hJ0.own.there (i := 0) (n := 3) (by rw [Jn.cells_length]; omega); rwa [Nat.zero_add] at this
              refine wp_region_by [⟨false, [0, 1, 2, 3, 5, 6, 7, 9, 10], none⟩, ⟨true, [4, 8, 11, 12], some 13⟩, ⟨false, [14, 15], some 16⟩, ⟨false, [17, 18], some 19⟩, ⟨false, [20, 21], some 22⟩] (by kernel_rfl) (by kernel_rfl) ?_
              refine by_row ?_ (fun w' => ?_) ?_ ?_
              rotate_left
              · simp only [pick, nthOp]; go_wp2_with fail; refine And.intro ?_ ?_ <;> rfl
              · kernel_rfl
              refine by_here ?_ ?_ ?_ ?_
              rotate_left
              · simp only [pick, nthOp]; go_wp2_with (first | (refine wp_load_half (f := f) (first := J.other) (count := J.count) ?_ rfl rfl rfl ?_; (with_reducible exact hH8)) | (refine wp_load_half (f := f) (first := J.first) (count := J.count) ?_ rfl rfl rfl ?_; (with_reducible exact hF0))); refine And.intro ?_ ?_ <;> rfl
              · kernel_rfl
              simp only [pick, nthOp]
              go_wp2_with (refine wp_store_half (f := f) (first := J.other) (count := J.count) ?_ rfl rfl rfl rfl ?_; (with_reducible exact hq1))
              have hl := Jn.cells_length f J
              have o1 := hJ0.own.setCells 0 [ptr f, .int .i64 J.other, .int .i64 J.count] (by rw [hl]; simp; omega)
              have o2 := o1.setCells 3 [ptr f, .int .i64 J.first, .int .i64 J.count] (by simp [hl]; omega)
              have hq2 := o1.there (i := 3) (n := 3) (by simp [hl]; omega)
              simp only [Nat.zero_add] at o1 o2 hq2
              refine by_any ?_ (fun w' => ?_) ?_ ?_
              rotate_left
              · simp only [pick, nthOp]; go_wp2_with fail; refine And.intro ?_ ?_ <;> rfl
              · kernel_rfl
              simp only [pick, nthOp]
              go_wp2_with (refine wp_store_half (f := f) (first := J.first) (count := J.count) ?_ rfl rfl rfl rfl ?_; (with_reducible exact hq2))
              have c6 := o2.get 6 (by simp [hl]; omega)
              have f6 := o2.free 6 (by simp [hl]; omega)
              have c7 := o2.get 7 (by simp [hl]; omega)
              have f7 := o2.free 7 (by simp [hl]; omega)
              simp only [Nat.zero_add] at c6 f6 c7 f7
              refine by_any ?_ (fun w' => ?_) ?_ ?_
              rotate_left
              · simp only [pick, nthOp]; go_wp2_with fail; refine And.intro ?_ ?_ <;> rfl
              · kernel_rfl
              simp only [pick, nthOp]
              go_wp2_with fail
              refine by_any ?_ (fun w' => ?_) ?_ ?_
              rotate_left
              · simp only [pick, nthOp]; go_wp2_with fail; refine And.intro ?_ ?_ <;> rfl
              · kernel_rfl
              simp only [pick, nthOp]
              go_wp2_with fail
              refine by_onward ?_
              go_wp2
              go_ret
              have hte : J.turn F = (0, B.2, { J with first := J.other, other := J.first, gen := gn, next := at_ }) := by
                unfold Jn.turn
                rw [if_neg (by simp [HZ.out])]
                simp only [HL.out, HG.out]
                rw [if_neg (by simp), if_neg (by simp [HA.out]), HB.out, if_neg (by simp [HZB.out])]
              rw [hte]
              have hJN := hJ0.turned gn at_ hgn1
              have hgv := HV.out
              have hFN := (((hG8.drew.others (c := j) (o := 0) h.apart.1 h.apart.2 [ptr f, .int .i64 J.other, .int .i64 J.count]).others (c := j) (o := 3) h.apart.1 h.apart.2 [ptr f, .int .i64 J.first, .int .i64 J.count]).other (p := ⟨j, 6, none⟩) h.apart.1 h.apart.2 (.int .u32 gn)).other (p := ⟨j, 7, none⟩) h.apart.1 h.apart.2 (.int .i64 at_)
              have hTN := (((hTr8.drew.setCells (b := j) (by simp) [ptr f, .int .i64 J.other, .int .i64 J.count] (o := 0)).setCells (b := j) (by simp) [ptr f, .int .i64 J.first, .int .i64 J.count] (o := 3)).setCell (p := ⟨j, 6, none⟩) (by simp) (.int .u32 gn)).setCell (p := ⟨j, 7, none⟩) (by simp) (.int .i64 at_)
              have e : ∀ z : Int, z = (gn : Int) → Value.int .u32 z = Value.int .u32 (gn : Int) := fun z hz => by rw [hz]
              first
                | (rw [e (((J.gen : Int) + 1) % 4294967296) (by omega)]; exact ⟨rfl, hFN, hJN, hTN⟩)
                | (rw [e 1 (by omega)]; exact ⟨rfl, hFN, hJN, hTN⟩)
            · have hne : (B.1 != 0) = true := bne_iff_ne.2 hBz
              have hte : J.turn F = (B.1, B.2, J) := by
                unfold Jn.turn
                rw [if_neg (by simp [HZ.out])]
                simp only [HL.out, HG.out]
                rw [if_neg (by simp), if_neg (by simp [HA.out]), HB.out, if_pos hBz]
              have HE := Lib.hid hte
              clear hte hBz
              go_wp2_with fail
              go_ret
              rw [HE.out]
              exact ⟨rfl, hG8, hJ8, hTr8⟩
          · have hne : ((G.write (256 * J.other) (W4.ofNum gn)).1 != 0) = true := bne_iff_ne.2 hA
            have hte : J.turn F = ((G.write (256 * J.other) (W4.ofNum gn)).1, (G.write (256 * J.other) (W4.ofNum gn)).2, J) := by
              unfold Jn.turn
              rw [if_neg (by simp [HZ.out])]
              simp only [HL.out, HG.out]
              rw [if_neg (by simp), if_pos hA]
            have HE := Lib.hid hte
            clear hte hA
            go_wp2_with fail
            go_ret
            rw [HE.out]
            exact ⟨rfl, hG6, hJ6, hTr6⟩
  · have hne : ((F.eraseAll J.other J.count).1 != 0) = true := bne_iff_ne.2 hz
    have hte : J.turn F = ((F.eraseAll J.other J.count).1, (F.eraseAll J.other J.count).2, J) := by unfold Jn.turn; rw [if_pos hz]
    have HE := Lib.hid hte
    clear hte hz
    go_wp2_with fail
    go_ret
    rw [HE.out]
    exact ⟨rfl, hF2, hJ2, hTT⟩
end Go.Proofs.YtdfgcenbkclpbaaDoor
