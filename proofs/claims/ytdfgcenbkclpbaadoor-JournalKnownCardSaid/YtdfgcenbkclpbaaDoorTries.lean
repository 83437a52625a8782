/- A call is made of a journal; of a copy of the document's. -/
import Derived.Test.YtdfgcenbkclpbaaDoorGame
namespace Go.Proofs.YtdfgcenbkclpbaaDoor
open Go.RowKit
set_option linter.unusedSimpArgs false
set_option linter.unusedVariables false
/-- what the document answers to a call -/
def callP (P : List PSlot) (h : Nat) (x : OpP) : Int × List PSlot := if x.kind % 6 = 3 then refRestore P x.group else refStore P h x.group x.data
set_option maxRecDepth 100000 in
set_option maxHeartbeats 3200000 in
theorem does_any (w : World) (j f s : Nat) (J : Jn) (F : Fl) (A h : Nat) (x : OpP) (hJ : JnAt w j f s J) (hF : FlashAt w f s F) (hc : J.cut = false) (ho : F.off = false) (hk : Keeps F A h J) (hx : OpOk w x) (hb : x.b.length ≤ 20000) :
    Calls Tryd.prog 18 #[ptr j, x.val] w (Answer w j f s F A h J (callP (J.slots.map Slot.p) h x)) := by
  obtain ⟨kd, gr, b, ba, bc, mo⟩ := x
  have hkd := hx.kind
  have hgr := hx.group
  have hmo := hx.more
  simp only at hkd hgr hmo hb
  have tX := Touch.one w (.cells #[Value.int .u8 kd, .int .u8 gr, .slice ba b.length bc, .int .u16 mo] 45)
  have oX := OwnAt.new w #[Value.int .u8 kd, .int .u8 gr, .slice ba b.length bc, .int .u16 mo] 45
  have hJX := hJ.to tX
  have hFX := hF.to tX
  have hxX := hx.to tX
  have q0 := oX.get 0 (by simp)
  have q1 := oX.get 1 (by simp)
  have hfin : ∀ (w1 : World) (r : Int × List PSlot) (e : Ending) (w' : World), Touch [] w w1 → Answer w1 j f s F A h J r e w' → Answer w j f s F A h J r e w' := fun w1 r e w' t ⟨code, G, K, h1, h2, h3, h4, hF, h5⟩ => ⟨code, G, K, h1, h2, h3, (t.mono (by simp)).trans h4, hF.to t.size, h5⟩
  by_cases k3 : kd % 6 = 3
  · have e3 : ((kd : Int) % 6 == 3) = true := beq_iff_eq.2 (by omega)
    have hcp : callP (J.slots.map Slot.p) h ⟨kd, gr, b, ba, bc, mo⟩ = refRestore (J.slots.map Slot.p) gr := if_pos k3
    rw [hcp]
    clear k3 hcp
    go_enter Tryd.func18, Tryd.ntmps18
    go_wp2_with fail
    refine (restore_does _ j f s J F A h gr hJX hFX hgr hc ho hk).mono ?_
    rintro e w2 ⟨code, G, K, rfl, h2, h3, h4, h6, h5⟩
    go_wp2_with fail
    go_ret
    exact hfin _ _ _ _ tX ⟨code, G, K, rfl, h2, h3, h4, h6, h5⟩
  · have e3 : ((kd : Int) % 6 == 3) = false := beq_eq_false_iff_ne.2 (by omega)
    have hcp : callP (J.slots.map Slot.p) h ⟨kd, gr, b, ba, bc, mo⟩ = refStore (J.slots.map Slot.p) h gr (OpP.data ⟨kd, gr, b, ba, bc, mo⟩) := if_neg k3
    rw [hcp]
    obtain ⟨D, hD⟩ : ∃ D, OpP.data ⟨kd, gr, b, ba, bc, mo⟩ = D := ⟨_, rfl⟩
    have hDl : D.length ≤ 25000 := by rw [← hD, OpP.data_len]; simp only; omega
    have hbt := fun (W : World) (hW : OpOk W ⟨kd, gr, b, ba, bc, mo⟩) => bytes_any W ⟨kd, gr, b, ba, bc, mo⟩ hW (by simp only; omega)
    rw [hD] at hbt ⊢
    have HBT := Lib.hid hbt
    have hDI : (D.length : Int) ≤ 25000 := by omega
    clear hD hbt k3 hcp
    have tD := tX.trans (Touch.dr _)
    have oD := oX.drew
    have hxD := hx.to tD
    have hJD := hJ.to tD
    have hFD := hF.to tD
    go_enter Tryd.func18, Tryd.ntmps18
    go_wp2_with fail
    refine wp_region_legs (fun w' => OwnAt w' w.heap.size 0 [Value.int .u8 kd, .int .u8 gr, .slice ba b.length bc, .int .u16 mo]) [⟨[0, 1, 2, 3], some 4⟩, ⟨[], some 5⟩, ⟨[6], none⟩] (by kernel_rfl) (by kernel_rfl) ?_
    refine legs_onS ?_ oD (fun w' hSw => ?_) ?_ ?_
    rotate_left
    · have y0 := hSw.get 0 (by simp)
      have y1 := hSw.get 1 (by simp)
      have y2 := hSw.get 2 (by simp)
      have y3 := hSw.get 3 (by simp)
      simp only [pick, nthOp]; go_wp2_with fail; refine And.intro ?_ ?_ <;> rfl
    · kernel_rfl
    simp only [pick, nthOp]
    go_wp2_with fail
    refine (HBT.out _ hxD).mono ?_
    rintro e w2 ⟨v, rfl, hv, t2⟩
    obtain ⟨A2, c2, rfl, hs2, _, hn2, hb2⟩ := ownsRow_slice' hv
    have o2 := oD.to t2
    have T2 := tD.to t2
    clear hv
    go_wp2_with fail
    refine legs_nextS o2 ?_
    refine legs_onS ?_ o2 (fun w' hSw => ?_) ?_ ?_
    rotate_left
    · simp only [pick, nthOp]; go_wp2_with fail; refine And.intro ?_ ?_ <;> rfl
    · kernel_rfl
    simp only [pick, nthOp]
    go_wp2_with fail
    refine (store_does _ j f s J F A h gr D A2 c2 (hJD.to t2) (hFD.to t2) hgr hc ho (by omega) hs2 hn2 hk).mono ?_
    rintro e w3 ⟨code, G, K, rfl, h2, h3, h4, h6, h5⟩
    have hjl := hJ.lt
    have hfl := hF.flt
    have hsl := hF.slt
    have o3 := o2.to h4 (by simp; omega)
    go_wp2_with fail
    refine legs_nextS o3 ?_
    refine legs_rowS ?_ o3 (fun w' hSw => ?_) ?_ ?_
    rotate_left
    · simp only [pick, nthOp]; go_wp2_with fail; refine And.intro ?_ ?_ <;> rfl
    · kernel_rfl
    refine legs_endS ?_
    go_wp2_with fail
    go_ret
    exact hfin _ _ _ _ T2 ⟨code, G, K, rfl, h2, h3, h4, h6, h5⟩
set_option maxRecDepth 100000 in
set_option maxHeartbeats 3200000 in
theorem would_any (w : World) (m g count : Nat) (M : List PSlot) (x : OpP) (hM : RefAt w m g M count) (hx : OpOk w x) (hb : x.b.length ≤ 20000) :
    Calls Tryd.prog 17 #[ptr m, x.val] w fun e w' => ∃ m' g', e = .returned (.tuple #[ptr m', .int .i64 (callP M (count / 2) x).1]) ∧ w.heap.size ≤ m' ∧ w.heap.size ≤ g' ∧ RefAt w' m' g' (callP M (count / 2) x).2 count ∧ Touch [] w w' := by
  obtain ⟨kd, gr, b, ba, bc, mo⟩ := x
  have hkd := hx.kind
  have hgr := hx.group
  have hmo := hx.more
  simp only at hkd hgr hmo hb
  have tX := Touch.one w (.cells #[Value.int .u8 kd, .int .u8 gr, .slice ba b.length bc, .int .u16 mo] 45)
  have oX := OwnAt.new w #[Value.int .u8 kd, .int .u8 gr, .slice ba b.length bc, .int .u16 mo] 45
  have hMX := hM.to tX
  by_cases k3 : kd % 6 = 3
  · have e3 : ((kd : Int) % 6 == 3) = true := beq_iff_eq.2 (by omega)
    have hcp : callP M (count / 2) ⟨kd, gr, b, ba, bc, mo⟩ = refRestore M gr := if_pos k3
    rw [hcp]
    clear k3 hcp
    go_enter Tryd.func17, Tryd.ntmps17
    go_wp2_with fail
    refine (ref_copy _ m g count M hMX).mono ?_
    rintro e w2 ⟨m2, g2, rfl, hm2, hg2, hR2, t2⟩
    have o2 := oX.to t2
    have T2 := tX.to t2
    have hz := tX.size
    have q0 := o2.get 0 (by simp)
    have q1 := o2.get 1 (by simp)
    go_wp2_with fail
    refine (ref_restore _ m2 g2 count gr M hR2 hgr).mono ?_
    rintro e w3 ⟨rfl, hR3, t3⟩
    go_wp2_with fail
    go_ret2
    exact ⟨m2, g2, rfl, by omega, by omega, hR3, T2.to t3⟩
  · have e3 : ((kd : Int) % 6 == 3) = false := beq_eq_false_iff_ne.2 (by omega)
    have hcp : callP M (count / 2) ⟨kd, gr, b, ba, bc, mo⟩ = refStore M (count / 2) gr (OpP.data ⟨kd, gr, b, ba, bc, mo⟩) := if_neg k3
    rw [hcp]
    obtain ⟨D, hD⟩ : ∃ D, OpP.data ⟨kd, gr, b, ba, bc, mo⟩ = D := ⟨_, rfl⟩
    have hDl : D.length ≤ 25000 := by rw [← hD, OpP.data_len]; simp only; omega
    have hbt := fun (W : World) (hW : OpOk W ⟨kd, gr, b, ba, bc, mo⟩) => bytes_any W ⟨kd, gr, b, ba, bc, mo⟩ hW (by simp only; omega)
    rw [hD] at hbt ⊢
    have HBT := Lib.hid hbt
    have hDI : (D.length : Int) ≤ 25000 := by omega
    clear hD hbt k3 hcp
    go_enter Tryd.func17, Tryd.ntmps17
    go_wp2_with fail
    refine (ref_copy _ m g count M hMX).mono ?_
    rintro e w2 ⟨m2, g2, rfl, hm2, hg2, hR2, t2⟩
    have o2 := oX.to t2
    have T2 := tX.to t2
    have hz := tX.size
    have hz2 := t2.size
    have q0 := o2.get 0 (by simp)
    have td := Touch.dr w2
    have oD := o2.to td
    have RD := hR2.to td
    have TD := T2.to td
    have hxD := hx.to TD
    have hlx : w.heap.size < (w.alloc (.cells #[Value.int .u8 kd, .int .u8 gr, .slice ba b.length bc, .int .u16 mo] 45)).heap.size := by simp
    go_wp2_with fail
    refine wp_region_legs (fun w' => OwnAt w' w.heap.size 0 [Value.int .u8 kd, .int .u8 gr, .slice ba b.length bc, .int .u16 mo]) [⟨[0, 1, 2, 3, 4], some 5⟩, ⟨[], some 6⟩, ⟨[7, 8], none⟩] (by kernel_rfl) (by kernel_rfl) ?_
    refine legs_onS ?_ oD (fun w' hSw => ?_) ?_ ?_
    rotate_left
    · have y0 := hSw.get 0 (by simp)
      have y1 := hSw.get 1 (by simp)
      have y2 := hSw.get 2 (by simp)
      have y3 := hSw.get 3 (by simp)
      simp only [pick, nthOp]; go_wp2_with fail; refine And.intro ?_ ?_ <;> rfl
    · kernel_rfl
    simp only [pick, nthOp]
    go_wp2_with fail
    refine (HBT.out _ hxD).mono ?_
    rintro e w3 ⟨v, rfl, hv, t3⟩
    obtain ⟨A3, c3, rfl, hs3, _, hn3, hb3⟩ := ownsRow_slice' hv
    have o3 := oD.to t3
    have R3 := RD.to t3
    have T3 := TD.to t3
    have hgl := RD.glt
    clear hv
    go_wp2_with fail
    refine legs_nextS o3 ?_
    refine legs_onS ?_ o3 (fun w' hSw => ?_) ?_ ?_
    rotate_left
    · simp only [pick, nthOp]; go_wp2_with fail; refine And.intro ?_ ?_ <;> rfl
    · kernel_rfl
    simp only [pick, nthOp]
    go_wp2_with fail
    refine (ref_store _ m2 g2 count gr M D A3 c3 R3 hgr (by omega) hs3 (fun y hy => by have := hb3 y hy; omega)).mono ?_
    rintro e w4 ⟨rfl, hR4, t4⟩
    have o4 := o3.to t4 (by simp; omega)
    go_wp2_with fail
    refine legs_nextS o4 ?_
    refine legs_rowS ?_ o4 (fun w' hSw => ?_) ?_ ?_
    rotate_left
    · simp only [pick, nthOp]; go_wp2_with fail; refine And.intro ?_ ?_ <;> rfl
    · kernel_rfl
    refine legs_endS ?_
    go_wp2_with fail
    go_ret2
    exact ⟨m2, g2, rfl, by omega, by omega, hR4, T3.to t4⟩
end Go.Proofs.YtdfgcenbkclpbaaDoor
namespace Go.Proofs.YtdfgcenbkclpbaaDoor
open Go.RowKit
set_option linter.unusedSimpArgs false
set_option linter.unusedVariables false
theorem open1_cases (x : PSlot) : (∃ b, x.open1 = ⟨true, false, b⟩) ∨ x.open1 = ⟨false, false, []⟩ := by
  obtain ⟨t, m, b⟩ := x
  unfold PSlot.open1
  cases t <;> cases m <;> simp
theorem agree_opened {P M : List PSlot} (hP : P.length = 16) (hM : M.length = 16) (h : agreeP (opened P) (opened M)) : opened P = opened M := by
  apply List.ext_getElem?
  intro i
  by_cases hi : i < 16
  · obtain ⟨x, hx⟩ : ∃ x, P[i]? = some x := ⟨_, List.getElem?_eq_getElem (by omega)⟩
    obtain ⟨y, hy⟩ : ∃ y, M[i]? = some y := ⟨_, List.getElem?_eq_getElem (by omega)⟩
    have e := h i hi
    unfold loadP at e
    unfold opened at e ⊢
    rw [List.getElem?_map, List.getElem?_map, hx, hy] at e ⊢
    simp only [Option.map_some] at e ⊢
    rcases open1_cases x with ⟨b, e1⟩ | e1 <;> rcases open1_cases y with ⟨c, e2⟩ | e2 <;> rw [e1, e2] at e ⊢ <;> simp at e ⊢
    exact e
  · rw [List.getElem?_eq_none (by rw [opened_length]; omega), List.getElem?_eq_none (by rw [opened_length]; omega)]
end Go.Proofs.YtdfgcenbkclpbaaDoor
namespace Go.Proofs.YtdfgcenbkclpbaaDoor
open Go.RowKit
set_option linter.unusedSimpArgs false
set_option linter.unusedVariables false
theorem Jn.cut_same {J : Jn} (h : J.cut = true) : { J with cut := true } = J := by
  obtain ⟨a, b, c, d, e, f, g⟩ := J
  simp only at h
  subst h; rfl
set_option maxRecDepth 100000 in
theorem store_cut (w : World) (j f s : Nat) (J : Jn) (F : Fl) (hJ : JnAt w j f s J) (hF : FlashAt w f s F) (hc : J.cut = true) :
    Calls Tryd.prog 13 #[ptr j, .int .u8 0, .slice none 0 0] w fun e w' => e = .returned (.int .i64 7) ∧ JnAt w' j f s J ∧ FlashAt w' f s F ∧ Touch [j] w w' := by
  go_enter Tryd.func13, Tryd.ntmps13
  go_wp2_with fail
  refine (clone_any _ none 0 [] (by simp) (.nil _ _) (by simp)).mono ?_
  rintro e w1 ⟨v, rfl, hv, t1⟩
  obtain ⟨a, cap, rfl, hs, hcap, hn, hbl⟩ := ownsRow_slice' hv
  have hJ1 := hJ.to t1
  have hF1 := hF.to t1
  go_wp2_with fail
  refine (set_cut _ j f s J F 0 ⟨true, false, [], a, cap⟩ hJ1 hF1 (by omega) hc).mono ?_
  rintro e w2 ⟨rfl, h2, t2⟩
  rw [Jn.cut_same hc] at h2
  have hj : f ≠ j ∧ s ≠ j := ⟨fun e => hJ.apart.1 e.symm, fun e => hJ.apart.2 e.symm⟩
  go_wp2_with fail
  go_ret
  exact ⟨rfl, h2, hF1.to t2 (by simp; exact hj), (t1.mono (by simp)).trans t2⟩
set_option maxRecDepth 100000 in
theorem restore_cut (w : World) (j f s : Nat) (J : Jn) (F : Fl) (hJ : JnAt w j f s J) (hF : FlashAt w f s F) (hc : J.cut = true) :
    Calls Tryd.prog 22 #[ptr j, .int .u8 0] w fun e w' => e = .returned (.int .i64 7) ∧ JnAt w' j f s J ∧ FlashAt w' f s F ∧ Touch [j] w w' := by
  have hN := hJ.setCut
  rw [Jn.cut_same hc] at hN
  have hT := Touch.cell1 w j 56 (.bool true)
  have c1 := hJ.cutCell.1
  have c2 := hJ.cutCell.2
  rw [hc] at c1
  have hj : f ≠ j ∧ s ≠ j := ⟨fun e => hJ.apart.1 e.symm, fun e => hJ.apart.2 e.symm⟩
  go_enter Tryd.func22, Tryd.ntmps22
  go_wp2_with fail
  go_ret
  exact ⟨rfl, hN, hF.to hT (by simp; exact hj), hT⟩
theorem Fl.word_mem {F G : Fl} (h : G.mem = F.mem) (k : Nat) : G.word k = F.word k := by unfold Fl.word; rw [h]
theorem Holds.mem {F G : Fl} {A h X Y g n : Nat} {P : List PSlot} (H : Holds F A h X Y g n P) (h1 : G.mem = F.mem) (h2 : G.count = F.count) : Holds G A h X Y g n P := H.away (by rw [h1]) h2 (fun i _ _ => Fl.word_mem h1 i)
theorem Keeps.mem {F G : Fl} {A h : Nat} {J : Jn} (K : Keeps F A h J) (h1 : G.mem = F.mem) (h2 : G.count = F.count) : Keeps G A h J := ⟨K.holds.mem h1 h2, K.count, K.sixteen, K.small, K.room⟩
theorem Apart.mem {F G : Fl} {count : Nat} (a : Apart F count) (h1 : G.mem = F.mem) (h2 : G.count = F.count) : Apart G count :=
  ⟨h2.trans a.cnt, by rw [h1, h2]; exact a.size, fun k hk => (Fl.word_mem h1 k).trans (a.w0 k hk), fun k hk => (Fl.word_mem h1 _).trans (a.w1 k hk)⟩
theorem pick_mem {F G : Fl} {A h : Nat} (h1 : G.mem = F.mem) : G.pickHalf A h = F.pickHalf A h := by
  unfold Fl.pickHalf; rw [Fl.word_mem h1, Fl.word_mem h1, Fl.word_mem h1, Fl.word_mem h1]
theorem Play.arm {w w' : World} {f s j m g count : Nat} {J : Jn} {F G : Fl} (h : Play w f s j m g count J F) (hG : FlashAt w' f s G) (h1 : G.mem = F.mem) (h2 : G.count = F.count) (ho : G.off = false) (ht : Touch [f] w w') : Play w' f s j m g count J G := by
  obtain ⟨d1, d2, d3, d4, d5, d6⟩ := h.diff
  exact ⟨h.jn.to ht (by simpa using h.jn.apart.1), hG, h.ref.to ht (by simp; omega), h.keeps.mem h1 h2, h.cut, ho, h.apart.mem h1 h2, h.diff⟩
end Go.Proofs.YtdfgcenbkclpbaaDoor
