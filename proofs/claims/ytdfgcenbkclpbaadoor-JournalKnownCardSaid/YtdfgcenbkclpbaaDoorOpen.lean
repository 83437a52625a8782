/- Open, walked. -/
import Derived.Test.YtdfgcenbkclpbaaDoorRead
namespace Go.Proofs.YtdfgcenbkclpbaaDoor
open Go.RowKit
set_option linter.unusedSimpArgs false
set_option linter.unusedVariables false
/-- is the generation n behind m? -/
def newer (m n : Nat) : Bool := decide (0 < (n + 4294967296 - m) % 4294967296 ∧ (n + 4294967296 - m) % 4294967296 < 2147483648)
/-- the half that counts, the other one, its generation; is it whole? -/
def Fl.pickHalf (F : Fl) (first h : Nat) : Nat × Nat × Nat × Bool :=
  if !(genOk (F.word (256 * first)) (F.word (256 * first + 1))) || (genOk (F.word (256 * (first + h))) (F.word (256 * (first + h) + 1)) && newer (F.word (256 * first)).num (F.word (256 * (first + h))).num)
  then (first + h, first, (F.word (256 * (first + h))).num, genOk (F.word (256 * (first + h))) (F.word (256 * (first + h) + 1)))
  else (first, first + h, (F.word (256 * first)).num, genOk (F.word (256 * first)) (F.word (256 * first + 1)))
def blankSlot : Slot := ⟨false, false, [], none, 0⟩
def Jn.fresh (a b h g : Nat) : Jn := { first := a, other := b, count := h, gen := g, next := 2, slots := List.replicate 16 blankSlot, cut := false }
def blanks : List PSlot := List.replicate 16 ⟨false, false, []⟩
def OpenRead (w : World) (f s : Nat) (F : Fl) (a b h g : Nat) (e : Ending) (w' : World) : Prop :=
  ∃ K j, e = .returned (.tuple #[ptr j, .int .i64 0]) ∧ w.heap.size ≤ j ∧ JnAt w' j f s K ∧ K.Same (Jn.fresh a b h g) ∧ (K.next, K.slots.map Slot.p) = F.readAll a h blanks ∧ FlashAt w' f s F ∧ Touch [] w w'
def OpenTurn (w : World) (f s : Nat) (F : Fl) (a b h : Nat) (e : Ending) (w' : World) : Prop :=
  (((Jn.fresh a b h 0).turn F).1 = 0 ∧ ∃ j, e = .returned (.tuple #[ptr j, .int .i64 0]) ∧ w.heap.size ≤ j ∧ JnAt w' j f s ((Jn.fresh a b h 0).turn F).2.2 ∧ FlashAt w' f s ((Jn.fresh a b h 0).turn F).2.1 ∧ Touch [f, s] w w') ∨
  (((Jn.fresh a b h 0).turn F).1 ≠ 0 ∧ e = .returned (.tuple #[.pointer none, .int .i64 ((Jn.fresh a b h 0).turn F).1]) ∧ FlashAt w' f s ((Jn.fresh a b h 0).turn F).2.1 ∧ Touch [f, s] w w')
/-- what Open comes to -/
def OpenDone (w : World) (f s : Nat) (F : Fl) (first h : Nat) (e : Ending) (w' : World) : Prop :=
  ((F.pickHalf first h).2.2.2 = true ∧ OpenRead w f s F (F.pickHalf first h).1 (F.pickHalf first h).2.1 h (F.pickHalf first h).2.2.1 e w') ∨
  ((F.pickHalf first h).2.2.2 = false ∧ OpenTurn w f s F (F.pickHalf first h).2.1 (F.pickHalf first h).1 h e w')
theorem JnAt.swapped {w : World} {j f s : Nat} {J : Jn} (h : JnAt w j f s J) (gv : Nat) (hg : gv < 4294967296) :
    JnAt (((w.setCells j 0 [ptr f, .int .i64 J.other, .int .i64 J.count]).setCells j 3 [ptr f, .int .i64 J.first, .int .i64 J.count]).setCell ⟨j, 6, none⟩ (.int .u32 gv)) j f s { J with first := J.other, other := J.first, gen := gv } := by
  have hl := Jn.cells_length f J
  have o1 := h.own.setCells 0 [ptr f, .int .i64 J.other, .int .i64 J.count] (by rw [hl]; simp; omega)
  have o2 := o1.setCells 3 [ptr f, .int .i64 J.first, .int .i64 J.count] (by simp [hl]; omega)
  have o3 := o2.set0 6 (.int .u32 gv) (by simp [hl]; omega)
  refine ⟨?_, h.sixteen, h.apart, h.few, hg, fun x hx => ⟨?_, (h.slots x hx).2⟩⟩
  · simpa [Jn.cells] using o3
  · refine (h.slots x hx).1.touch (S := [j]) ((((Touch.refl [j] w).setCells (by simp) _).setCells (by simp) _ |>.setCell (by simp) _)) (fun y hy => by simpa using ((h.slots x hx).2.2.2 y hy).1)
theorem liveWords_blank : liveWords (List.replicate 16 blankSlot) = 0 := by decide
theorem fresh_at (w : World) (f s : Nat) (a b h g : Nat) (hf : f < w.heap.size) (hs : s < w.heap.size) (hh : h ≤ 32) (hg : g < 4294967296) (t : TypeId) :
    JnAt (w.alloc (.cells ((Jn.fresh a b h g).cells f).toArray t)) w.heap.size f s (Jn.fresh a b h g) := by
  refine ⟨?_, rfl, ⟨by omega, by omega⟩, hh, hg, fun x hx => ?_⟩
  · have := OwnAt.new w ((Jn.fresh a b h g).cells f).toArray t
    simpa using this
  · have : x = blankSlot := List.eq_of_mem_replicate hx
    subst this
    exact ⟨.nil _ _, by simp [blankSlot], by simp [blankSlot], by simp [blankSlot]⟩
theorem blanks_p : (List.replicate 16 blankSlot).map Slot.p = blanks := rfl
theorem half_gen (w : World) (f s : Nat) (F : Fl) (first count : Nat) (h : FlashAt w f s F) (ho : F.off = false) (hc : first + count ≤ F.count) (hp : 0 < count) :
    Calls Tryd.prog 38 #[halfV f first count] w fun e w' => e = .returned (.tuple #[.int .u32 (F.word (256 * first)).num, .bool (genOk (F.word (256 * first)) (F.word (256 * first + 1)))]) ∧ Touch [] w w' := by
  have hsz := h.size
  have hx : ∀ k, k < F.mem.length → F.mem[k]? = some (F.word k) := fun k hk => by
    unfold Fl.word
    rw [List.getD_eq_getElem?_getD, List.getElem?_eq_getElem hk]; rfl
  exact half_generation w f s F first count _ _ h ho hc hp (hx _ (by omega)) (hx _ (by omega))
set_option maxRecDepth 100000 in
set_option maxHeartbeats 3200000 in
theorem open_ok (w : World) (f s : Nat) (F : Fl) (first count : Nat) (hF : FlashAt w f s F) (ho : F.off = false) (hg : w.rangeAt 0 0 W4.free.cells) (hz : f ≠ 0 ∧ s ≠ 0) (h2 : 2 ≤ count) (hc : first + count ≤ F.count) :
    Calls Tryd.prog 11 #[ptr f, .int .i64 first, .int .i64 count] w (OpenDone w f s F first (count / 2)) := by
  have hfew := hF.few
  have hfl := hF.flt
  have hsl := hF.slt
  have hsz := hF.size
  have e1 : ¬ ((first : Int) < 0) := by omega
  have e2 : (2 : Int) ≤ (count : Int) := by omega
  have e3 : (count : Int) ≤ (F.count : Int) := by omega
  have e4 : (first : Int) ≤ (F.count : Int) - (count : Int) := by omega
  have e5 : (F.count : Int) ≤ 64 := by omega
  go_enter Tryd.func11, Tryd.ntmps11
  go_wp2_with ((with_reducible refine (flash_sectors _ f s F hF).mono ?_); rintro e w1 ⟨rfl, rfl⟩)
  refine (flash_off _ f s F hF).mono ?_
  rintro e w2 ⟨rfl, rfl⟩
  rw [ho]
  obtain ⟨h, hh⟩ : ∃ h, count / 2 = h := ⟨_, rfl⟩
  have hI : (count : Int) / 2 = (h : Int) := by omega
  obtain ⟨q, hq⟩ : ∃ q, first + h = q := ⟨_, rfl⟩
  have hqI : (first : Int) + (h : Int) = (q : Int) := by omega
  have hh1 : q + h ≤ F.count := by omega
  have hh4 : first + h ≤ F.count := by omega
  have hh2 : 0 < h := by omega
  have hh3 : h ≤ 32 := by omega
  have HQ := Lib.hid hq
  have HH := Lib.hid hh
  clear hh hq
  have tA := Touch.two w2 (.cells #[ptr f, .int .i64 first, .int .i64 h] 73) (.cells #[ptr f, .int .i64 (q : Int), .int .i64 h] 73)
  have hA := (OwnAt.new w2 #[ptr f, .int .i64 first, .int .i64 h] 73).alloc (.cells #[ptr f, .int .i64 (q : Int), .int .i64 h] 73)
  have hB := OwnAt.new' (w2.alloc (.cells #[ptr f, .int .i64 first, .int .i64 h] 73)) #[ptr f, .int .i64 (q : Int), .int .i64 h] 73 (g := w2.heap.size + 1) (by simp)
  have hF3 := hF.to tA
  have hg3 := glob_to hg tA (by simp)
  go_wp2_with fail
  clear e1 e2 e3 e4 e5 hI hqI
  generalize (w2.alloc (.cells #[ptr f, .int .i64 first, .int .i64 h] 73)).alloc (.cells #[ptr f, .int .i64 (q : Int), .int .i64 h] 73) = W at *
  refine (half_gen _ f s F first h hF3 ho (by omega) hh2).mono ?_
  rintro e w3 ⟨rfl, t3⟩
  have T3 := tA.trans t3
  replace hA := hA.to t3
  replace hB := hB.to t3
  replace hF3 := hF3.to t3
  replace hg3 := glob_to hg3 t3 (by simp)
  obtain ⟨b0, b1, b2⟩ := (show w3.cell? ⟨w2.heap.size + 1, 0, none⟩ = some (ptr f) ∧ w3.cell? ⟨w2.heap.size + 1, 1, none⟩ = some (.int .i64 (q : Int)) ∧ w3.cell? ⟨w2.heap.size + 1, 2, none⟩ = some (.int .i64 h) from ⟨hB.get 0 (by simp), hB.get 1 (by simp), hB.get 2 (by simp)⟩)
  go_wp2_with fail
  clear b0 b1 b2
  refine (half_gen _ f s F q h hF3 ho (by omega) hh2).mono ?_
  rintro e w4 ⟨rfl, t4⟩
  have T4 := T3.trans t4
  replace hA := hA.to t4
  replace hB := hB.to t4
  replace hF3 := hF3.to t4
  replace hg3 := glob_to hg3 t4 (by simp)
  have hpick : F.pickHalf first h = if !(genOk (F.word (256 * first)) (F.word (256 * first + 1))) || (genOk (F.word (256 * q)) (F.word (256 * q + 1)) && newer (F.word (256 * first)).num (F.word (256 * q)).num)
    then (q, first, (F.word (256 * q)).num, genOk (F.word (256 * q)) (F.word (256 * q + 1)))
    else (first, q, (F.word (256 * first)).num, genOk (F.word (256 * first)) (F.word (256 * first + 1))) := by rw [← HQ.out]; rfl
  have hm := (F.word (256 * first)).num_lt
  have hn := (F.word (256 * q)).num_lt
  generalize genOk (F.word (256 * first)) (F.word (256 * first + 1)) = ok1 at *
  generalize genOk (F.word (256 * q)) (F.word (256 * q + 1)) = ok2 at *
  generalize (F.word (256 * first)).num = m at *
  generalize (F.word (256 * q)).num = n at *
  have HP := Lib.hid hpick
  clear hpick
  have a0 : w4.cell? ⟨w2.heap.size, 0, none⟩ = some (ptr f) := hA.get 0 (by simp)
  have a1 : w4.cell? ⟨w2.heap.size, 1, none⟩ = some (.int .i64 first) := hA.get 1 (by simp)
  have a2 : w4.cell? ⟨w2.heap.size, 2, none⟩ = some (.int .i64 h) := hA.get 2 (by simp)
  have b0 : w4.cell? ⟨w2.heap.size + 1, 0, none⟩ = some (ptr f) := hB.get 0 (by simp)
  have b1 : w4.cell? ⟨w2.heap.size + 1, 1, none⟩ = some (.int .i64 (q : Int)) := hB.get 1 (by simp)
  have b2 : w4.cell? ⟨w2.heap.size + 1, 2, none⟩ = some (.int .i64 h) := hB.get 2 (by simp)
  have za : ∀ k, k < 3 → w4.frozen? ⟨w2.heap.size, k, none⟩ = false := fun k hk => by have := hA.free k (by simpa using hk); rwa [Nat.zero_add] at this
  have zb : ∀ k, k < 3 → w4.frozen? ⟨w2.heap.size + 1, k, none⟩ = false := fun k hk => by have := hB.free k (by simpa using hk); rwa [Nat.zero_add] at this
  have za0 := za 0 (by omega)
  have za1 := za 1 (by omega)
  have za2 := za 2 (by omega)
  have zb0 := zb 0 (by omega)
  have zb1 := zb 1 (by omega)
  have zb2 := zb 2 (by omega)
  clear za zb
  cases ok1 with
  | false =>
    have hpk : F.pickHalf first h = (q, first, n, ok2) := HP.out
    have HPK := Lib.hid hpk
    clear hpk
    go_upto_region 12 with (fail)
    clear a0 a1 a2 b0 b1 b2 za0 za1 za2 zb0 zb1 zb2
    have hA' : OwnAt ((((((w4.setCell ⟨w2.heap.size, 0, none⟩ (ptr f)).setCell ⟨w2.heap.size, 1, none⟩ (.int .i64 q)).setCell ⟨w2.heap.size, 2, none⟩ (.int .i64 h)).setCell ⟨w2.heap.size + 1, 0, none⟩ (ptr f)).setCell ⟨w2.heap.size + 1, 1, none⟩ (.int .i64 first)).setCell ⟨w2.heap.size + 1, 2, none⟩ (.int .i64 h)) w2.heap.size 0 [ptr f, .int .i64 q, .int .i64 h] :=
      (((((hA.set0 0 (ptr f) (by simp)).set0 1 (.int .i64 q) (by simp)).set0 2 (.int .i64 h) (by simp)).other (by simp) _).other (by simp) _).other (by simp) _
    have hB' : OwnAt ((((((w4.setCell ⟨w2.heap.size, 0, none⟩ (ptr f)).setCell ⟨w2.heap.size, 1, none⟩ (.int .i64 q)).setCell ⟨w2.heap.size, 2, none⟩ (.int .i64 h)).setCell ⟨w2.heap.size + 1, 0, none⟩ (ptr f)).setCell ⟨w2.heap.size + 1, 1, none⟩ (.int .i64 first)).setCell ⟨w2.heap.size + 1, 2, none⟩ (.int .i64 h)) (w2.heap.size + 1) 0 [ptr f, .int .i64 first, .int .i64 h] :=
      (((((hB.other (by simp) _).other (by simp) _).other (by simp) _).set0 0 (ptr f) (by simp)).set0 1 (.int .i64 first) (by simp)).set0 2 (.int .i64 h) (by simp)
    have tS : Touch [w2.heap.size, w2.heap.size + 1] w4 ((((((w4.setCell ⟨w2.heap.size, 0, none⟩ (ptr f)).setCell ⟨w2.heap.size, 1, none⟩ (.int .i64 q)).setCell ⟨w2.heap.size, 2, none⟩ (.int .i64 h)).setCell ⟨w2.heap.size + 1, 0, none⟩ (ptr f)).setCell ⟨w2.heap.size + 1, 1, none⟩ (.int .i64 first)).setCell ⟨w2.heap.size + 1, 2, none⟩ (.int .i64 h)) :=
      ((((((Touch.refl _ _).setCell (by simp) _).setCell (by simp) _).setCell (by simp) _).setCell (by simp) _).setCell (by simp) _).setCell (by simp) _
    have hFs := hF3.to tS
    have hgs := glob_to hg3 tS (by simp; omega)
    have Ts := T4.to tS
    generalize ((((((w4.setCell ⟨w2.heap.size, 0, none⟩ (ptr f)).setCell ⟨w2.heap.size, 1, none⟩ (.int .i64 q)).setCell ⟨w2.heap.size, 2, none⟩ (.int .i64 h)).setCell ⟨w2.heap.size + 1, 0, none⟩ (ptr f)).setCell ⟨w2.heap.size + 1, 1, none⟩ (.int .i64 first)).setCell ⟨w2.heap.size + 1, 2, none⟩ (.int .i64 h)) = V at *
    have a0 : V.cell? ⟨w2.heap.size, 0, none⟩ = some (ptr f) := hA'.get 0 (by simp)
    have a1 : V.cell? ⟨w2.heap.size, 1, none⟩ = some (.int .i64 q) := hA'.get 1 (by simp)
    have a2 : V.cell? ⟨w2.heap.size, 2, none⟩ = some (.int .i64 h) := hA'.get 2 (by simp)
    have b0 : V.cell? ⟨w2.heap.size + 1, 0, none⟩ = some (ptr f) := hB'.get 0 (by simp)
    have b1 : V.cell? ⟨w2.heap.size + 1, 1, none⟩ = some (.int .i64 first) := hB'.get 1 (by simp)
    have b2 : V.cell? ⟨w2.heap.size + 1, 2, none⟩ = some (.int .i64 h) := hB'.get 2 (by simp)
    have hfV := hA'.lt (by simp)
    cases ok2 with
    | true =>
      have hJ0 := fresh_at V f s q first h n hFs.flt hFs.slt hh3 hn 81
      have tJ := Touch.one V (.cells ((Jn.fresh q first h n).cells f).toArray 81)
      have hFj := hFs.to tJ
      have hGj := glob_to hgs tJ (by simp)
      have hVz := Ts.size
      have hrd := read_any _ V.heap.size f s (Jn.fresh q first h n) F hJ0 hFj ho hGj ⟨by omega, hz.1, hz.2⟩ (by show q + h ≤ F.count; omega) hh2 rfl
      go_wp2_with fail
      refine hrd.mono ?_
      rintro e w9 ⟨rfl, ⟨K, hK, hKs, hKr⟩, hF9, t9⟩
      have T9 := (Ts.trans tJ).to t9
      have HR := Lib.hid hKr
      clear hrd hKr
      go_wp2_with fail
      go_ret2
      refine .inl ⟨by rw [HH.out, HPK.out], ?_⟩
      rw [HH.out, HPK.out]
      exact ⟨K, V.heap.size, rfl, hVz, hK, hKs, HR.out, hF9, T9⟩
    | false =>
      have hJ0 := fresh_at V f s q first h n hFs.flt hFs.slt hh3 hn 81
      have tJ := Touch.one V (.cells ((Jn.fresh q first h n).cells f).toArray 81)
      have hFj := hFs.to tJ
      have hAj := hA'.to tJ
      have hBj := hB'.to tJ
      have hVz := Ts.size
      have hfV2 := hB'.lt (by simp)
      have hjf : V.heap.size ≠ f := by omega
      have hjs : V.heap.size ≠ s := by omega
      have TJ := Ts.trans tJ
      go_wp2_with fail
      have hcell : (V.alloc (.cells ((Jn.fresh q first h n).cells f).toArray 81)).heap.size = V.heap.size + 1 := by simp
      refine (show Code.wp _ _ _ _ (V.alloc (.cells ((Jn.fresh q first h n).cells f).toArray 81)) from ?_)
      generalize V.alloc (.cells ((Jn.fresh q first h n).cells f).toArray 81) = VJ at *
      have tD := Touch.dr VJ
      have hJd := hJ0.to tD
      have hFd := hFj.to tD
      have hAd := hAj.to tD
      have hBd := hBj.to tD
      have TD := TJ.trans tD
      have hth0 : VJ.drew.there V.heap.size 0 3 := by
        have := hJd.own.there (i := 0) (n := 3) (by rw [Jn.cells_length]; omega)
        rwa [Nat.zero_add] at this
      refine wp_region_legs (fun w' => OwnAt w' w2.heap.size 0 [ptr f, .int .i64 q, .int .i64 h] ∧ OwnAt w' (w2.heap.size + 1) 0 [ptr f, .int .i64 first, .int .i64 h]) [⟨[0, 1, 2, 3, 4, 5, 6], some 7⟩, ⟨[8, 9], some 10⟩, ⟨[11, 12], some 13⟩] (by kernel_rfl) (by kernel_rfl) ?_
      refine legs_onS ?_ ⟨hAd, hBd⟩ (fun w' hSw => ?_) ?_ ?_
      rotate_left
      · obtain ⟨u0, u1, u2⟩ := hSw.1.half3
        obtain ⟨v0, v1, v2⟩ := hSw.2.half3
        simp only [pick, nthOp]; go_wp2_with fail; refine And.intro ?_ ?_ <;> rfl
      · kernel_rfl
      simp only [pick, nthOp]
      go_wp2_with (refine wp_store_half (f := f) (first := first) (count := h) (b := V.heap.size) (o := 0) ?_ rfl rfl rfl rfl ?_; (with_reducible exact hth0))
      have hst1 := Touch.cells VJ.drew V.heap.size 0 [ptr f, .int .i64 first, .int .i64 h]
      have hAe := hAd.to hst1
      have hBe := hBd.to hst1
      refine legs_nextS ⟨hAe, hBe⟩ ?_
      refine legs_onS ?_ ⟨hAe, hBe⟩ (fun w' hSw => ?_) ?_ ?_
      rotate_left
      · simp only [pick, nthOp]; go_wp2_with fail; refine And.intro ?_ ?_ <;> rfl
      · kernel_rfl
      simp only [pick, nthOp]
      have hO1 := hJd.own.setCells 0 [ptr f, .int .i64 first, .int .i64 h] (by rw [Jn.cells_length]; simp; omega)
      have hth3 : (VJ.drew.setCells V.heap.size 0 [ptr f, .int .i64 first, .int .i64 h]).there V.heap.size 3 3 := by
        have := hO1.there (i := 3) (n := 3) (by simp [Jn.cells_length]; omega)
        rwa [Nat.zero_add] at this
      go_wp2_with (refine wp_store_half (f := f) (first := q) (count := h) (b := V.heap.size) (o := 3) ?_ rfl rfl rfl rfl ?_; (with_reducible exact hth3))
      have hst2 := Touch.cells (VJ.drew.setCells V.heap.size 0 [ptr f, .int .i64 first, .int .i64 h]) V.heap.size 3 [ptr f, .int .i64 q, .int .i64 h]
      have hAf := hAe.to hst2
      have hBf := hBe.to hst2
      refine legs_nextS ⟨hAf, hBf⟩ ?_
      refine legs_onS ?_ ⟨hAf, hBf⟩ (fun w' hSw => ?_) ?_ ?_
      rotate_left
      · simp only [pick, nthOp]; go_wp2_with fail; refine And.intro ?_ ?_ <;> rfl
      · kernel_rfl
      simp only [pick, nthOp]
      have hO2 := hO1.setCells 3 [ptr f, .int .i64 q, .int .i64 h] (by simp [Jn.cells_length]; omega)
      have c6 : ((VJ.drew.setCells V.heap.size 0 [ptr f, .int .i64 first, .int .i64 h]).setCells V.heap.size 3 [ptr f, .int .i64 q, .int .i64 h]).cell? ⟨V.heap.size, 6, none⟩ = some (.int .u32 n) := hO2.get 6 (by simp [Jn.cells_length]; omega)
      have f6 : ((VJ.drew.setCells V.heap.size 0 [ptr f, .int .i64 first, .int .i64 h]).setCells V.heap.size 3 [ptr f, .int .i64 q, .int .i64 h]).frozen? ⟨V.heap.size, 6, none⟩ = false := by
        have := hO2.free 6 (by simp [Jn.cells_length]; omega)
        rwa [Nat.zero_add] at this
      have hJs : JnAt _ V.heap.size f s (Jn.fresh first q h 0) := hJd.swapped 0 (by omega)
      have hst3 := Touch.cell1 ((VJ.drew.setCells V.heap.size 0 [ptr f, .int .i64 first, .int .i64 h]).setCells V.heap.size 3 [ptr f, .int .i64 q, .int .i64 h]) V.heap.size 6 (.int .u32 0)
      have hAg := hAf.to hst3
      have hBg := hBf.to hst3
      have hFg := ((hFd.to hst1).to hst2).to hst3
      have TG := ((TD.to hst1).to hst2).to hst3
      go_wp2_with fail
      refine legs_nextS ⟨hAg, hBg⟩ (legs_endS ?_)
      clear c6 f6 hth0 hth3
      have htu := turn_any _ V.heap.size f s (Jn.fresh first q h 0) F hJs hFg ho (by show q + h ≤ F.count; omega) hh2 (by show 2 + liveWords (List.replicate 16 blankSlot) ≤ 256 * h; rw [liveWords_blank]; omega)
      have hotu : ∀ e w', OpenTurn w2 f s F first q h e w' → OpenDone w2 f s F first (count / 2) e w' := fun e w' ho => by
        refine .inr ?_
        rw [HH.out, HPK.out]
        exact ⟨rfl, ho⟩
      have HO := Lib.hid hotu
      clear hotu
      go_wp2_with fail
      refine htu.mono ?_
      rintro e w9 ⟨rfl, hF9, hJ9, t9⟩
      have T9 : Touch [f, s] w2 w9 := (TG.mono (by simp)).to t9
      have hturn : ∀ e w', OpenTurn w2 f s F first q h e w' ↔ OpenTurn w2 f s F first q h e w' := fun _ _ => Iff.rfl
      clear htu hturn
      by_cases he : ((Jn.fresh first q h 0).turn F).1 = 0
      · have hz0 : OpenTurn w2 f s F first q h (.returned (.tuple #[ptr V.heap.size, .int .i64 0])) w9 := .inl ⟨he, V.heap.size, rfl, by omega, hJ9, hF9, T9⟩
        have HZ := Lib.hid (HO.out _ _ hz0)
        rw [he]
        clear he hz0 hF9 hJ9
        go_wp2_with fail
        go_ret2
        exact HZ.out
      · have hz0 : OpenTurn w2 f s F first q h (.returned (.tuple #[.pointer none, .int .i64 ((Jn.fresh first q h 0).turn F).1])) w9 := .inr ⟨he, rfl, hF9, T9⟩
        have HZ := Lib.hid (HO.out _ _ hz0)
        have hne : (((Jn.fresh first q h 0).turn F).1 != 0) = true := bne_iff_ne.2 he
        clear he hz0 hF9 hJ9
        generalize ((Jn.fresh first q h 0).turn F).1 = er at *
        go_wp2_with fail
        go_ret2
        exact HZ.out
  | true =>
    cases ok2 with
    | false =>
      have hpk : F.pickHalf first h = (first, q, m, true) := HP.out
      have HPK := Lib.hid hpk
      clear hpk za0 za1 za2 zb0 zb1 zb2
      have hfV := hA.lt (by simp)
      have hJ0 := fresh_at w4 f s first q h m hF3.flt hF3.slt hh3 hm 81
      have tJ := Touch.one w4 (.cells ((Jn.fresh first q h m).cells f).toArray 81)
      have hFj := hF3.to tJ
      have hGj := glob_to hg3 tJ (by simp)
      have hVz := T4.size
      have hrd := read_any _ w4.heap.size f s (Jn.fresh first q h m) F hJ0 hFj ho hGj ⟨by omega, hz.1, hz.2⟩ (by show first + h ≤ F.count; omega) hh2 rfl
      go_wp2_with fail
      refine hrd.mono ?_
      rintro e w9 ⟨rfl, ⟨K, hK, hKs, hKr⟩, hF9, t9⟩
      have T9 := (T4.trans tJ).to t9
      have HR := Lib.hid hKr
      clear hrd hKr
      go_wp2_with fail
      go_ret2
      refine .inl ⟨by rw [HH.out, HPK.out], ?_⟩
      rw [HH.out, HPK.out]
      exact ⟨K, w4.heap.size, rfl, hVz, hK, hKs, HR.out, hF9, T9⟩
    | true =>
      by_cases hnw : newer m n = true
      · have hpk : F.pickHalf first h = (q, first, n, true) := by rw [HP.out, hnw]; rfl
        have hw : 0 < wrap32 (((n : Int) - (m : Int)) % 4294967296) := by
          unfold newer at hnw
          simp only [decide_eq_true_eq] at hnw
          unfold wrap32
          omega
        have HPK := Lib.hid hpk
        clear hpk hnw
        go_upto_region 12 with (fail)
        clear a0 a1 a2 b0 b1 b2 za0 za1 za2 zb0 zb1 zb2
        have hA' : OwnAt ((((((w4.setCell ⟨w2.heap.size, 0, none⟩ (ptr f)).setCell ⟨w2.heap.size, 1, none⟩ (.int .i64 q)).setCell ⟨w2.heap.size, 2, none⟩ (.int .i64 h)).setCell ⟨w2.heap.size + 1, 0, none⟩ (ptr f)).setCell ⟨w2.heap.size + 1, 1, none⟩ (.int .i64 first)).setCell ⟨w2.heap.size + 1, 2, none⟩ (.int .i64 h)) w2.heap.size 0 [ptr f, .int .i64 q, .int .i64 h] :=
          (((((hA.set0 0 (ptr f) (by simp)).set0 1 (.int .i64 q) (by simp)).set0 2 (.int .i64 h) (by simp)).other (by simp) _).other (by simp) _).other (by simp) _
        have hB' : OwnAt ((((((w4.setCell ⟨w2.heap.size, 0, none⟩ (ptr f)).setCell ⟨w2.heap.size, 1, none⟩ (.int .i64 q)).setCell ⟨w2.heap.size, 2, none⟩ (.int .i64 h)).setCell ⟨w2.heap.size + 1, 0, none⟩ (ptr f)).setCell ⟨w2.heap.size + 1, 1, none⟩ (.int .i64 first)).setCell ⟨w2.heap.size + 1, 2, none⟩ (.int .i64 h)) (w2.heap.size + 1) 0 [ptr f, .int .i64 first, .int .i64 h] :=
          (((((hB.other (by simp) _).other (by simp) _).other (by simp) _).set0 0 (ptr f) (by simp)).set0 1 (.int .i64 first) (by simp)).set0 2 (.int .i64 h) (by simp)
        have tS : Touch [w2.heap.size, w2.heap.size + 1] w4 ((((((w4.setCell ⟨w2.heap.size, 0, none⟩ (ptr f)).setCell ⟨w2.heap.size, 1, none⟩ (.int .i64 q)).setCell ⟨w2.heap.size, 2, none⟩ (.int .i64 h)).setCell ⟨w2.heap.size + 1, 0, none⟩ (ptr f)).setCell ⟨w2.heap.size + 1, 1, none⟩ (.int .i64 first)).setCell ⟨w2.heap.size + 1, 2, none⟩ (.int .i64 h)) :=
          ((((((Touch.refl _ _).setCell (by simp) _).setCell (by simp) _).setCell (by simp) _).setCell (by simp) _).setCell (by simp) _).setCell (by simp) _
        have hFs := hF3.to tS
        have hgs := glob_to hg3 tS (by simp; omega)
        have Ts := T4.to tS
        generalize ((((((w4.setCell ⟨w2.heap.size, 0, none⟩ (ptr f)).setCell ⟨w2.heap.size, 1, none⟩ (.int .i64 q)).setCell ⟨w2.heap.size, 2, none⟩ (.int .i64 h)).setCell ⟨w2.heap.size + 1, 0, none⟩ (ptr f)).setCell ⟨w2.heap.size + 1, 1, none⟩ (.int .i64 first)).setCell ⟨w2.heap.size + 1, 2, none⟩ (.int .i64 h)) = V at *
        have a0 : V.cell? ⟨w2.heap.size, 0, none⟩ = some (ptr f) := hA'.get 0 (by simp)
        have a1 : V.cell? ⟨w2.heap.size, 1, none⟩ = some (.int .i64 q) := hA'.get 1 (by simp)
        have a2 : V.cell? ⟨w2.heap.size, 2, none⟩ = some (.int .i64 h) := hA'.get 2 (by simp)
        have b0 : V.cell? ⟨w2.heap.size + 1, 0, none⟩ = some (ptr f) := hB'.get 0 (by simp)
        have b1 : V.cell? ⟨w2.heap.size + 1, 1, none⟩ = some (.int .i64 first) := hB'.get 1 (by simp)
        have b2 : V.cell? ⟨w2.heap.size + 1, 2, none⟩ = some (.int .i64 h) := hB'.get 2 (by simp)
        have hfV := hA'.lt (by simp)
        have hJ0 := fresh_at V f s q first h n hFs.flt hFs.slt hh3 hn 81
        have tJ := Touch.one V (.cells ((Jn.fresh q first h n).cells f).toArray 81)
        have hFj := hFs.to tJ
        have hGj := glob_to hgs tJ (by simp)
        have hVz := Ts.size
        have hrd := read_any _ V.heap.size f s (Jn.fresh q first h n) F hJ0 hFj ho hGj ⟨by omega, hz.1, hz.2⟩ (by show q + h ≤ F.count; omega) hh2 rfl
        go_wp2_with fail
        refine hrd.mono ?_
        rintro e w9 ⟨rfl, ⟨K, hK, hKs, hKr⟩, hF9, t9⟩
        have T9 := (Ts.trans tJ).to t9
        have HR := Lib.hid hKr
        clear hrd hKr
        go_wp2_with fail
        go_ret2
        refine .inl ⟨by rw [HH.out, HPK.out], ?_⟩
        rw [HH.out, HPK.out]
        exact ⟨K, V.heap.size, rfl, hVz, hK, hKs, HR.out, hF9, T9⟩
      · have hpk : F.pickHalf first h = (first, q, m, true) := by rw [HP.out]; simp [hnw]
        have hw : wrap32 (((n : Int) - (m : Int)) % 4294967296) ≤ 0 := by
          unfold newer at hnw
          simp only [decide_eq_true_eq] at hnw
          unfold wrap32
          omega
        have HPK := Lib.hid hpk
        clear hpk hnw za0 za1 za2 zb0 zb1 zb2
        have hfV := hA.lt (by simp)
        have hJ0 := fresh_at w4 f s first q h m hF3.flt hF3.slt hh3 hm 81
        have tJ := Touch.one w4 (.cells ((Jn.fresh first q h m).cells f).toArray 81)
        have hFj := hF3.to tJ
        have hGj := glob_to hg3 tJ (by simp)
        have hVz := T4.size
        have hrd := read_any _ w4.heap.size f s (Jn.fresh first q h m) F hJ0 hFj ho hGj ⟨by omega, hz.1, hz.2⟩ (by show first + h ≤ F.count; omega) hh2 rfl
        go_wp2_with fail
        refine hrd.mono ?_
        rintro e w9 ⟨rfl, ⟨K, hK, hKs, hKr⟩, hF9, t9⟩
        have T9 := (T4.trans tJ).to t9
        have HR := Lib.hid hKr
        clear hrd hKr
        go_wp2_with fail
        go_ret2
        refine .inl ⟨by rw [HH.out, HPK.out], ?_⟩
        rw [HH.out, HPK.out]
        exact ⟨K, w4.heap.size, rfl, hVz, hK, hKs, HR.out, hF9, T9⟩
end Go.Proofs.YtdfgcenbkclpbaaDoor
