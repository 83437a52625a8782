/- The iterator over the records of a half, walked. -/
import Derived.Test.YtdfgcenbkclpbaaDoorParse
import Derived.Test.YtdfgcenbkclpbaaDoorRound
import Derived.Deep.Cut
namespace Go.Proofs.YtdfgcenbkclpbaaDoor
open Go.RowKit
set_option linter.unusedSimpArgs false
set_option linter.unusedVariables false
theorem OwnAt.half3 {w : World} {cb f first count : Nat} (h : OwnAt w cb 0 [ptr f, .int .i64 first, .int .i64 count]) : w.cell? ⟨cb, 0, none⟩ = some (ptr f) ∧ w.cell? ⟨cb, 1, none⟩ = some (.int .i64 first) ∧ w.cell? ⟨cb, 2, none⟩ = some (.int .i64 count) := ⟨h.get 0 (by simp), h.get 1 (by simp), h.get 2 (by simp)⟩
theorem free4 {w : World} (h : w.rangeAt 0 0 W4.free.cells) : w.cell? ⟨0, 0, none⟩ = some (.int .u8 255) ∧ w.cell? ⟨0, 1, none⟩ = some (.int .u8 255) ∧ w.cell? ⟨0, 2, none⟩ = some (.int .u8 255) ∧ w.cell? ⟨0, 3, none⟩ = some (.int .u8 255) := ⟨h 0 _ rfl, h 1 _ rfl, h 2 _ rfl, h 3 _ rfl⟩
theorem or64 (a b : Nat) (ha : a < 4294967296) (hb : b < 4294967296) : bits .or .i64 (a : Int) (b : Int) = ((a ||| b : Nat) : Int) := by
  have hx : a ||| b < 2 ^ 32 := Nat.or_lt_two_pow (by omega) (by omega)
  show IntKind.i64.wrap ((BitVec.ofInt 64 (a : Int) ||| BitVec.ofInt 64 (b : Int)).toNat : Int) = _
  rw [BitVec.toNat_or, BitVec.ofInt_natCast, BitVec.ofInt_natCast, BitVec.toNat_ofNat, BitVec.toNat_ofNat, Nat.mod_eq_of_lt (by omega), Nat.mod_eq_of_lt (by omega)]
  exact IntWalk.i64_in _ (by omega)
theorem or_shift64 (A B k : Nat) (hA : A < 2 ^ k) (h1 : B * 2 ^ k < 4294967296) (hk : 2 ^ k < 4294967296) : bits .or .i64 (A : Int) ((B * 2 ^ k : Nat) : Int) = ((A + B * 2 ^ k : Nat) : Int) := by
  rw [or64 _ _ (by omega) h1, Nat.or_comm, Nat.mul_comm B, ← Nat.two_pow_add_eq_or_of_lt hA, Nat.add_comm]
theorem rec_len (x : W4) : bits .or .i64 (x.c.toNat : Int) ((x.d.toNat : Int) * 256) = (recLen x : Int) := by
  have hc := x.c.toNat_lt; have hd := x.d.toNat_lt
  have := or_shift64 x.c.toNat x.d.toNat 8 (by omega) (by omega) (by omega)
  unfold recLen
  rw [← this]
  simp
theorem ownsRow_block {w : World} {base : Nat} {e : TypeId} {size : Nat} {v : Value} {n : Nat} {xs : List Value} (h : w.ownsRow base e size v n xs) : ∀ g, v.ownBlock = some g → base ≤ g := fun g hg => by
  obtain ⟨_, h4 | ⟨g', cap, cur, rfl, hb', _⟩⟩ := h
  · rw [h4.1] at hg; cases hg
  · cases hg; exact hb'
def RecsEnd (F : Fl) (first count : Nat) (J : Nat → World → Prop) (X : World → Prop) (e : Ending) (w' : World) : Prop :=
  e = .returned (.tuple #[]) ∧ ((∃ at_, J at_ w' ∧ at_ ≤ 256 * count ∧ (256 * count ≤ at_ ∨ F.word (256 * first + at_) = W4.free)) ∨ X w')
def RecsMay (w : World) (cb f s l : Nat) (F : Fl) (first count : Nat) (J : Nat → World → Prop) (X : World → Prop) : Prop :=
  (∀ at_ W, J at_ W → FlashAt W f s F ∧ OwnAt W cb 0 [ptr f, .int .i64 first, .int .i64 count] ∧ W.rangeAt 0 0 W4.free.cells ∧ w.heap.size ≤ W.heap.size) ∧
  (∀ at_ W W', J at_ W → Touch [] W W' → J at_ W') ∧
  (∀ at_ W A c, J at_ W → at_ < 256 * count → F.word (256 * first + at_) ≠ W4.free → recNext (F.word (256 * first + at_)) at_ ≤ 256 * count →
    SliceAt W A ((F.recBytes (256 * first) at_ (F.word (256 * first + at_))).map u8v) → (A = none → (F.recBytes (256 * first) at_ (F.word (256 * first + at_))).length = 0 ∧ c = 0) → (∀ y, A = some y → w.heap.size ≤ y.block) →
    YieldAt Fence.wide 0 Tryd.prog l #[.int .i64 (recNext (F.word (256 * first + at_)) at_), recV (F.recHead (256 * first) at_ (F.word (256 * first + at_))) A (F.recBytes (256 * first) at_ (F.word (256 * first + at_))).length c] W fun e W' =>
      (e = .returned (.bool true) ∧ J (recNext (F.word (256 * first + at_)) at_) W') ∨ (e = .returned (.bool false) ∧ X W')) ∧
  (∀ at_ W, J at_ W → at_ < 256 * count → F.word (256 * first + at_) ≠ W4.free → 256 * count < recNext (F.word (256 * first + at_)) at_ →
    YieldAt Fence.wide 0 Tryd.prog l #[.int .i64 (-1), recV (F.word (256 * first + at_)) none 0 0] W fun e W' => (∃ v, e = .returned v) ∧ X W')
theorem half_at' {iv : Int} (w : World) (f s : Nat) (F : Fl) (first count i : Nat) (hiv : iv = i) (h : FlashAt w f s F) (ho : F.off = false) (hc : first + count ≤ F.count) (hi : i < 256 * count) :
    Calls Tryd.prog 49 #[halfV f first count, .int .i64 iv] w fun e w' => e = .returned (F.word (256 * first + i)).val ∧ Touch [] w w' := by
  subst hiv
  have hsz := h.size
  have hx : F.mem[256 * first + i]? = some (F.word (256 * first + i)) := by
    unfold Fl.word
    rw [List.getD_eq_getElem?_getD, List.getElem?_eq_getElem (by omega)]; rfl
  exact half_at w f s F first count i _ h ho hc hi hx
set_option maxRecDepth 100000 in
set_option maxHeartbeats 3200000 in
theorem records_any (w : World) (cb f s l : Nat) (F : Fl) (first count : Nat) (J : Nat → World → Prop) (X : World → Prop) (hM : RecsMay w cb f s l F first count J X) (h0 : J 2 w) (ho : F.off = false) (hc : first + count ≤ F.count) (hp : 0 < count) :
    CallsIn Fence.wide 0 Tryd.prog 66 #[.func (.yield l) #[] #[], ptr cb] w (RecsEnd F first count J X) := by
  refine callsIn_wide.2 ?_
  have hF0 := (hM.1 2 w h0).1
  have hfew := hF0.few
  have hcs : count ≤ 64 := by omega
  clear hF0
  have HM := Lib.hid hM
  clear hM
  go_enter Tryd.func66, Tryd.ntmps66
  go_wp2_with fail
  go_loopw [3] (fun v wr => ∃ at_ : Nat, v = .int .i64 at_ ∧ 2 ≤ at_ ∧ at_ ≤ 256 * count ∧ J at_ wr) (fun v _ => 256 * count - (intOf v).toNat)
  case atStart => exact ⟨2, rfl, by omega, by omega, h0⟩
  case round =>
    obtain ⟨at_, rfl, h2, hle, hj⟩ := hrel
    obtain ⟨wo, rfl⟩ : ∃ wo : World, wo = wr := ⟨_, rfl⟩
    have hsz : ((256 * count : Nat) : Int) ≤ 16384 := by omega
    have hD := HM.out.2.1 at_ _ _ hj (Touch.dr wo)
    go_wp2_with fail
    by_cases hlt : at_ < 256 * count
    · have hltI : (at_ : Int) < ((256 * count : Nat) : Int) := by omega
      refine wp_region_legs (fun w' => J at_ w') [⟨[0, 1], some 2⟩, ⟨[3, 4, 5, 6, 8], some 7⟩, ⟨[], some 9⟩, ⟨[10], none⟩] (by kernel_rfl) (by kernel_rfl) ?_
      refine legs_onS ?_ hD (fun w' hSw => ?_) ?_ ?_
      rotate_left
      · have k0 := (HM.out.1 _ _ hSw).2.1.all
        simp only [pick, nthOp]
        go_wp2_with (refine wp_load_half (f := f) (first := first) (count := count) ?_ rfl rfl rfl ?_; (with_reducible exact k0))
        refine And.intro ?_ ?_ <;> rfl
      · kernel_rfl
      simp only [pick, nthOp]
      go_wp2_with fail
      refine (half_size _ f first count (by omega)).mono ?_
      rintro e w1 ⟨rfl, t1⟩
      have hj1 := HM.out.2.1 at_ _ _ hD t1
      go_wp2_with fail
      refine legs_nextS hj1 ?_
      refine legs_onS ?_ hj1 (fun w' hSw => ?_) ?_ ?_
      rotate_left
      · obtain ⟨k0, k1, k2⟩ := (HM.out.1 _ _ hSw).2.1.half3
        obtain ⟨g0, g1, g2, g3⟩ := free4 (HM.out.1 _ _ hSw).2.2.1
        simp only [pick, nthOp]
        go_wp2_with fail
        refine And.intro ?_ ?_ <;> rfl
      · kernel_rfl
      simp only [pick, nthOp]
      go_wp2_with fail
      obtain ⟨x, hx⟩ : ∃ x, F.word (256 * first + at_) = x := ⟨_, rfl⟩
      refine (half_at' _ f s F first count at_ rfl (HM.out.1 _ _ hj1).1 ho hc hlt).mono ?_
      rintro e w2 ⟨rfl, t2⟩
      rw [hx]
      have HX := Lib.hid hx
      clear hx
      have hj2 := HM.out.2.1 at_ _ _ hj1 t2
      go_wp2_with fail
      refine legs_nextS hj2 ?_
      by_cases hfr : x = W4.free
      · have hE : ∀ W, (Op.equalIn 10000 30 x.val (.agg #[.int .u8 255, .int .u8 255, .int .u8 255, .int .u8 255])).run Tryd.prog W = .ok true W := fun W => (word_equal x W4.free W).trans (by rw [decide_eq_true hfr])
        have HFR := Lib.hid hfr
        clear hfr
        refine legs_onS ?_ hj2 (fun w' hSw => ?_) ?_ ?_
        rotate_left
        · simp only [pick, nthOp]; go_wp2_with fail; refine And.intro ?_ ?_ <;> rfl
        · kernel_rfl
        simp only [pick, nthOp]
        go_wp2_with fail
        refine legs_nextS hj2 ?_
        refine legs_rowS ?_ hj2 (fun w' hSw => ?_) ?_ ?_
        rotate_left
        · simp only [pick, nthOp]; go_wp2_with fail; refine And.intro ?_ ?_ <;> rfl
        · kernel_rfl
        refine legs_endS ?_
        go_wp2_with fail
        go_end0
        exact ⟨rfl, .inl ⟨at_, hj2, hle, .inr (by rw [HX.out]; exact HFR.out)⟩⟩
      · have hE : ∀ W, (Op.equalIn 10000 30 x.val (.agg #[.int .u8 255, .int .u8 255, .int .u8 255, .int .u8 255])).run Tryd.prog W = .ok false W := fun W => (word_equal x W4.free W).trans (by rw [decide_eq_false hfr])
        have HFR := Lib.hid hfr
        clear hfr
        obtain ⟨m0, m1, m2⟩ := (HM.out.1 _ _ hj2).2.1.half3
        refine legs_onS ?_ hj2 (fun w' hSw => ?_) ?_ ?_
        rotate_left
        · simp only [pick, nthOp]; go_wp2_with fail; refine And.intro ?_ ?_ <;> rfl
        · kernel_rfl
        simp only [pick, nthOp]
        go_wp2_with fail
        refine legs_nextS hj2 ?_
        refine legs_rowS ?_ hj2 (fun w' hSw => ?_) ?_ ?_
        rotate_left
        · simp only [pick, nthOp]; go_wp2_with fail; refine And.intro ?_ ?_ <;> rfl
        · kernel_rfl
        refine legs_endS ?_
        go_wp2_with fail
        clear hE
        refine (half_at' _ f s F first count at_ rfl (HM.out.1 _ _ hj2).1 ho hc hlt).mono ?_
        rintro e w3 ⟨rfl, t3⟩
        rw [HX.out]
        have hj3 := HM.out.2.1 at_ _ _ hj2 t3
        clear m0 m1 m2
        have t4 := Touch.one w3 (.cells #[u8v x.a, u8v x.b, u8v x.c, u8v x.d, .slice none 0 0] 98)
        have hj4 := HM.out.2.1 at_ _ _ hj3 t4
        have hR := OwnAt.new w3 #[u8v x.a, u8v x.b, u8v x.c, u8v x.d, .slice none 0 0] 98
        have hz3 : w.heap.size ≤ w3.heap.size := (HM.out.1 _ _ hj3).2.2.2
        obtain ⟨m0, m1, m2⟩ := (HM.out.1 _ _ hj4).2.1.half3
        have hn := rec_len x
        have hnl := recLen_lt x
        obtain ⟨n, hnn⟩ : ∃ n, recLen x = n := ⟨_, rfl⟩
        rw [hnn] at hn hnl
        have hxc : ((x.c.toNat : Int)) < 256 := by have := x.c.toNat_lt; omega
        have hxd : ((x.d.toNat : Int)) < 256 := by have := x.d.toNat_lt; omega
        obtain ⟨nx, hnx⟩ : ∃ nx, recNext x at_ = nx := ⟨_, rfl⟩
        have hnxI : ((at_ : Int) + 2 + ((n : Int) + 3) / 4) = (nx : Int) := by rw [← hnx, ← hnn]; unfold recNext; omega
        have hnx2 : at_ + 2 ≤ nx ∧ nx ≤ at_ + 16400 := by rw [← hnx]; unfold recNext; have := recLen_lt x; omega
        have hnx3 : (nx : Int) ≤ 33000 := by omega
        have HNN := Lib.hid hnn
        have HNX := Lib.hid hnx
        have HN4 : Hid (nx = at_ + 2 + (n + 3) / 4) := Lib.hid (by omega)
        clear hnn hnx
        go_wp2_with fail
        refine (half_size _ f first count (by omega)).mono ?_
        rintro e w4 ⟨rfl, t5⟩
        have hj5 := HM.out.2.1 at_ _ _ hj4 t5
        have hR5 := hR.to t5
        clear m0 m1 m2 hn hnxI
        have hzR : w3.heap.size < w4.heap.size := hR5.lt (by simp)
        have T4 : Touch [] wo w4 := (((((Touch.dr wo).trans t1).trans t2).trans t3).trans t4).trans t5
        have hzo : wo.heap.size ≤ w3.heap.size := ((((Touch.dr wo).trans t1).trans t2).trans t3).size
        by_cases hfit : nx ≤ 256 * count
        · have hfI : (nx : Int) ≤ ((256 * count : Nat) : Int) := by omega
          obtain ⟨m, hm⟩ : ∃ m, (n + 3) / 4 = m := ⟨_, rfl⟩
          have hm1 : nx = at_ + 2 + m := by rw [HN4.out, hm]
          have hm2 : n ≤ 4 * m ∧ 4 * m ≤ n + 3 := by omega
          have HM1 := Lib.hid hm1
          have hmI : (nx : Int) = (at_ : Int) + 2 + (m : Int) := by omega
          have HMI := Lib.hid hmI
          have hmb : at_ + 2 + m ≤ 256 * count := by omega
          clear hm hm1 hmI
          go_wp2_with fail
          go_loopw [7] (fun v7 wr' => ∃ (k : Nat) (v : Value), k ≤ m ∧ v7 = .int .i64 ((at_ : Int) + 1 + (k : Int)) ∧ Touch [] wo wr' ∧ OwnAt wr' w3.heap.size 0 [u8v x.a, u8v x.b, u8v x.c, u8v x.d, v] ∧ wr'.ownsRow (w3.heap.size + 1) 5 1 v (4 * k) ((F.bytesAt (256 * first + at_ + 1) k).map u8v)) (fun v7 _ => at_ + 1 + m - (intOf v7).toNat)
          case atStart => exact ⟨0, .slice none 0 0, by omega, by simp, T4, hR5, World.ownsRow_nil _ _ _ _⟩
          case round =>
            obtain ⟨k, v, hk, rfl, Tr, hRr, hV⟩ := hrel
            have hjr := HM.out.2.1 at_ _ _ hj Tr
            have hnx4 : ((nx : Int) - 1) = (at_ : Int) + 1 + (m : Int) := by have := HMI.out; omega
            obtain ⟨m0, m1, m2⟩ := (HM.out.1 _ _ hjr).2.1.half3
            by_cases hkm : k < m
            · have hkI : (at_ : Int) + 1 + (k : Int) < (at_ : Int) + 1 + (m : Int) := by omega
              go_wp2_with fail
              refine (half_at' _ f s F first count (at_ + 1 + k) (by omega) (HM.out.1 _ _ hjr).1 ho hc (by omega)).mono ?_
              rintro e w6 ⟨rfl, t6⟩
              obtain ⟨y, hy⟩ : ∃ y, F.word (256 * first + (at_ + 1 + k)) = y := ⟨_, rfl⟩
              rw [hy]
              have hbs : F.bytesAt (256 * first + at_ + 1) (k + 1) = F.bytesAt (256 * first + at_ + 1) k ++ y.bytes := by
                have hsz := (HM.out.1 _ _ hjr).1.size
                rw [Fl.bytesAt_succ _ _ _ (by omega), ← hy, show 256 * first + at_ + 1 + k = 256 * first + (at_ + 1 + k) by omega]
              have HBS := Lib.hid hbs
              clear hy hbs m0 m1 m2
              have t7 := Touch.one w6 (.cells #[u8v y.a, u8v y.b, u8v y.c, u8v y.d] 30)
              have T7 := (Tr.trans t6).trans t7
              have hV7 := ownsRow_touch (ownsRow_touch hV t6 (by simp)) t7 (by simp)
              have hR7 := (hRr.to t6).to t7
              have hY := OwnAt.new w6 #[u8v y.a, u8v y.b, u8v y.c, u8v y.d] 30
              have hz6 := t6.size
              have hzr : w3.heap.size < wr.heap.size := hRr.lt (by simp)
              go_wp2_with fail
              generalize w6.alloc (.cells #[u8v y.a, u8v y.b, u8v y.c, u8v y.d] 30) = W7 at *
              have hz7 : w6.heap.size < W7.heap.size := hY.lt (by simp)
              have td := Touch.dr W7
              have hR8 := hR7.to td
              have hY8 := (hY.to td).slice
              have hV8 := ownsRow_touch hV7 td (by simp)
              have T8 := T7.trans td
              have r4 : W7.drew.cell? ⟨w3.heap.size, 4, none⟩ = some v := hR8.get 4 (by simp)
              refine wp_region_by [⟨false, [0, 2], none⟩, ⟨true, [1], some 3⟩, ⟨false, [4], some 5⟩] (by kernel_rfl) (by kernel_rfl) ?_
              refine by_row ?_ (fun w' => ?_) ?_ ?_
              rotate_left
              · simp only [pick, nthOp]; go_wp2_with fail; refine And.intro ?_ ?_ <;> rfl
              · kernel_rfl
              refine by_here ?_ ?_ ?_ ?_
              rotate_left
              · simp only [pick, nthOp]; go_wp2_with fail; refine And.intro ?_ ?_ <;> rfl
              · kernel_rfl
              simp only [pick, nthOp]
              go_wp2_with (at_builtin; refine wp_append_u8 (w3.heap.size + 1) v (4 * k) (F.bytesAt (256 * first + at_ + 1) k) (some ⟨w6.heap.size, 0, none⟩) 4 4 y.bytes rfl rfl rfl rfl ?_ ?_ rfl (by simp) (by omega) ?_ ?_; exact hV8; exact hY8; exact (by show w3.heap.size + 1 ≤ W7.drew.heap.size; simp; omega))
              intro v' w' h1 h2 h3
              have hob := ownsRow_block hV8
              have T9 := T8.grown h2 (fun g hg => Or.inr (by have := hob g hg; omega))
              have hR9 := hR8.keep (h2.block w3.heap.size (hR8.lt (by simp)) (fun e => by have := hob _ e.symm; omega))
              have hV9 : w'.ownsRow (w3.heap.size + 1) 5 1 v' (4 * (k + 1)) ((F.bytesAt (256 * first + at_ + 1) (k + 1)).map u8v) := by
                rw [HBS.out, List.map_append, show 4 * (k + 1) = 4 * k + 4 by omega]; simpa using h1
              clear h1 h2 h3 hob
              obtain ⟨A', cap', rfl, _, _, _, _⟩ := ownsRow_slice' hV9
              go_wp2_with fail
              refine by_any ?_ (fun w' => ?_) ?_ ?_
              rotate_left
              · simp only [pick, nthOp]; go_wp2_with fail; refine And.intro ?_ ?_ <;> rfl
              · kernel_rfl
              simp only [pick, nthOp]
              have f4 : w'.frozen? ⟨w3.heap.size, 4, none⟩ = false := hR9.free 4 (by simp)
              have r4' : w'.cell? ⟨w3.heap.size, 4, none⟩ = some v := hR9.get 4 (by simp)
              have hRA := hR9.set0 4 (.slice A' (4 * (k + 1)) cap') (by simp)
              have TA := T9.setCell (p := ⟨w3.heap.size, 4, none⟩) (Or.inr hzo) (.slice A' (4 * (k + 1)) cap')
              have hVA := ownsRow_touch hV9 (Touch.cell1 w' w3.heap.size 4 (.slice A' (4 * (k + 1)) cap')) (fun g hg => by have := ownsRow_block hV9 g hg; simp; omega)
              go_wp2_with fail
              refine by_onward ?_
              go_wp2_with fail
              go_roundw
              case rel => exact ⟨k + 1, .slice A' (4 * (k + 1)) cap', by omega, by go_num, TA, hRA, hVA⟩
              case measure => simp [intOf]; omega
            · have : k = m := by omega
              subst this
              obtain ⟨A, cap, rfl, hA, hcap, hnil, hbl⟩ := ownsRow_slice' hV
              have r4 : wr.cell? ⟨w3.heap.size, 4, none⟩ = some (.slice A (4 * k) cap) := hRr.get 4 (by simp)
              have f4 : wr.frozen? ⟨w3.heap.size, 4, none⟩ = false := hRr.free 4 (by simp)
              have hsl := fun W => run_upto (P := Tryd.prog) (t := 22) Tryd.underlying22 (by kernel_rfl) A (4 * k) cap n .i64 (by omega) W
              obtain ⟨b, hb⟩ : ∃ b, F.recBytes (256 * first) at_ x = b := ⟨_, rfl⟩
              have hbe : b = (F.bytesAt (256 * first + at_ + 1) k).take n := by
                rw [← hb]; unfold Fl.recBytes; rw [HNN.out, show (n + 3) / 4 = k by omega]
              have hbl' : b.length = n := by
                have hsz := (HM.out.1 _ _ hj).1.size
                rw [hbe, List.length_take, Fl.bytesAt_length _ _ _ (by omega)]; omega
              have hAb : SliceAt wr A (b.map u8v) := by rw [hbe, List.map_take]; exact hA.take n
              have HB := Lib.hid hb
              have HBE := Lib.hid hbl'
              clear hb hbe hbl'
              have hnxm : ((nx : Int) - 1) = (at_ : Int) + 1 + (k : Int) := hnx4
              go_wp2_with fail
              have tS : Touch [w3.heap.size] wr (wr.setCell ⟨w3.heap.size, 4, none⟩ (.slice A n cap)) := Touch.cell1 wr _ _ _
              have TS := Tr.setCell (p := ⟨w3.heap.size, 4, none⟩) (Or.inr hzo) (.slice A n cap)
              have hRS := hRr.set0 4 (.slice A n cap) (by simp)
              have hAS := hAb.to tS (fun y hy => by have := hbl y hy; simp; omega)
              clear r4 f4 m0 m1 m2 hsl
              generalize wr.setCell ⟨w3.heap.size, 4, none⟩ (.slice A n cap) = V at *
              have hjS := HM.out.2.1 at_ _ _ hj TS
              have tD := Touch.dr V
              have TD := TS.trans tD
              have hRD := hRS.to tD
              have hAD := hAS.to tD
              have hjD := HM.out.2.1 at_ _ _ hj TD
              have hcD := (HM.out.1 _ _ hjD).2.1
              refine wp_region_legs (fun w' => OwnAt w' cb 0 [ptr f, .int .i64 first, .int .i64 count] ∧ OwnAt w' w3.heap.size 0 [u8v x.a, u8v x.b, u8v x.c, u8v x.d, .slice A n cap]) [⟨[0, 1, 2, 4], some 3⟩, ⟨[], some 5⟩, ⟨[], some 6⟩] (by kernel_rfl) (by kernel_rfl) ?_
              refine legs_onS ?_ ⟨hcD, hRD⟩ (fun w' hSw => ?_) ?_ ?_
              rotate_left
              · obtain ⟨m0, m1, m2⟩ := hSw.1.half3
                have kr := hSw.2.all
                simp only [pick, nthOp]
                go_wp2_with (refine wp_load_rec (y := x) (A := A) (n := n) (c := cap) ?_ rfl rfl rfl ?_; (with_reducible exact kr))
                refine And.intro ?_ ?_ <;> rfl
              · kernel_rfl
              simp only [pick, nthOp]
              go_wp2_with fail
              obtain ⟨lw, hlw⟩ : ∃ y, F.word (256 * first + (at_ + 1 + k)) = y := ⟨_, rfl⟩
              refine (half_at' _ f s F first count (at_ + 1 + k) (by omega) (HM.out.1 _ _ hjD).1 ho hc (by omega)).mono ?_
              rintro e v1 ⟨rfl, u1⟩
              rw [hlw]
              have hsum := fun W hS => rec_sum W x A cap b (by have := HBE.out; omega) hS
              simp only [HBE.out] at hsum
              have hhd : F.recHead (256 * first) at_ x = if lw = sumW x b then x else { x with b := 0 } := by
                unfold Fl.recHead
                have hmi := HMI.out
                rw [HB.out, HNX.out, show 256 * first + nx - 1 = 256 * first + (at_ + 1 + k) by omega, hlw]
              have HHD := Lib.hid hhd
              obtain ⟨sw, hsw⟩ : ∃ y, sumW x b = y := ⟨_, rfl⟩
              simp only [hsw] at hsum
              rw [hsw] at hhd
              have HHD := Lib.hid hhd
              clear hhd hlw hsw
              have hRE := hRD.to u1
              have hcE := hcD.to u1
              have hAE := hAD.to u1
              have TE := TD.trans u1
              go_wp2_with fail
              refine legs_nextS ⟨hcE, hRE⟩ ?_
              refine legs_onS ?_ ⟨hcE, hRE⟩ (fun w' hSw => ?_) ?_ ?_
              rotate_left
              · obtain ⟨_, _⟩ := hSw; simp only [pick, nthOp]; go_wp2_with fail; refine And.intro ?_ ?_ <;> rfl
              · kernel_rfl
              simp only [pick, nthOp]
              go_wp2_with fail
              refine (hsum _ hAE).mono ?_
              rintro e v2 ⟨rfl, u2⟩
              have hRF := hRE.to u2
              have hcF := hcE.to u2
              have hAF := hAE.to u2
              have TF := TE.trans u2
              go_wp2_with fail
              refine legs_nextS ⟨hcF, hRF⟩ ?_
              refine legs_onS ?_ ⟨hcF, hRF⟩ (fun w' hSw => ?_) ?_ ?_
              rotate_left
              · obtain ⟨_, _⟩ := hSw; simp only [pick, nthOp]; go_wp2_with fail; refine And.intro ?_ ?_ <;> rfl
              · kernel_rfl
              simp only [pick, nthOp]
              by_cases heq : lw = sw
              · have HH : Hid (F.recHead (256 * first) at_ x = x) := Lib.hid (by rw [HHD.out, if_pos heq])
                subst heq
                have hE := word_equal lw lw
                simp only [decide_true] at hE
                clear HHD
                go_wp2_with fail
                refine legs_nextS ⟨hcF, hRF⟩ (legs_endS ?_)
                clear hE
                have r0 : v2.cell? ⟨w3.heap.size, 0, none⟩ = some (u8v x.a) := hRF.get 0 (by simp)
                have r1 : v2.cell? ⟨w3.heap.size, 1, none⟩ = some (u8v x.b) := hRF.get 1 (by simp)
                have r2 : v2.cell? ⟨w3.heap.size, 2, none⟩ = some (u8v x.c) := hRF.get 2 (by simp)
                have r3 : v2.cell? ⟨w3.heap.size, 3, none⟩ = some (u8v x.d) := hRF.get 3 (by simp)
                have r4 : v2.cell? ⟨w3.heap.size, 4, none⟩ = some (.slice A n cap) := hRF.get 4 (by simp)
                have hjY := HM.out.2.1 at_ _ _ hj TF
                obtain ⟨fy, tmps, asg, bdy, hyr, hyR⟩ := HM.out.2.2.1 at_ _ A cap hjY hlt (by rw [HX.out]; exact HFR.out) (by rw [HX.out, HNX.out]; omega) (by rw [HX.out, HB.out]; exact hAF) (by rw [HX.out, HB.out, HBE.out]; intro h; obtain ⟨h1, h2⟩ := hnil h; exact ⟨by omega, h2⟩) (fun y hy => by have := hbl y hy; omega)
                rw [HX.out, HB.out, HBE.out, HNX.out, HH.out] at hyr
                rw [HX.out, HNX.out] at hyR
                go_upto_region 15 with (fail)
                refine (wpIn_wide (n := 1)).1 ?_
                gi_wp2_with fail
                refine hyR.mono ?_
                rintro e w9 (⟨rfl, hj9⟩ | ⟨rfl, hX9⟩)
                · gi_wp2_with fail
                  go_wp2_with fail
                  go_roundw
                  case rel => exact ⟨nx, rfl, by omega, hfit, hj9⟩
                  case measure => simp [intOf]; omega
                · gi_wp2_with fail
                  go_wp2_with fail
                  go_end0
                  exact ⟨rfl, .inr hX9⟩
              · have HH : Hid (F.recHead (256 * first) at_ x = { x with b := 0 }) := Lib.hid (by rw [HHD.out, if_neg heq])
                have hE := word_equal lw sw
                rw [decide_eq_false heq] at hE
                clear HHD heq
                go_wp2_with fail
                refine legs_nextS ⟨hcF, hRF⟩ (legs_endS ?_)
                clear hE
                have hR1 : v2.cell? ⟨w3.heap.size, 1, none⟩ = some (u8v x.b) := hRF.get 1 (by simp)
                have hF1 : v2.frozen? ⟨w3.heap.size, 1, none⟩ = false := hRF.free 1 (by simp)
                have tG := Touch.cell1 v2 w3.heap.size 1 (.int .u8 0)
                have TG := TF.setCell (p := ⟨w3.heap.size, 1, none⟩) (Or.inr hzo) (.int .u8 0)
                have hRG := hRF.set0 1 (.int .u8 0) (by simp)
                have hAG := hAF.to tG (fun y hy => by have := hbl y hy; simp; omega)
                have r0 : (v2.setCell ⟨w3.heap.size, 1, none⟩ (.int .u8 0)).cell? ⟨w3.heap.size, 0, none⟩ = some (u8v ({ x with b := 0 } : W4).a) := hRG.get 0 (by simp)
                have r1 : (v2.setCell ⟨w3.heap.size, 1, none⟩ (.int .u8 0)).cell? ⟨w3.heap.size, 1, none⟩ = some (u8v ({ x with b := 0 } : W4).b) := hRG.get 1 (by simp)
                have r2 : (v2.setCell ⟨w3.heap.size, 1, none⟩ (.int .u8 0)).cell? ⟨w3.heap.size, 2, none⟩ = some (u8v ({ x with b := 0 } : W4).c) := hRG.get 2 (by simp)
                have r3 : (v2.setCell ⟨w3.heap.size, 1, none⟩ (.int .u8 0)).cell? ⟨w3.heap.size, 3, none⟩ = some (u8v ({ x with b := 0 } : W4).d) := hRG.get 3 (by simp)
                have r4 : (v2.setCell ⟨w3.heap.size, 1, none⟩ (.int .u8 0)).cell? ⟨w3.heap.size, 4, none⟩ = some (.slice A n cap) := hRG.get 4 (by simp)
                have hjY := HM.out.2.1 at_ _ _ hj TG
                obtain ⟨fy, tmps, asg, bdy, hyr, hyR⟩ := HM.out.2.2.1 at_ _ A cap hjY hlt (by rw [HX.out]; exact HFR.out) (by rw [HX.out, HNX.out]; omega) (by rw [HX.out, HB.out]; exact hAG) (by rw [HX.out, HB.out, HBE.out]; intro h; obtain ⟨h1, h2⟩ := hnil h; exact ⟨by omega, h2⟩) (fun y hy => by have := hbl y hy; omega)
                rw [HX.out, HB.out, HBE.out, HNX.out, HH.out] at hyr
                rw [HX.out, HNX.out] at hyR
                go_upto_region 15 with (fail)
                refine (wpIn_wide (n := 1)).1 ?_
                gi_wp2_with fail
                refine hyR.mono ?_
                rintro e w9 (⟨rfl, hj9⟩ | ⟨rfl, hX9⟩)
                · gi_wp2_with fail
                  go_wp2_with fail
                  go_roundw
                  case rel => exact ⟨nx, rfl, by omega, hfit, hj9⟩
                  case measure => simp [intOf]; omega
                · gi_wp2_with fail
                  go_wp2_with fail
                  go_end0
                  exact ⟨rfl, .inr hX9⟩
        · have hfI : ((256 * count : Nat) : Int) < (nx : Int) := by omega
          obtain ⟨fy, tmps, asg, bdy, hyr, hyR⟩ := HM.out.2.2.2 at_ _ hj5 hlt (by rw [HX.out]; exact HFR.out) (by rw [HX.out, HNX.out]; omega)
          rw [HX.out] at hyr
          have r0 : w4.cell? ⟨w3.heap.size, 0, none⟩ = some (u8v x.a) := hR5.get 0 (by simp)
          have r1 : w4.cell? ⟨w3.heap.size, 1, none⟩ = some (u8v x.b) := hR5.get 1 (by simp)
          have r2 : w4.cell? ⟨w3.heap.size, 2, none⟩ = some (u8v x.c) := hR5.get 2 (by simp)
          have r3 : w4.cell? ⟨w3.heap.size, 3, none⟩ = some (u8v x.d) := hR5.get 3 (by simp)
          have r4 : w4.cell? ⟨w3.heap.size, 4, none⟩ = some (.slice none 0 0) := hR5.get 4 (by simp)
          go_upto_region 6 with (fail)
          refine (wpIn_wide (n := 1)).1 ?_
          gi_wp2_with fail
          refine hyR.mono ?_
          rintro e w7 ⟨⟨v, rfl⟩, hX⟩
          gi_wp2_with fail
          go_wp2_with fail
          go_end0
          exact ⟨rfl, .inr hX⟩
    · have hltI : ((256 * count : Nat) : Int) ≤ (at_ : Int) := by omega
      refine wp_region_legs (fun w' => J at_ w') [⟨[0, 1], some 2⟩, ⟨[3, 4, 5, 6, 8], some 7⟩, ⟨[], some 9⟩, ⟨[10], none⟩] (by kernel_rfl) (by kernel_rfl) ?_
      refine legs_onS ?_ hD (fun w' hSw => ?_) ?_ ?_
      rotate_left
      · have k0 := (HM.out.1 _ _ hSw).2.1.all
        simp only [pick, nthOp]
        go_wp2_with (refine wp_load_half (f := f) (first := first) (count := count) ?_ rfl rfl rfl ?_; (with_reducible exact k0))
        refine And.intro ?_ ?_ <;> rfl
      · kernel_rfl
      simp only [pick, nthOp]
      go_wp2_with fail
      refine (half_size _ f first count (by omega)).mono ?_
      rintro e w1 ⟨rfl, t1⟩
      have hj1 := HM.out.2.1 at_ _ _ hD t1
      go_wp2_with fail
      refine legs_nextS hj1 ?_
      refine legs_onS ?_ hj1 (fun w' hSw => ?_) ?_ ?_
      rotate_left
      · obtain ⟨k0, k1, k2⟩ := (HM.out.1 _ _ hSw).2.1.half3
        obtain ⟨g0, g1, g2, g3⟩ := free4 (HM.out.1 _ _ hSw).2.2.1
        simp only [pick, nthOp]
        go_wp2_with fail
        refine And.intro ?_ ?_ <;> rfl
      · kernel_rfl
      simp only [pick, nthOp]
      go_wp2_with fail
      refine legs_nextS hj1 ?_
      refine legs_onS ?_ hj1 (fun w' hSw => ?_) ?_ ?_
      rotate_left
      · simp only [pick, nthOp]; go_wp2_with fail; refine And.intro ?_ ?_ <;> rfl
      · kernel_rfl
      simp only [pick, nthOp]
      go_wp2_with fail
      refine legs_nextS hj1 ?_
      refine legs_rowS ?_ hj1 (fun w' hSw => ?_) ?_ ?_
      rotate_left
      · simp only [pick, nthOp]; go_wp2_with fail; refine And.intro ?_ ?_ <;> rfl
      · kernel_rfl
      refine legs_endS ?_
      go_wp2_with fail
      go_end0
      exact ⟨rfl, .inl ⟨at_, hj1, hle, .inl (by omega)⟩⟩
end Go.Proofs.YtdfgcenbkclpbaaDoor
