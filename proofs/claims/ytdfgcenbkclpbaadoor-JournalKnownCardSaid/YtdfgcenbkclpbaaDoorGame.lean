/- The laws' helpers: same, Op.bytes, begun. -/
import Derived.Test.YtdfgcenbkclpbaaDoorTells
namespace Go.Proofs.YtdfgcenbkclpbaaDoor
open Go.RowKit
set_option linter.unusedSimpArgs false
set_option linter.unusedVariables false
theorem same_any (w : World) (j f s m g count : Nat) (J : Jn) (M : List PSlot) (hJ : JnAt w j f s J) (hM : RefAt w m g M count) :
    Calls Tryd.prog 19 #[ptr j, ptr m] w fun e w' => e = .returned (.bool (decide (agreeP (J.slots.map Slot.p) M))) ∧ Touch [] w w' := by
  obtain ⟨d, hd⟩ : ∃ d, decide (agreeP (J.slots.map Slot.p) M) = d := ⟨_, rfl⟩
  have HD := Lib.hid hd
  rw [hd]
  clear hd
  go_enter Tryd.func19, Tryd.ntmps19
  go_wp2_with fail
  refine (tells_any _ j f s m g count J M hJ hM).mono ?_
  rintro e w1 ⟨rfl, t1⟩
  rw [HD.out]
  cases d with
  | false =>
    go_wp2_with fail
    go_ret
    exact ⟨rfl, t1⟩
  | true =>
    go_wp2_with fail
    refine (tells_any _ j f s m g count J M (hJ.to t1) (hM.to t1)).mono ?_
    rintro e w2 ⟨rfl, t2⟩
    rw [HD.out]
    go_wp2_with fail
    go_ret
    exact ⟨rfl, t1.to t2⟩
theorem ownsRow_base {w : World} {base base' : Nat} {e : TypeId} {size : Nat} {v : Value} {n : Nat} {xs : List Value} (h : w.ownsRow base e size v n xs) (hb : base' ≤ base) : w.ownsRow base' e size v n xs := by
  obtain ⟨h1, h2⟩ := h
  refine ⟨h1, ?_⟩
  rcases h2 with h2 | ⟨g, cap, cur, q1, q2, q3⟩
  · exact Or.inl h2
  · exact Or.inr ⟨g, cap, cur, q1, by omega, q3⟩
/-- a call that a law is to make -/
structure OpP where
  kind : Nat
  group : Nat
  b : List UInt8
  a : Option Addr
  cap : Nat
  more : Nat
def OpP.cells (x : OpP) : List Value := [.int .u8 x.kind, .int .u8 x.group, .slice x.a x.b.length x.cap, .int .u16 x.more]
abbrev OpP.val (x : OpP) : Value := .agg #[.int .u8 x.kind, .int .u8 x.group, .slice x.a x.b.length x.cap, .int .u16 x.more]
theorem opcells_len (x : OpP) : x.cells.length = 4 := rfl
/-- what lies behind a call's cells -/
structure OpOk (w : World) (x : OpP) : Prop where
  bytes : SliceAt w x.a (x.b.map u8v)
  nil : x.a = none → x.b.length = 0 ∧ x.cap = 0
  kind : x.kind < 256
  group : x.group < 256
  more : x.more < 65536
theorem OpOk.to {S : List Nat} {w w' : World} {x : OpP} (h : OpOk w x) (ht : Touch S w w') (hn : ∀ y, x.a = some y → y.block ∉ S := by first | (simp; done) | assumption) : OpOk w' x := ⟨h.bytes.touch ht hn, h.nil, h.kind, h.group, h.more⟩
/-- the bytes of a Store -/
def OpP.data (x : OpP) : List UInt8 := x.b ++ List.replicate (x.more % 5000) 7
theorem OpP.data_len (x : OpP) : x.data.length = x.b.length + x.more % 5000 := by simp [OpP.data]
set_option maxRecDepth 100000 in
set_option maxHeartbeats 1600000 in
theorem bytes_any (w : World) (x : OpP) (h : OpOk w x) (hb : x.b.length ≤ 100000) :
    Calls Tryd.prog 24 #[x.val] w fun e w' => ∃ v, e = .returned v ∧ w'.ownsRow w.heap.size 5 1 v x.data.length (x.data.map u8v) ∧ Touch [] w w' := by
  obtain ⟨kd, gr, b, a, cap, more⟩ := x
  have hm := h.more
  have hsl := h.bytes
  have hnil := h.nil
  simp only at hb hm hsl hnil
  have hk : kd < 256 := h.kind
  have hg : gr < 256 := h.group
  have tA := Touch.one w (.cells #[Value.int .u8 kd, .int .u8 gr, .slice a b.length cap, .int .u16 more] 45)
  have oA := OwnAt.new w #[Value.int .u8 kd, .int .u8 gr, .slice a b.length cap, .int .u16 more] 45
  have hs1 := hsl.to tA
  have c2 : (w.alloc (.cells #[Value.int .u8 kd, .int .u8 gr, .slice a b.length cap, .int .u16 more] 45)).cell? ⟨w.heap.size, 2, none⟩ = some (.slice a b.length cap) := oA.get 2 (by simp)
  have hO : (w.alloc (.cells #[Value.int .u8 kd, .int .u8 gr, .slice a b.length cap, .int .u16 more] 45)).ownsRow (w.heap.size + 1) 5 1 (.slice none 0 0) 0 (([] : List UInt8).map u8v) := World.ownsRow_nil _ _ _ _
  go_enter Tryd.func24, Tryd.ntmps24
  go_wp2_with (at_builtin; refine wp_append_u8 (w.heap.size + 1) _ 0 [] a b.length cap b rfl rfl rfl rfl ?_ ?_ rfl hnil (by omega) ?_ ?_; exact hO; exact hs1; simp)
  intro v' w2 h1 h2 h3
  have hob := ownsRow_block h1
  have T2 := tA.grown h2 (fun g hg => by cases hg)
  have oA2 := oA.keep (h2.block w.heap.size (oA.lt (by simp)) (fun e => by cases e))
  have h1' : w2.ownsRow (w.heap.size + 1) 5 1 v' b.length (b.map u8v) := by simpa using h1
  have hdl : ∀ k, b ++ List.replicate (k + 1) 7 = (b ++ List.replicate k 7) ++ [(7 : UInt8)] := fun k => by rw [List.replicate_succ', List.append_assoc]
  have HDL := Lib.hid hdl
  clear h1 h2 h3 oA c2 hO hs1 hdl tA
  obtain ⟨mm, hmm⟩ : ∃ mm, more % 5000 = mm := ⟨_, rfl⟩
  have hmmI : (more : Int) % 5000 = (mm : Int) := by omega
  have hml : mm < 5000 := by omega
  have HMM := Lib.hid hmm
  clear hmm
  go_wp2_with fail
  go_loopw [3, 4] (fun v3 v wr => ∃ k : Nat, k ≤ mm ∧ v = .int .i64 k ∧ wr.ownsRow (w.heap.size + 1) 5 1 v3 (b.length + k) ((b ++ List.replicate k 7).map u8v) ∧ OwnAt wr w.heap.size 0 [Value.int .u8 kd, .int .u8 gr, .slice a b.length cap, .int .u16 more] ∧ Touch [] w wr) (fun _ v _ => mm - (intOf v).toNat)
  case atStart => exact ⟨0, by omega, rfl, by simpa using h1', oA2, T2⟩
  case round =>
    obtain ⟨k, hk, rfl, hX, hO, hT⟩ := hrel
    have c3 : wr.cell? ⟨w.heap.size, 3, none⟩ = some (.int .u16 more) := hO.get 3 (by simp)
    by_cases hlt : k < mm
    · have hltI : (k : Int) < (mm : Int) := by omega
      have tY := Touch.one wr (.cells #[Value.int .u8 7] 5)
      have hXY := ownsRow_touch hX tY (by simp)
      have hTY := hT.to tY
      have hY := (OwnAt.new wr #[Value.int .u8 7] 5).slice
      have hzY := hTY.size
      have hz1 := hO.lt (by simp)
      have hOY := hO.to tY
      go_wp2_with (at_builtin; refine wp_append_u8 (w.heap.size + 1) u3 (b.length + k) (b ++ List.replicate k 7) (some ⟨wr.heap.size, 0, none⟩) 1 1 [7] rfl rfl rfl rfl ?_ ?_ rfl (by simp) (by omega) ?_ ?_; exact hXY; exact hY; exact (by simp; omega))
      intro v'' w' h1 h2 h3
      have hob := ownsRow_block hXY
      have hT3 := hTY.grown h2 (fun g hg => Or.inr (by have := hob g hg; omega))
      have hO3 := hOY.keep (h2.block w.heap.size (hOY.lt (by simp)) (fun e => by have := hob _ e.symm; omega))
      have hX3 : w'.ownsRow (w.heap.size + 1) 5 1 v'' (b.length + (k + 1)) ((b ++ List.replicate (k + 1) 7).map u8v) := by
        rw [HDL.out, ← Nat.add_assoc]; simpa using h1
      clear h1 h2 h3 hob
      go_wp2_with fail
      go_roundw
      case rel => exact ⟨k + 1, by omega, by go_num, hX3, hO3, hT3⟩
      case measure => simp [intOf]; omega
    · have : k = mm := by omega
      subst this
      go_wp2_with fail
      go_ret
      refine ⟨_, rfl, ?_, hT⟩
      rw [OpP.data_len]
      unfold OpP.data
      simp only [HMM.out]
      exact ownsRow_base hX (by omega)
end Go.Proofs.YtdfgcenbkclpbaaDoor
namespace Go.Proofs.YtdfgcenbkclpbaaDoor
open Go.RowKit
set_option linter.unusedSimpArgs false
set_option linter.unusedVariables false
/-- the sectors ahead and behind stand as begun -/
structure Apart (F : Fl) (count : Nat) : Prop where
  cnt : F.count = count + 2
  size : F.mem.length = 256 * F.count
  w0 : ∀ k, k < 256 → F.word k = if k = 9 then ⟨1, 2, 3, 4⟩ else W4.free
  w1 : ∀ k, k < 256 → F.word (256 * (count + 1) + k) = if k = 0 then ⟨5, 6, 7, 8⟩ else W4.free
theorem Apart.out {F G : Fl} {count n : Nat} (h : Apart F count) (o : Out F G 1 n) (hn : n ≤ count) : Apart G count :=
  ⟨o.count.trans h.cnt, by rw [o.size, o.count]; exact h.size, fun k hk => (o.out k (by omega)).trans (h.w0 k hk), fun k hk => (o.out _ (by omega)).trans (h.w1 k hk)⟩
theorem wordsBytes_get : ∀ (l : List W4) (i : Nat) (x : W4), l[i / 4]? = some x → (wordsBytes l)[i]? = x.bytes[i % 4]?
  | [], _, _, h => by simp at h
  | y :: l, i, x, h => by
    rw [show wordsBytes (y :: l) = y.bytes ++ wordsBytes l from rfl]
    have hl : y.bytes.length = 4 := rfl
    by_cases hi : i < 4
    · rw [List.getElem?_append_left (by omega)]
      rw [Nat.div_eq_of_lt hi] at h
      simp at h; subst h
      rw [Nat.mod_eq_of_lt hi]
    · rw [List.getElem?_append_right (by omega), hl]
      have := wordsBytes_get l (i - 4) x (by rw [show i / 4 = (i - 4) / 4 + 1 by omega] at h; simpa using h)
      rw [this, show (i - 4) % 4 = i % 4 by omega]
theorem Fl.bytesAt_get {F : Fl} {k n i : Nat} (h : k + n ≤ F.mem.length) (hi : i < 4 * n) : (F.bytesAt k n)[i]? = (F.word (k + i / 4)).bytes[i % 4]? := by
  unfold Fl.bytesAt
  refine wordsBytes_get _ _ _ ?_
  rw [List.getElem?_take, if_pos (by omega), List.getElem?_drop]
  exact F.word_at (by omega)
/-- the bytes ahead and behind -/
def aByte (i : Nat) : UInt8 := if 36 ≤ i ∧ i < 40 then UInt8.ofNat (i - 35) else 255
def bByte (i : Nat) : UInt8 := if i < 4 then UInt8.ofNat (i + 5) else 255
def abCount : Nat → Nat
  | 0 => 0
  | k + 1 => abCount k + (if aByte k = 255 then 0 else 1) + (if bByte k = 255 then 0 else 1)
theorem abCount_all : abCount 1024 = 8 := by decide +kernel
theorem abCount_le : ∀ k, abCount k ≤ 2 * k
  | 0 => Nat.le_refl _
  | k + 1 => by have := abCount_le k; unfold abCount; split <;> split <;> omega
theorem mod4 (i : Nat) : i % 4 = 0 ∨ i % 4 = 1 ∨ i % 4 = 2 ∨ i % 4 = 3 := by omega
theorem Apart.a {F : Fl} {count : Nat} (h : Apart F count) {i : Nat} (hi : i < 1024) : (F.bytesAt 0 256)[i]? = some (aByte i) := by
  have hs := h.size
  have hc := h.cnt
  rw [Fl.bytesAt_get (by omega) (by omega), Nat.zero_add, h.w0 _ (by omega)]
  unfold aByte
  by_cases h9 : i / 4 = 9
  · rw [if_pos h9, if_pos (by omega)]
    have : i = 36 ∨ i = 37 ∨ i = 38 ∨ i = 39 := by omega
    rcases this with rfl | rfl | rfl | rfl <;> rfl
  · rw [if_neg h9, if_neg (by omega)]
    rcases mod4 i with e | e | e | e <;> rw [e] <;> rfl
theorem Apart.b {F : Fl} {count : Nat} (h : Apart F count) {i : Nat} (hi : i < 1024) : (F.bytesAt (256 * (count + 1)) 256)[i]? = some (bByte i) := by
  have hs := h.size
  have hc := h.cnt
  rw [Fl.bytesAt_get (by omega) (by omega), h.w1 _ (by omega)]
  unfold bByte
  by_cases h9 : i / 4 = 0
  · rw [if_pos h9, if_pos (by omega)]
    have : i = 0 ∨ i = 1 ∨ i = 2 ∨ i = 3 := by omega
    rcases this with rfl | rfl | rfl | rfl <;> rfl
  · rw [if_neg h9, if_neg (by omega)]
    rcases mod4 i with e | e | e | e <;> rw [e] <;> rfl
set_option maxRecDepth 100000 in
set_option maxHeartbeats 3200000 in
theorem apart_any (w : World) (f s : Nat) (F : Fl) (count : Nat) (h : FlashAt w f s F) (hA : Apart F count) (ho : F.off = false) (hc : count ≤ 32) :
    Calls Tryd.prog 26 #[ptr f, .int .i64 count] w fun e w' => e = .returned (.bool true) ∧ Touch [] w w' := by
  have hcn := hA.cnt
  have ha := fun i (hi : i < 1024) => hA.a hi
  have hb := fun i (hi : i < 1024) => hA.b hi
  have hsz := hA.size
  have la := F.bytesAt_length 0 256 (by omega)
  have lb := F.bytesAt_length (256 * (count + 1)) 256 (by omega)
  have fr0 := fun (W : World) (hW : FlashAt W f s F) => flash_read W f s F 0 hW ho (by omega)
  have fr1 := fun (W : World) (hW : FlashAt W f s F) => flash_read W f s F (count + 1) hW ho (by omega)
  rw [Nat.mul_zero] at fr0
  generalize F.bytesAt 0 256 = a at *
  generalize F.bytesAt (256 * (count + 1)) 256 = b at *
  have hcI : (count : Int) ≤ 32 := by omega
  have H0 := Lib.hid ha
  have H1 := Lib.hid hb
  clear ha hb
  go_enter Tryd.func26, Tryd.ntmps26
  go_wp2_with fail
  refine (fr0 _ h).mono ?_
  rintro e w1 ⟨v, rfl, hv, t1⟩
  obtain ⟨A1, c1, rfl, hs1, _⟩ := ownsRow_slice' hv
  go_wp2_with fail
  have e1 : ((count : Int) + 1) = ((count + 1 : Nat) : Int) := by omega
  rw [e1]
  refine (fr1 _ (h.to t1)).mono ?_
  rintro e w2 ⟨v, rfl, hv2, t2⟩
  obtain ⟨A2, c2, rfl, hs2, _⟩ := ownsRow_slice' hv2
  have hs1' := hs1.to t2
  have T2 := t1.to t2
  clear fr0 fr1 hv hv2 e1
  go_wp2_with fail
  go_loopw [9, 10] (fun v9 v wr => ∃ k : Nat, k ≤ 1024 ∧ v = .int .i64 k ∧ v9 = .int .i64 (abCount k : Nat) ∧ Touch [] w2 wr) (fun _ v _ => 1024 - (intOf v).toNat)
  case atStart => exact ⟨0, by omega, rfl, rfl, Touch.refl _ _⟩
  case round =>
    obtain ⟨k, hk, rfl, rfl, hT⟩ := hrel
    by_cases hlt : k < 1024
    · have hltI : (k : Int) < 1024 := by omega
      obtain ⟨B1, o1, q1, d1⟩ := (hs1'.to hT).at_ k (by simp; omega)
      obtain ⟨B2, o2, q2, d2⟩ := (hs2.to hT).at_ k (by simp; omega)
      have g1 : a[k]'(by omega) = aByte k := (List.getElem?_eq_some_iff.1 (H0.out k hlt)).2
      have g2 : b[k]'(by omega) = bByte k := (List.getElem?_eq_some_iff.1 (H1.out k hlt)).2
      rw [List.getElem_map, g1] at d1
      rw [List.getElem_map, g2] at d2
      have hle := abCount_le k
      have hst : abCount (k + 1) = abCount k + (if aByte k = 255 then 0 else 1) + (if bByte k = 255 then 0 else 1) := rfl
      have HS := Lib.hid hst
      generalize abCount k = n at *
      generalize aByte k = x at *
      generalize bByte k = y at *
      have hnI : (n : Int) ≤ 2048 := by omega
      cases q1
      cases q2
      clear hst g1 g2 hs1 hs1' hs2
      by_cases ex : x = 255
      · by_cases ey : y = 255
        · have fx : ((x.toNat : Int) != 255) = false := by rw [ex]; rfl
          have fy : ((y.toNat : Int) != 255) = false := by rw [ey]; rfl
          have hX := Lib.hid ex
          have hY := Lib.hid ey
          clear ex ey
          have hst := HS.out
          rw [if_pos hX.out, if_pos hY.out] at hst
          have HR := Lib.hid hst
          clear hst
          go_wp2_with fail
          go_roundw
          case rel => exact ⟨k + 1, by omega, by go_num, by rw [HR.out]; go_num, hT⟩
          case measure => simp [intOf]; omega
        · have fx : ((x.toNat : Int) != 255) = false := by rw [ex]; rfl
          have fy : ((y.toNat : Int) != 255) = true := bne_iff_ne.2 fun e => ey (UInt8.toNat_inj.1 (by rw [show (255 : UInt8).toNat = 255 from rfl]; omega))
          have hX := Lib.hid ex
          have hY := Lib.hid ey
          clear ex ey
          have hst := HS.out
          rw [if_pos hX.out, if_neg hY.out] at hst
          have HR := Lib.hid hst
          clear hst
          go_wp2_with fail
          go_roundw
          case rel => exact ⟨k + 1, by omega, by go_num, by rw [HR.out]; go_num, hT⟩
          case measure => simp [intOf]; omega
      · by_cases ey : y = 255
        · have fx : ((x.toNat : Int) != 255) = true := bne_iff_ne.2 fun e => ex (UInt8.toNat_inj.1 (by rw [show (255 : UInt8).toNat = 255 from rfl]; omega))
          have fy : ((y.toNat : Int) != 255) = false := by rw [ey]; rfl
          have hX := Lib.hid ex
          have hY := Lib.hid ey
          clear ex ey
          have hst := HS.out
          rw [if_neg hX.out, if_pos hY.out] at hst
          have HR := Lib.hid hst
          clear hst
          go_wp2_with fail
          go_roundw
          case rel => exact ⟨k + 1, by omega, by go_num, by rw [HR.out]; go_num, hT⟩
          case measure => simp [intOf]; omega
        · have fx : ((x.toNat : Int) != 255) = true := bne_iff_ne.2 fun e => ex (UInt8.toNat_inj.1 (by rw [show (255 : UInt8).toNat = 255 from rfl]; omega))
          have fy : ((y.toNat : Int) != 255) = true := bne_iff_ne.2 fun e => ey (UInt8.toNat_inj.1 (by rw [show (255 : UInt8).toNat = 255 from rfl]; omega))
          have hX := Lib.hid ex
          have hY := Lib.hid ey
          clear ex ey
          have hst := HS.out
          rw [if_neg hX.out, if_neg hY.out] at hst
          have HR := Lib.hid hst
          clear hst
          go_wp2_with fail
          go_roundw
          case rel => exact ⟨k + 1, by omega, by go_num, by rw [HR.out]; go_num, hT⟩
          case measure => simp [intOf]; omega
    · have : k = 1024 := by omega
      subst this
      obtain ⟨B1, o1, q1, d1⟩ := (hs1'.to hT).at_ 36 (by simp; omega)
      obtain ⟨B2, o2, q2, d2⟩ := (hs2.to hT).at_ 3 (by simp; omega)
      have g1 : a[36]'(by omega) = aByte 36 := (List.getElem?_eq_some_iff.1 (H0.out 36 (by omega))).2
      have g2 : b[3]'(by omega) = bByte 3 := (List.getElem?_eq_some_iff.1 (H1.out 3 (by omega))).2
      rw [List.getElem_map, g1, show aByte 36 = 1 by decide] at d1
      rw [List.getElem_map, g2, show bByte 3 = 8 by decide] at d2
      have d1 : wr.cell? ⟨B1, o1 + 36, none⟩ = some (.int .u8 1) := d1
      have d2 : wr.cell? ⟨B2, o2 + 3, none⟩ = some (.int .u8 8) := d2
      cases q1
      cases q2
      rw [abCount_all]
      clear g1 g2 hs1 hs1' hs2
      go_wp2_with fail
      go_ret
      exact ⟨rfl, T2.to hT⟩
end Go.Proofs.YtdfgcenbkclpbaaDoor
namespace Go.Proofs.YtdfgcenbkclpbaaDoor
open Go.RowKit
set_option linter.unusedSimpArgs false
set_option linter.unusedVariables false
def begun0 (n : Nat) : Fl := ⟨List.replicate (256 * n) W4.free, n, false, 0, false, 0⟩
/-- a flash, begun -/
structure Begun (F : Fl) (count : Nat) : Prop where
  apart : Apart F count
  off : F.off = false
  armed : F.armed = false
  mid : ∀ k, 256 ≤ k → k < 256 * (count + 1) → F.word k = W4.free
theorem begun_flash (count : Nat) : ∃ F1 F2 : Fl, (begun0 (count + 2)).write (256 * 0 + 9) ⟨1, 2, 3, 4⟩ = (0, F1) ∧ F1.write (256 * (count + 1) + 0) ⟨5, 6, 7, 8⟩ = (0, F2) ∧ F1.off = false ∧ F1.count = count + 2 ∧ Begun F2 count := by
  have hw : ∀ k, k < 256 * (count + 2) → (begun0 (count + 2)).word k = W4.free := fun k hk => word_free hk _ _ _ _
  have hl : (begun0 (count + 2)).mem.length = 256 * (count + 2) := by simp [begun0]
  rcases Fl.write_free (F := begun0 (count + 2)) (k := 256 * 0 + 9) ⟨1, 2, 3, 4⟩ (hw _ (by omega)) (by omega) with ⟨a1, a2, hA⟩ | ⟨_, a2, _⟩
  · generalize (begun0 (count + 2)).write (256 * 0 + 9) ⟨1, 2, 3, 4⟩ = A at *
    have sA := hA.size
    have k1 : A.2.word (256 * (count + 1) + 0) = W4.free := by rw [hA.out _ (Or.inr (by show _ + 1 ≤ _; omega))]; exact hw _ (by omega)
    rcases Fl.write_free (F := A.2) (k := 256 * (count + 1) + 0) ⟨5, 6, 7, 8⟩ k1 (by omega) with ⟨b1, b2, hB⟩ | ⟨_, b2, _⟩
    · have ha : A.2.armed = false := hA.armed
      have hc : A.2.count = count + 2 := hA.count
      obtain ⟨B, hBe⟩ : ∃ B, A.2.write (256 * (count + 1) + 0) ⟨5, 6, 7, 8⟩ = B := ⟨_, rfl⟩
      rw [hBe] at b1 b2 hB
      have hcB := hB.count.trans hc
      have hsB := hB.size
      have hout : ∀ k, k ≠ 9 → k ≠ 256 * (count + 1) → k < 256 * (count + 2) → B.2.word k = W4.free := fun k h1 h2 h3 => by
        rw [hB.out k (by rw [List.length_singleton]; omega), hA.out k (by rw [List.length_singleton]; omega)]
        exact hw k h3
      refine ⟨A.2, B.2, Prod.ext a1 rfl, by rw [hBe]; exact Prod.ext b1 rfl, a2, hc, ⟨hcB, by rw [hsB, sA, hl, hcB], fun k hk => ?_, fun k hk => ?_⟩, b2.trans a2, hB.armed.trans ha, fun k h1 h2 => hout k (by omega) (by omega) (by omega)⟩
      · by_cases e : k = 9
        · subst e
          rw [if_pos rfl, hB.out 9 (by rw [List.length_singleton]; omega)]
          have := hA.inn 0 _ rfl
          simpa using this
        · rw [if_neg e]; exact hout k e (by omega) (by omega)
      · by_cases e : k = 0
        · subst e
          rw [if_pos rfl]
          have := hB.inn 0 _ rfl
          simpa using this
        · rw [if_neg e]; exact hout _ (by omega) (by omega) (by omega)
    · have : (begun0 (count + 2)).armed = true := by rw [← hA.armed]; exact b2
      cases this
  · cases a2
set_option maxRecDepth 100000 in
set_option maxHeartbeats 3200000 in
theorem begun_any (w : World) (count : Nat) (hc : count ≤ 32) :
    Calls Tryd.prog 21 #[.int .i64 count] w fun e w' => ∃ f s F, e = .returned (ptr f) ∧ w.heap.size ≤ f ∧ w.heap.size ≤ s ∧ FlashAt w' f s F ∧ Begun F count ∧ Touch [] w w' := by
  have hcI : (count : Int) ≤ 32 := by omega
  obtain ⟨F1, F2, x1, x2, x3, x4, hB⟩ := begun_flash count
  have X1 := Lib.hid x1
  have X2 := Lib.hid x2
  clear x1 x2
  have hnew := flash_new
  go_enter Tryd.func21, Tryd.ntmps21
  go_wp2_with fail
  have e2 : ((count : Int) + 2) = ((count + 2 : Nat) : Int) := by omega
  rw [e2]
  refine (hnew _ (count + 2) (by omega) (by omega)).mono ?_
  rintro e w1 ⟨f, s, rfl, hf, hs, hF, t1⟩
  have hF : FlashAt w1 f s (begun0 (count + 2)) := hF
  have hbc : (begun0 (count + 2)).count = count + 2 := rfl
  have hbo : (begun0 (count + 2)).off = false := rfl
  generalize begun0 (count + 2) = F0 at *
  clear hnew e2
  go_wp2_with fail
  refine (flash_write _ f s F0 0 9 ⟨1, 2, 3, 4⟩ hF hbo (by omega) (by omega)).mono ?_
  rintro e w2 ⟨rfl, hF1, t2⟩
  rw [X1.out] at hF1 ⊢
  have T2 := t1.to t2
  go_wp2_with fail
  have e3 : ((count : Int) + 1) = ((count + 1 : Nat) : Int) := by omega
  rw [e3]
  refine (flash_write _ f s F1 (count + 1) 0 ⟨5, 6, 7, 8⟩ hF1 x3 (by omega) (by omega)).mono ?_
  rintro e w3 ⟨rfl, hF2, t3⟩
  rw [X2.out] at hF2 ⊢
  have T3 := T2.to t3
  clear e3
  go_wp2_with fail
  go_ret
  exact ⟨f, s, F2, rfl, hf, hs, hF2, hB, T3⟩
end Go.Proofs.YtdfgcenbkclpbaaDoor
namespace Go.Proofs.YtdfgcenbkclpbaaDoor
open Go.RowKit
set_option linter.unusedSimpArgs false
set_option linter.unusedVariables false
/-- a row of calls -/
structure OpsAt (w : World) (A : Option Addr) (l : List OpP) : Prop where
  rows : SliceAt w A (rows OpP.cells l)
  each : ∀ x ∈ l, OpOk w x
  len : ∀ x ∈ l, x.b.length ≤ 140737488355328
theorem OpsAt.to {w w' : World} {A : Option Addr} {l : List OpP} (h : OpsAt w A l) (ht : Touch [] w w') : OpsAt w' A l := ⟨h.rows.to ht, fun x hx => (h.each x hx).to ht, h.len⟩
theorem OpsAt.at_ {w : World} {A : Option Addr} {l : List OpP} (h : OpsAt w A l) {k : Nat} {x : OpP} (hx : l[k]? = some x) : ∃ b off, A = some ⟨b, off, none⟩ ∧ w.cell? ⟨b, off + k * 4, none⟩ = some (.int .u8 x.kind) ∧ w.cell? ⟨b, off + k * 4 + 1, none⟩ = some (.int .u8 x.group) ∧ w.cell? ⟨b, off + k * 4 + 2, none⟩ = some (.slice x.a x.b.length x.cap) ∧ w.cell? ⟨b, off + k * 4 + 3, none⟩ = some (.int .u16 x.more) := by
  obtain ⟨b, off, rfl, hc⟩ := h.rows.row opcells_len hx (by omega)
  have h0 := hc 0 _ rfl
  have h1 := hc 1 _ rfl
  have h2 := hc 2 _ rfl
  have h3 := hc 3 _ rfl
  rw [Nat.mul_comm] at h0 h1 h2 h3
  exact ⟨b, off, rfl, h0, h1, h2, h3⟩
def sumB (l : List OpP) (k : Nat) : Nat := ((l.take k).map (·.b.length)).sum
theorem sumB_succ {l : List OpP} {k : Nat} {x : OpP} (h : l[k]? = some x) : sumB l (k + 1) = sumB l k + x.b.length := by
  unfold sumB; rw [List.take_add_one, h]; simp
theorem sumB_each {l : List OpP} {x : OpP} (h : x ∈ l) : x.b.length ≤ sumB l l.length := by
  unfold sumB
  rw [List.take_length]
  induction l with
  | nil => simp at h
  | cons y r ih =>
    rw [List.map_cons, List.sum_cons]
    rcases List.mem_cons.1 h with rfl | h
    · omega
    · have := ih h; omega
set_option maxRecDepth 100000 in
set_option maxHeartbeats 1600000 in
theorem large_any (w : World) (A : Option Addr) (c : Nat) (l : List OpP) (h : OpsAt w A l) (hl : l.length ≤ 9223372036854775807) :
    Calls Tryd.prog 15 #[.slice A l.length c] w fun e w' => ∃ r : Bool, e = .returned (.bool r) ∧ (r = false → l.length ≤ 60 ∧ ∀ x ∈ l, x.b.length ≤ 20000) ∧ Touch [] w w' := by
  have hlI : (l.length : Int) ≤ 9223372036854775807 := by omega
  go_enter Tryd.func15, Tryd.ntmps15
  go_wp2_with fail
  go_loopw [3, 4] (fun v3 v wr => ∃ k : Nat, k ≤ l.length ∧ v = .int .i64 k ∧ v3 = .int .i64 (sumB l k : Nat) ∧ sumB l k ≤ 140737488400000 ∧ Touch [] w wr) (fun _ v _ => l.length - (intOf v).toNat)
  case atStart => exact ⟨0, by omega, rfl, rfl, by simp [sumB], Touch.refl _ _⟩
  case round =>
    obtain ⟨k, hk, rfl, rfl, hs, hT⟩ := hrel
    by_cases hlt : k < l.length
    · have hltI : (k : Int) < (l.length : Int) := by omega
      obtain ⟨x, hx⟩ : ∃ x, l[k]? = some x := ⟨_, List.getElem?_eq_getElem hlt⟩
      have hxl := h.len x (List.mem_of_getElem? hx)
      obtain ⟨b, off, hA, c0, c1, c2, c3⟩ := (h.to hT).at_ hx
      have hst := sumB_succ hx
      have HS := Lib.hid hst
      have HK := Lib.hid (show sumB l k = sumB l k from rfl)
      obtain ⟨n, hn⟩ : ∃ n, sumB l k = n := ⟨_, rfl⟩
      rw [hn] at hs ⊢
      have HN := Lib.hid hn
      cases hA
      clear hst hn hx HK
      by_cases hbig : n ≤ 20000
      · have hbI : (n : Int) ≤ 20000 := by omega
        have hxI : (x.b.length : Int) ≤ 140737488355328 := by omega
        go_wp2_with fail
        go_roundw
        case rel => exact ⟨k + 1, by omega, by go_num, by rw [HS.out, HN.out]; go_num, by rw [HS.out, HN.out]; omega, hT⟩
        case measure => simp [intOf]; omega
      · have hbI : (20000 : Int) < (n : Int) := by omega
        by_cases h60 : 60 < l.length
        · have h60I : (60 : Int) < (l.length : Int) := by omega
          go_wp2_with fail
          go_ret
          exact ⟨true, rfl, by simp, hT⟩
        · have h60I : (l.length : Int) ≤ 60 := by omega
          go_wp2_with fail
          go_ret
          exact ⟨true, rfl, by simp, hT⟩
    · have : k = l.length := by omega
      subst this
      have hea := fun x (hx : x ∈ l) => sumB_each hx
      have HE := Lib.hid hea
      generalize sumB l l.length = n at *
      clear hea
      by_cases h60 : 60 < l.length
      · have h60I : (60 : Int) < (l.length : Int) := by omega
        go_wp2_with fail
        go_ret
        exact ⟨true, rfl, by simp, hT⟩
      · have h60I : (l.length : Int) ≤ 60 := by omega
        by_cases hbig : n ≤ 20000
        · have hbI : (n : Int) ≤ 20000 := by omega
          go_wp2_with fail
          go_ret
          exact ⟨_, rfl, fun _ => ⟨by omega, fun x hx => by have := HE.out x hx; omega⟩, hT⟩
        · have hbI : (20000 : Int) < (n : Int) := by omega
          go_wp2_with fail
          go_ret
          exact ⟨true, rfl, by simp, hT⟩
end Go.Proofs.YtdfgcenbkclpbaaDoor
namespace Go.Proofs.YtdfgcenbkclpbaaDoor
open Go.RowKit
set_option linter.unusedSimpArgs false
set_option linter.unusedVariables false
/-- THE GAME: journal j over flash f, s; the document's m, g tells the same groups -/
structure Play (w : World) (f s j m g count : Nat) (J : Jn) (F : Fl) : Prop where
  jn : JnAt w j f s J
  flash : FlashAt w f s F
  ref : RefAt w m g (J.slots.map Slot.p) count
  keeps : Keeps F 1 (count / 2) J
  cut : J.cut = false
  off : F.off = false
  apart : Apart F count
  diff : m ≠ f ∧ m ≠ s ∧ m ≠ j ∧ g ≠ f ∧ g ≠ s ∧ g ≠ j
theorem Play.to {w w' : World} {f s j m g count : Nat} {J : Jn} {F : Fl} (h : Play w f s j m g count J F) (ht : Touch [] w w') : Play w' f s j m g count J F :=
  ⟨h.jn.to ht, h.flash.to ht, h.ref.to ht, h.keeps, h.cut, h.off, h.apart, h.diff⟩
theorem two_half (count : Nat) : 2 * (count / 2) ≤ count := by omega
/-- a call was made of both -/
theorem Play.next {w w1 w2 : World} {f s j m g count : Nat} {J K : Jn} {F G : Fl} {P : List PSlot} (h : Play w f s j m g count J F) (hG : FlashAt w1 f s G) (hK : JnAt w1 j f s K) (t1 : Touch [f, s, j] w w1) (hd : Did F 1 (count / 2) P G K) (hR : RefAt w2 m g P count) (t2 : Touch [g] w1 w2) : Play w2 f s j m g count K G := by
  obtain ⟨d1, d2, d3, d4, d5, d6⟩ := h.diff
  have hr1 := h.ref.to t1 (by simp; omega)
  exact ⟨hK.beside hr1 ⟨d6, d4, d5⟩ t2, hG.to t2 (by simp; omega), by rw [hd.slots]; exact hR, hd.keeps, hd.cut, hd.off, h.apart.out hd.out (two_half count), h.diff⟩
theorem agreeP_self (P : List PSlot) : decide (agreeP P P) = true := decide_eq_true fun _ _ => rfl
theorem Play.same {w : World} {f s j m g count : Nat} {J : Jn} {F : Fl} (h : Play w f s j m g count J F) :
    Calls Tryd.prog 19 #[ptr j, ptr m] w fun e w' => e = .returned (.bool true) ∧ Touch [] w w' := by
  refine (same_any w j f s m g count J _ h.jn h.ref).mono ?_
  rintro e w' ⟨rfl, t⟩
  rw [agreeP_self]
  exact ⟨rfl, t⟩
end Go.Proofs.YtdfgcenbkclpbaaDoor
