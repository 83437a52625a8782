/- The flash: Erase, Cut, On. -/
import Derived.Test.YtdfgcenbkclpbaaDoorFlashW
namespace Go.Proofs.YtdfgcenbkclpbaaDoor
open Go.RowKit
set_option linter.unusedSimpArgs false
set_option linter.unusedVariables false
/-- a sector, filled from its begin on -/
def fillTo (k : Nat) : List W4 := List.replicate k W4.free ++ List.replicate (256 - k) W4.zero
theorem fillTo_length (k : Nat) (hk : k ≤ 256) : (fillTo k).length = 256 := by unfold fillTo; rw [List.length_append, List.length_replicate, List.length_replicate]; omega
theorem fillTo_zero : wordCells (fillTo 0) = List.replicate 1024 (Value.int .u8 0) := by
  have : ∀ n, wordCells (List.replicate n W4.zero) = List.replicate (4 * n) (Value.int .u8 0) := fun n => by
    induction n with
    | zero => rfl
    | succ n ih => rw [List.replicate_succ, wordCells_cons, ih, show 4 * (n + 1) = 4 * n + 1 + 1 + 1 + 1 by omega]; rfl
  exact this 256
theorem fillTo_set (k : Nat) (hk : k < 256) : (fillTo k).set k W4.free = fillTo (k + 1) := by
  unfold fillTo
  rw [List.set_append_right _ _ (by simp), List.length_replicate, Nat.sub_self, show 256 - k = (256 - (k + 1)) + 1 by omega, List.replicate_succ, List.set_cons_zero, List.replicate_succ', List.append_assoc, List.singleton_append]
/-- an erased sector -/
def blank : List W4 := List.replicate 256 W4.free
theorem blank_length : blank.length = 256 := List.length_replicate
theorem fillTo_full : fillTo 256 = blank := by unfold fillTo blank; rw [Nat.sub_self, List.replicate_zero, List.append_nil]
theorem wordCells_one (l : List W4) : (wordCells l).toArray.all (·.oneCell') = true := all_oneCell_toArray fun v hv => by
  unfold wordCells at hv
  obtain ⟨x, _, hx⟩ := List.mem_flatMap.1 hv
  simp [W4.cells] at hx
  rcases hx with rfl | rfl | rfl | rfl <;> rfl
theorem free_val : Value.agg #[.int .u8 255, .int .u8 255, .int .u8 255, .int .u8 255] = W4.free.val := rfl
/-- a sector's load and store -/
theorem wp_load_sector {ops : Array Oper} {rest : List Oper} {op : Oper} {a : Act} {w : World} {Q : Exit → Act → World → Prop} {x : Operand} {b o : Nat} {l : List W4} (hc : w.rangeAt b o (wordCells l)) (hl : l.length = 256) (hgd : op.guard = none) (ho : op.op = .load 63 x)
    (hx : a.eval x = .pointer (some ⟨b, o, none⟩)) (h : wpList Tryd.prog ops Q rest (a.put op.dst (.agg (wordCells l).toArray)) w) : wpList Tryd.prog ops Q (op :: rest) a w :=
  wpList_load_mid hgd 63 x ho b o hx (wordCells l) _ hc Tryd.underlying63 rfl (by rw [wordCells_length, hl]; kernel_rfl) h
theorem wp_store_sector {ops : Array Oper} {rest : List Oper} {op : Oper} {a : Act} {w : World} {Q : Exit → Act → World → Prop} {x z : Operand} {b o : Nat} {l : List W4} (hc : w.there b o 1024) (hl : l.length = 256) (hgd : op.guard = none) (ho : op.op = .store 63 x z)
    (hx : a.eval x = .pointer (some ⟨b, o, none⟩)) (hy : a.eval z = .agg (wordCells l).toArray) (h : wpList Tryd.prog ops Q rest (a.put op.dst undef) (w.setCells b o (wordCells l))) : wpList Tryd.prog ops Q (op :: rest) a w :=
  wpList_store_mid hgd 63 x z ho b o (wordCells l).toArray hx hy (by simpa [wordCells_length, hl] using hc) (by simp only [List.size_toArray]; rw [wordCells_length, hl]; kernel_rfl) (wordCells_one l) (by simpa using h)
set_option maxRecDepth 100000 in
set_option maxHeartbeats 400000 in
theorem erased_any (w : World) : Calls Tryd.prog 33 #[] w fun e w' => e = .returned (.agg (wordCells blank).toArray) ∧ Touch [] w w' := by
  go_enter Tryd.func33, Tryd.ntmps33
  go_wp2_with fail
  have hz : Tryd.zeroCells63 = (wordCells (fillTo 0)).toArray := by
    rw [fillTo_zero]; kernel_rfl
  rw [hz]
  have hX := OwnAt.new w (wordCells (fillTo 0)).toArray 63
  have hT := (Touch.refl [] w).alloc (.cells (wordCells (fillTo 0)).toArray 63)
  generalize w.alloc (.cells (wordCells (fillTo 0)).toArray 63) = W at *
  clear hz
  go_loopw [2] (fun v wr => ∃ k : Nat, k ≤ 256 ∧ v = .int .i64 k ∧ OwnAt wr w.heap.size 0 (wordCells (fillTo k)) ∧ Touch [] w wr) (fun v _ => 256 - (intOf v).toNat)
  case atStart => exact ⟨0, by omega, rfl, hX, hT⟩
  case round =>
    obtain ⟨k, hk, rfl, hX, hT⟩ := hrel
    by_cases hlt : k < 256
    · have hlen : (wordCells (fillTo k)).length = 1024 := by rw [wordCells_length, fillTo_length _ hk]
      have hth := hX.there (i := 4 * k) (n := 4) (by rw [hlen]; omega)
      rw [Nat.zero_add, Nat.mul_comm] at hth
      have hN := hX.setCells (4 * k) W4.free.cells (by rw [hlen, show W4.free.cells.length = 4 from rfl]; omega)
      rw [show W4.free.cells.length = 4 from rfl, wordCells_put _ _ _ (by rw [fillTo_length _ (by omega)]; omega), fillTo_set k hlt, Nat.zero_add] at hN
      go_wp2_with (refine wp_store_word (y := W4.free) (b := w.heap.size) (o := k * 4) ?_ rfl rfl rfl free_val ?_; (with_reducible exact hth))
      have hT2 := hT.setCells (b := w.heap.size) (Or.inr (Nat.le_refl _)) W4.free.cells (o := 4 * k)
      rw [Nat.mul_comm] at hN hT2
      go_roundw
      case rel => exact ⟨k + 1, by omega, by go_num, hN, hT2⟩
      case measure => simp [intOf]; omega
    · have : k = 256 := by omega
      subst this
      have hr := hX.all
      have hlen : (wordCells (fillTo 256)).length = 1024 := by rw [wordCells_length, fillTo_length _ hk]
      have hth := hX.there (i := 0) (n := 1024) (by rw [hlen]; omega)
      have hT2 := hT.setCells (b := w.heap.size) (Or.inr (Nat.le_refl _)) (wordCells (fillTo 256)) (o := 0)
      rw [fillTo_full] at hr hT2
      go_wp2_with (first | (refine wp_load_sector hr blank_length rfl rfl rfl ?_) | (refine wp_store_sector (l := blank) hth blank_length rfl rfl rfl rfl ?_))
      have hs := World.rangeAt_setCells_same wr w.heap.size 0 (wordCells blank) (by rw [wordCells_length, blank_length]; exact hth)
      exact ret_range hs rfl rfl Tryd.underlying63 rfl (by rw [wordCells_length, blank_length]; kernel_rfl) rfl ⟨rfl, hT2⟩
theorem wordCells_take (l : List W4) (n : Nat) : (wordCells l).take (4 * n) = wordCells (l.take n) := by
  induction l generalizing n with
  | nil => simp [wordCells]
  | cons x l ih =>
    cases n with
    | zero => simp [wordCells]
    | succ n => rw [List.take_succ_cons, wordCells_cons, wordCells_cons, ← ih, show 4 * (n + 1) = 4 * n + 1 + 1 + 1 + 1 by omega]; rfl
theorem wordCells_drop (l : List W4) (n : Nat) : (wordCells l).drop (4 * n) = wordCells (l.drop n) := by
  induction l generalizing n with
  | nil => simp [wordCells]
  | cons x l ih =>
    cases n with
    | zero => simp [wordCells]
    | succ n => rw [List.drop_succ_cons, wordCells_cons, ← ih, show 4 * (n + 1) = 4 * n + 1 + 1 + 1 + 1 by omega]; rfl
/-- the sector i is erased -/
def clearAt (l : List W4) (i : Nat) : List W4 := l.take (256 * i) ++ blank ++ l.drop (256 * i + 256)
theorem clearAt_length (l : List W4) (i : Nat) (h : 256 * i + 256 ≤ l.length) : (clearAt l i).length = l.length := by
  unfold clearAt
  rw [List.length_append, List.length_append, List.length_take, List.length_drop, blank_length]; omega
theorem FlashAt.clear {w : World} {f s : Nat} {F : Fl} (h : FlashAt w f s F) {i : Nat} (hi : i < F.count) : FlashAt (w.setCells s (1024 * i) (wordCells blank)) f s { F with mem := clearAt F.mem i } := by
  have hz := h.size
  refine ⟨by rw [clearAt_length _ _ (by omega)]; exact hz, h.few, h.pos, h.apart, h.head.others (fun e => h.apart e.symm) _, ?_⟩
  have := h.mem.setCells (1024 * i) (wordCells blank) (by rw [wordCells_length, wordCells_length, blank_length]; omega)
  rw [Nat.zero_add, wordCells_length, blank_length, show 1024 * i + 4 * 256 = 4 * (256 * i + 256) by omega, show 1024 * i = 4 * (256 * i) by omega, wordCells_take, wordCells_drop, ← wordCells_append, ← wordCells_append] at this
  rw [show 1024 * i = 4 * (256 * i) by omega]
  exact this
theorem FlashAt.thereS {w : World} {f s : Nat} {F : Fl} (h : FlashAt w f s F) {i : Nat} (hi : i < F.count) : w.there s (1024 * i) 1024 := by
  have hz := h.size
  have := h.mem.there (i := 1024 * i) (n := 1024) (by rw [wordCells_length]; omega)
  rwa [Nat.zero_add] at this
set_option maxRecDepth 100000 in
theorem erase_does (w : World) (cf ci f s i : Nat) (F : Fl) (h : FlashAt w f s F) (hi : i < F.count) (hcf : cf ≠ s) (hci : ci ≠ s) (hf : w.cell? ⟨cf, 0, none⟩ = some (ptr f)) (hc : w.cell? ⟨ci, 0, none⟩ = some (.int .i64 i)) :
    Calls Tryd.prog 68 #[ptr cf, ptr ci] w fun e w' => e = .returned (.tuple #[]) ∧ FlashAt w' f s { F with mem := clearAt F.mem i } ∧ Touch [s] w w' := by
  have hS : w.drew.cell? ⟨f, 0, none⟩ = some (.slice (some ⟨s, 0, none⟩) F.count F.count) ∧ w.drew.cell? ⟨cf, 0, none⟩ = some (ptr f) ∧ w.drew.cell? ⟨ci, 0, none⟩ = some (.int .i64 i) := ⟨h.drew.h0, by simpa using hf, by simpa using hc⟩
  have hi' : (i : Int) < (F.count : Int) := by omega
  have hfew := h.few
  have hD := h.drew
  have hap := h.apart
  clear h hf hc
  go_enter Tryd.func68, Tryd.ntmps68
  refine wp_region_legs (fun w' => w'.cell? ⟨f, 0, none⟩ = some (.slice (some ⟨s, 0, none⟩) F.count F.count) ∧ w'.cell? ⟨cf, 0, none⟩ = some (ptr f) ∧ w'.cell? ⟨ci, 0, none⟩ = some (.int .i64 i)) [⟨[0, 1, 2, 3, 4], some 5⟩, ⟨[6], some 7⟩] (by kernel_rfl) (by kernel_rfl) ?_
  refine legs_onS ?_ hS (fun w' hSw => ?_) ?_ ?_
  rotate_left
  · obtain ⟨h0, hA, hB⟩ := hSw
    simp only [pick, nthOp]; go_wp2_with fail; refine And.intro ?_ ?_ <;> rfl
  · kernel_rfl
  simp only [pick, nthOp]
  go_wp2_with fail
  refine (erased_any _).mono ?_
  rintro e w2 ⟨rfl, hT⟩
  have hS2 : w2.cell? ⟨f, 0, none⟩ = some (.slice (some ⟨s, 0, none⟩) F.count F.count) ∧ w2.cell? ⟨cf, 0, none⟩ = some (ptr f) ∧ w2.cell? ⟨ci, 0, none⟩ = some (.int .i64 i) := ⟨hT.cell hS.1 (by simp), hT.cell hS.2.1 (by simp), hT.cell hS.2.2 (by simp)⟩
  have hD2 := hD.touch hT (by simp) (by simp)
  have hth := hD2.thereS hi
  have hcl := hD2.clear hi
  have hT2 : Touch [s] w (w2.setCells s (1024 * i) (wordCells blank)) := ((hT.mono (by simp)).undrew).setCells (by simp) _
  have hS3 : (w2.setCells s (1024 * i) (wordCells blank)).cell? ⟨f, 0, none⟩ = some (.slice (some ⟨s, 0, none⟩) F.count F.count) ∧ (w2.setCells s (1024 * i) (wordCells blank)).cell? ⟨cf, 0, none⟩ = some (ptr f) ∧ (w2.setCells s (1024 * i) (wordCells blank)).cell? ⟨ci, 0, none⟩ = some (.int .i64 i) := by
    refine ⟨?_, ?_, ?_⟩
    · rw [World.cell?_setCells_out _ _ _ _ _ (fun e => absurd e hap)]; exact hS2.1
    · rw [World.cell?_setCells_out _ _ _ _ _ (fun e => absurd e hcf)]; exact hS2.2.1
    · rw [World.cell?_setCells_out _ _ _ _ _ (fun e => absurd e hci)]; exact hS2.2.2
  go_wp2_with fail
  refine legs_nextS hS2 ?_
  refine legs_onS ?_ hS2 (fun w' hSw => ?_) ?_ ?_
  rotate_left
  · obtain ⟨h0, hA, hB⟩ := hSw
    simp only [pick, nthOp]; go_wp2_with fail; refine And.intro ?_ ?_ <;> rfl
  · kernel_rfl
  simp only [pick, nthOp]
  rw [Nat.mul_comm] at hth hcl hT2 hS3
  go_wp2_with (refine wp_store_sector (l := blank) (b := s) (o := i * 1024) ?_ blank_length rfl rfl rfl rfl ?_; (with_reducible exact hth))
  refine legs_nextS hS3 ?_
  refine legs_endS ?_
  go_wp2_with fail
  go_end0
  exact ⟨rfl, hcl, hT2⟩
theorem step_erase_cut (w : World) (f s : Nat) (F : Fl) (c : Array Value) (h : FlashAt w f s F) (hs : F.stops = true) :
    Calls Tryd.prog 35 #[ptr f, .func (.func 68) #[] c] w fun e w' => e = .returned (.int .i64 7) ∧ FlashAt w' f s { F with off := true } ∧ Touch [f] w w' := by
  have h1 := h.h1
  have h2 := h.h2
  have h3 := h.h3
  have hf := h.free 3 (by omega)
  have ha : F.armed = true := by unfold Fl.stops at hs; simp at hs; exact hs.1
  have hl : F.left = 0 := by unfold Fl.stops at hs; simp at hs; exact hs.2
  rw [ha] at h1
  rw [hl] at h2
  clear ha hl hs
  go_enter Tryd.func35, Tryd.ntmps35
  go_wp2_with fail
  go_ret
  exact ⟨rfl, h.setOff true, (Touch.refl _ _).setCell (by simp) _⟩
theorem step_erase (w : World) (f s : Nat) (F : Fl) (cf ci i : Nat) (h : FlashAt w f s F) (hs : F.stops = false) (hi : i < F.count) (hcf : cf ≠ s) (hci : ci ≠ s) (hcf' : cf ≠ f) (hci' : ci ≠ f) (hf : w.cell? ⟨cf, 0, none⟩ = some (ptr f)) (hc : w.cell? ⟨ci, 0, none⟩ = some (.int .i64 i)) :
    Calls Tryd.prog 35 #[ptr f, .func (.func 68) #[] #[ptr cf, ptr ci]] w fun e w' => e = .returned (.int .i64 0) ∧ FlashAt w' f s { F.went with mem := clearAt F.mem i } ∧ Touch [f, s] w w' := by
  have h1 := h.h1
  have h2 := h.h2
  have h4 := h.h4
  have hf2 := h.free 2 (by omega)
  have hf4 := h.free 4 (by omega)
  have hL := (h.setLeft (wrap64 (F.left - 1))).setSteps (wrap64 (F.steps + 1))
  have hT : Touch [f, s] w ((w.setCell ⟨f, 2, none⟩ (.int .i64 (wrap64 (F.left - 1)))).setCell ⟨f, 4, none⟩ (.int .i64 (wrap64 (F.steps + 1)))) := ((Touch.refl _ _).setCell (by simp) _).setCell (by simp) _
  have hfx : ((w.setCell ⟨f, 2, none⟩ (.int .i64 (wrap64 (F.left - 1)))).setCell ⟨f, 4, none⟩ (.int .i64 (wrap64 (F.steps + 1)))).cell? ⟨cf, 0, none⟩ = some (ptr f) := by
    rw [World.cell?_setCell_other _ _ _ _ (by intro e; injection e with e; exact hcf' e.symm), World.cell?_setCell_other _ _ _ _ (by intro e; injection e with e; exact hcf' e.symm)]; exact hf
  have hcx : ((w.setCell ⟨f, 2, none⟩ (.int .i64 (wrap64 (F.left - 1)))).setCell ⟨f, 4, none⟩ (.int .i64 (wrap64 (F.steps + 1)))).cell? ⟨ci, 0, none⟩ = some (.int .i64 i) := by
    rw [World.cell?_setCell_other _ _ _ _ (by intro e; injection e with e; exact hci' e.symm), World.cell?_setCell_other _ _ _ _ (by intro e; injection e with e; exact hci' e.symm)]; exact hc
  have hs' : (F.armed = true → (F.left == 0) = false) := by unfold Fl.stops at hs; simpa using hs
  clear hs hf hc
  go_enter Tryd.func35, Tryd.ntmps35
  cases ha : F.armed with
  | true =>
    rw [ha] at h1 hs'
    have hl := hs' rfl
    clear hs'
    go_wp2_with fail
    refine (erase_does _ cf ci f s i _ hL hi hcf hci hfx hcx).mono ?_
    rintro e w1 ⟨rfl, hE, hT2⟩
    go_wp2_with fail
    go_ret
    exact ⟨rfl, by simpa [ha, Fl.went] using hE, hT.trans (hT2.mono (by simp))⟩
  | false =>
    rw [ha] at h1
    clear hs'
    go_wp2_with fail
    refine (erase_does _ cf ci f s i _ hL hi hcf hci hfx hcx).mono ?_
    rintro e w1 ⟨rfl, hE, hT2⟩
    go_wp2_with fail
    go_ret
    exact ⟨rfl, by simpa [ha, Fl.went] using hE, hT.trans (hT2.mono (by simp))⟩
theorem flash_at0 (w : World) (f s : Nat) (F : Fl) (i : Nat) (h : FlashAt w f s F) (ho : F.off = false) (hi : i < F.count) :
    Calls Tryd.prog 34 #[ptr f, .int .i64 i, .int .i64 0] w fun e w' => e = .returned (.tuple #[.pointer (some ⟨s, 4 * (256 * i), none⟩), .int .i64 0]) ∧ w' = w := flash_at w f s F i 0 h ho hi (by omega)
/-- what Erase comes to -/
def Fl.erase (F : Fl) (i : Nat) : Int × Fl :=
  if F.stops then (7, { F with off := true }) else (0, { F.went with mem := clearAt F.mem i })
set_option maxRecDepth 100000 in
theorem flash_erase (w : World) (f s : Nat) (F : Fl) (i : Nat) (h : FlashAt w f s F) (ho : F.off = false) (hi : i < F.count) :
    Calls Tryd.prog 63 #[ptr f, .int .i64 i] w fun e w' => e = .returned (.int .i64 (F.erase i).1) ∧ FlashAt w' f s (F.erase i).2 ∧ Touch [f, s] w w' := by
  have hfl := h.flt
  have hsl := h.slt
  have hA := (h.alloc (.cells #[ptr f] 24)).alloc (.cells #[.int .i64 i] 3)
  have hT := ((Touch.refl [f, s] w).alloc (.cells #[ptr f] 24)).alloc (.cells #[.int .i64 i] 3)
  have c1 := ((OwnAt.new w #[ptr f] 24).alloc (.cells #[.int .i64 i] 3)).get 0 (by simp)
  have c2 := (OwnAt.new' (w.alloc (.cells #[ptr f] 24)) #[.int .i64 (i : Int)] 3 (g := w.heap.size + 1) (by simp)).get 0 (by simp)
  go_enter Tryd.func63, Tryd.ntmps63
  simp only [List.getElem_cons_zero, Nat.zero_add] at c1 c2
  go_wp2_with ((with_reducible refine (flash_at0 _ f s F i ?_ ho hi).mono ?_); (exact hA); rintro e w1 ⟨rfl, rfl⟩)
  cases hst : F.stops with
  | true =>
    refine (step_erase_cut _ f s F _ hA hst).mono ?_
    rintro e w2 ⟨rfl, hF2, hT2⟩
    go_wp2_with fail
    go_ret
    simp only [Fl.erase, hst, if_true]
    exact ⟨rfl, hF2, hT.trans (hT2.mono (by simp))⟩
  | false =>
    refine (step_erase _ f s F w.heap.size (w.heap.size + 1) i hA hst hi (by omega) (by omega) (by omega) (by omega) c1 c2).mono ?_
    rintro e w2 ⟨rfl, hF2, hT2⟩
    go_wp2_with fail
    go_ret
    simp only [Fl.erase, hst]
    exact ⟨rfl, hF2, hT.trans hT2⟩
/-- Cut, On -/
theorem flash_cut (w : World) (f s : Nat) (F : Fl) (n : Int) (h : FlashAt w f s F) :
    Calls Tryd.prog 27 #[ptr f, .int .i64 n] w fun e w' => e = .returned (.tuple #[]) ∧ FlashAt w' f s { F with armed := decide (0 ≤ n), left := n } ∧ Touch [f] w w' := by
  have h1 := h.h1
  have h2 := h.h2
  have hf1 := h.free 1 (by omega)
  have hf2 := h.free 2 (by omega)
  have hN := (h.setArmed (decide (0 ≤ n))).setLeft n
  have hT : Touch [f] w ((w.setCell ⟨f, 1, none⟩ (.bool (decide (0 ≤ n)))).setCell ⟨f, 2, none⟩ (.int .i64 n)) := ((Touch.refl _ _).setCell (by simp) _).setCell (by simp) _
  go_enter Tryd.func27, Tryd.ntmps27
  go_wp2_with fail
  go_end0
  exact ⟨rfl, hN, hT⟩
theorem flash_on (w : World) (f s : Nat) (F : Fl) (h : FlashAt w f s F) :
    Calls Tryd.prog 29 #[ptr f] w fun e w' => e = .returned (.tuple #[]) ∧ FlashAt w' f s { F with off := false, armed := false } ∧ Touch [f] w w' := by
  have h1 := h.h1
  have h3 := h.h3
  have hf1 := h.free 1 (by omega)
  have hf3 := h.free 3 (by omega)
  have hN := (h.setOff false).setArmed false
  have hT : Touch [f] w ((w.setCell ⟨f, 3, none⟩ (.bool false)).setCell ⟨f, 1, none⟩ (.bool false)) := ((Touch.refl _ _).setCell (by simp) _).setCell (by simp) _
  go_enter Tryd.func29, Tryd.ntmps29
  go_wp2_with fail
  go_end0
  exact ⟨rfl, hN, hT⟩
end Go.Proofs.YtdfgcenbkclpbaaDoor
