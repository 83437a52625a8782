/- The flash: Read; Open where nothing is opened. -/
import Derived.Test.YtdfgcenbkclpbaaDoorOpen
namespace Go.Proofs.YtdfgcenbkclpbaaDoor
open Go.RowKit
set_option linter.unusedSimpArgs false
set_option linter.unusedVariables false
theorem wordCells_extract {l : List W4} {k : Nat} {x : W4} (h : l[k]? = some x) : (wordCells l).toArray.extract (k * 4) (k * 4 + 4) = x.cells.toArray := by
  have hk := (List.getElem?_eq_some_iff.1 h).1
  apply Array.ext
  · simp only [Array.size_extract, List.size_toArray, wordCells_length]
    show _ = 4
    omega
  · intro i h1 h2
    have hi : i < 4 := h2
    simp only [Array.getElem_extract, List.getElem_toArray]
    have e := wordCells_at h (j := i) (v := x.cells[i]) (List.getElem?_eq_getElem h2)
    rw [show 4 * k + i = k * 4 + i by omega] at e
    exact (List.getElem?_eq_some_iff.1 e).2
theorem index_word {l : List W4} {k : Nat} {x : W4} (hl : l.length = 256) (h : l[k]? = some x) (w : World) : (Instr.index 63 (.agg (wordCells l).toArray) (.int .i64 k)).run Tryd.prog w = .ok x.val w := by
  have hk := (List.getElem?_eq_some_iff.1 h).1
  have hi : (Tryd.prog.info? 30).map (·.size) = some 4 := by kernel_rfl
  obtain ⟨i, hq, hs⟩ := Option.map_eq_some_iff.1 hi
  have hagg : (isAgg 30).run Tryd.prog w = .ok true w := by
    unfold isAgg
    rw [Sem.run_bind, run_underlying Tryd.underlying30 w]
    simp
  have hp : (part 30 (wordCells l).toArray (k * 4)).run Tryd.prog w = .ok x.val w := by
    have hso : (sizeOf 30).run Tryd.prog w = .ok 4 w := by simp [sizeOf, typeInfo, hq, hs]
    unfold part
    simp only [Sem.run_bind, hagg, Result.andThen_ok, if_true, hso, Sem.run_pure, wordCells_extract h]
    rfl
  unfold Instr.index
  have h1 : (0 : Int) ≤ (k : Int) ∧ (k : Int) < 256 := by omega
  simp [asIntOf, run_underlying Tryd.underlying63, sizeOf, typeInfo, hq, hs, h1, hp]
  omega
set_option maxRecDepth 100000 in
set_option maxHeartbeats 800000 in
theorem flash_read (w : World) (f s : Nat) (F : Fl) (i : Nat) (h : FlashAt w f s F) (ho : F.off = false) (hi : i < F.count) :
    Calls Tryd.prog 46 #[ptr f, .int .i64 i] w fun e w' => ∃ v, e = .returned (.tuple #[v, .int .i64 0]) ∧ w'.ownsRow w.heap.size 5 1 v 1024 ((F.bytesAt (256 * i) 256).map u8v) ∧ Touch [] w w' := by
  have hsz := h.size
  have h0 := h.h0
  have hiI : (i : Int) < (F.count : Int) := by omega
  have hl : ((F.mem.drop (256 * i)).take 256).length = 256 := by simp; omega
  have hr : w.rangeAt s (i * 1024) (wordCells ((F.mem.drop (256 * i)).take 256)) := by
    have := h.mem.range (i := 1024 * i) (cs := wordCells ((F.mem.drop (256 * i)).take 256)) fun j v hv => by
      rw [← wordCells_take, ← wordCells_drop, List.getElem?_take] at hv
      split at hv
      · rw [List.getElem?_drop] at hv
        rw [← hv]; congr 1; omega
      · cases hv
    rw [Nat.zero_add, Nat.mul_comm] at this
    exact this
  obtain ⟨ii, q1, q2, q3, q4⟩ := info_u8
  have hfew := h.few
  obtain ⟨l, hll⟩ : ∃ l, (F.mem.drop (256 * i)).take 256 = l := ⟨_, rfl⟩
  have hbs : ∀ k, F.bytesAt (256 * i) k = wordsBytes ((F.mem.drop (256 * i)).take k) := fun k => rfl
  have hbk : ∀ k, k ≤ 256 → wordsBytes (l.take k) = F.bytesAt (256 * i) k := fun k hk => by rw [← hll, List.take_take, Nat.min_eq_left hk]; rfl
  have HB := Lib.hid hbk
  rw [hll] at hl hr
  clear hll hbs hbk
  go_enter Tryd.func46, Tryd.ntmps46
  go_wp2_with (first | ((with_reducible refine (flash_at0 _ f s F i h ho hi).mono ?_); rintro e w1 ⟨rfl, hw1⟩; obtain rfl : w = w1 := hw1.symm) | (at_make; refine wpList_make_own _ rfl _ _ _ rfl w.heap.size 5 ii (.int .u8 0) 1 Tryd.underlying22 q1 q2 q3 .i64 .i64 1024 1024 rfl rfl rfl (by rw [q4]; omega) (by unfold maxLen; omega) (Nat.le_refl _) ?_))
  intro w2 hO hG
  have t2 := (Touch.refl [] w).grown hG (by simp)
  have h2 := h.to t2
  have h02 := h2.h0
  have hr2 : w2.rangeAt s (i * 1024) (wordCells l) := fun j v hv => t2.cell (hr j v hv) (by simp)
  go_wp2_with (refine wp_load_sector hr2 hl rfl rfl rfl ?_)
  clear h0 h02 hr hr2 h q1 q2 q3 q4 hG
  go_loopw [8, 28] (fun v8 v wr => ∃ k : Nat, k ≤ 256 ∧ v = .int .i64 k ∧ wr.ownsRow w.heap.size 5 1 v8 (4 * k) ((wordsBytes (l.take k)).map u8v) ∧ Touch [] w wr) (fun _ v _ => 256 - (intOf v).toNat)
  case atStart => exact ⟨0, by omega, rfl, by simpa [wordsBytes] using hO, t2⟩
  case round =>
    obtain ⟨k, hk, rfl, hX, hT⟩ := hrel
    by_cases hlt : k < 256
    · obtain ⟨x, hx⟩ : ∃ x, l[k]? = some x := ⟨_, List.getElem?_eq_getElem (by omega)⟩
      have hix := fun W => index_word hl hx W
      have hbs : wordsBytes (l.take (k + 1)) = wordsBytes (l.take k) ++ x.bytes := by
        rw [List.take_add_one, hx, wordsBytes_append]; simp [wordsBytes]
      have HBS := Lib.hid hbs
      have tY := Touch.one wr (.cells #[u8v x.a, u8v x.b, u8v x.c, u8v x.d] 30)
      have hXY := ownsRow_touch hX tY (by simp)
      have hTY := hT.trans tY
      have hY := (OwnAt.new wr #[u8v x.a, u8v x.b, u8v x.c, u8v x.d] 30).slice
      have hzY := hTY.size
      clear hbs hx
      go_wp2_with (at_builtin; refine wp_append_u8 w.heap.size u8 (4 * k) (wordsBytes (l.take k)) (some ⟨wr.heap.size, 0, none⟩) 4 4 x.bytes rfl rfl rfl rfl ?_ ?_ rfl (by simp) (by omega) ?_ ?_; exact hXY; exact hY; exact hzY)
      intro v' w' h1 h2 h3
      have hob := ownsRow_block hXY
      have hT3 := hTY.grown h2 (fun g hg => Or.inr (hob g hg))
      have hX3 : w'.ownsRow w.heap.size 5 1 v' (4 * (k + 1)) ((wordsBytes (l.take (k + 1))).map u8v) := by
        rw [HBS.out, List.map_append, show 4 * (k + 1) = 4 * k + 4 by omega]; simpa using h1
      clear h1 h2 h3 hob
      go_wp2_with fail
      go_roundw
      case rel => exact ⟨k + 1, by omega, by go_num, hX3, hT3⟩
      case measure => simp [intOf]; omega
    · have : k = 256 := by omega
      subst this
      go_wp2_with fail
      go_ret2
      rw [HB.out 256 (Nat.le_refl _)] at hX
      exact ⟨_, rfl, hX, hT⟩
set_option maxRecDepth 100000 in
theorem open_nil (w : World) (a b : Int) : Calls Tryd.prog 11 #[.pointer none, .int .i64 a, .int .i64 b] w fun e w' => e = .returned (.tuple #[.pointer none, .int .i64 1]) ∧ w' = w := by
  go_enter Tryd.func11, Tryd.ntmps11
  go_wp2_with fail
  go_ret2
  exact ⟨rfl, rfl⟩
set_option maxRecDepth 100000 in
theorem open_off (w : World) (f s : Nat) (F : Fl) (first count : Nat) (hF : FlashAt w f s F) (ho : F.off = true) (h2 : 2 ≤ count) (hc : first + count ≤ F.count) :
    Calls Tryd.prog 11 #[ptr f, .int .i64 first, .int .i64 count] w fun e w' => e = .returned (.tuple #[.pointer none, .int .i64 7]) ∧ w' = w := by
  have hfew := hF.few
  have e1 : ¬ ((first : Int) < 0) := by omega
  have e2 : (2 : Int) ≤ (count : Int) := by omega
  have e3 : (count : Int) ≤ (F.count : Int) := by omega
  have e4 : (first : Int) ≤ (F.count : Int) - (count : Int) := by omega
  have e5 : (F.count : Int) ≤ 64 := by omega
  go_enter Tryd.func11, Tryd.ntmps11
  go_wp2_with ((with_reducible refine (flash_sectors _ f s F hF).mono ?_); rintro e w1 ⟨rfl, rfl⟩)
  refine (flash_off _ f s F hF).mono ?_
  rintro e w2 ⟨rfl, rfl⟩
  rw [ho]
  go_wp2_with fail
  go_ret2
  exact ⟨rfl, rfl⟩
set_option maxRecDepth 100000 in
theorem open_arg (w : World) (f s : Nat) (F : Fl) (first count : Int) (hF : FlashAt w f s F) (h0 : -9223372036854775808 ≤ first) (h1 : first ≤ 9223372036854775807) (h2 : count ≤ 9223372036854775807) (hc : first < 0 ∨ count < 2 ∨ (F.count : Int) < count ∨ (F.count : Int) - count < first) :
    Calls Tryd.prog 11 #[ptr f, .int .i64 first, .int .i64 count] w fun e w' => e = .returned (.tuple #[.pointer none, .int .i64 2]) ∧ w' = w := by
  have hfew := hF.few
  have e5 : (F.count : Int) ≤ 64 := by omega
  by_cases c1 : first < 0
  · go_enter Tryd.func11, Tryd.ntmps11
    go_wp2_with fail
    go_ret2
    exact ⟨rfl, rfl⟩
  · have c1' : 0 ≤ first := by omega
    by_cases c2 : count < 2
    · go_enter Tryd.func11, Tryd.ntmps11
      go_wp2_with fail
      go_ret2
      exact ⟨rfl, rfl⟩
    · have c2' : 2 ≤ count := by omega
      by_cases c3 : (F.count : Int) < count
      · clear c1 c2 hc
        go_enter Tryd.func11, Tryd.ntmps11
        go_wp2_with ((with_reducible refine (flash_sectors _ f s F hF).mono ?_); rintro e w1 ⟨rfl, rfl⟩)
        go_ret2
        exact ⟨rfl, rfl⟩
      · have c3' : count ≤ (F.count : Int) := by omega
        have c4 : (F.count : Int) - count < first := by omega
        clear c1 c2 c3 hc
        go_enter Tryd.func11, Tryd.ntmps11
        go_wp2_with ((with_reducible refine (flash_sectors _ f s F hF).mono ?_); rintro e w1 ⟨rfl, rfl⟩)
        go_ret2
        exact ⟨rfl, rfl⟩
end Go.Proofs.YtdfgcenbkclpbaaDoor
