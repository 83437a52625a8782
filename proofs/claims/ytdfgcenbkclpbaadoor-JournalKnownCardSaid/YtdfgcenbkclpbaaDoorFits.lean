/- Is there room in a journal? -/
import Derived.Test.YtdfgcenbkclpbaaDoorJnl
namespace Go.Proofs.YtdfgcenbkclpbaaDoor
open Go.RowKit
set_option linter.unusedSimpArgs false
set_option linter.unusedVariables false
def room (n : Nat) : Nat := 12 + (n + 3) / 4 * 4
/-- does the slot k count, where i is written anew? -/
def Slot.counts (x : Slot) (k i : Nat) : Bool := k != i && x.there && !x.marked
def usedUpto (l : List Slot) (i : Nat) : Nat → Nat
  | 0 => 0
  | k + 1 => usedUpto l i k + (match l[k]? with | some x => if x.counts k i then room x.b.length else 0 | none => 0)
def Jn.fits (J : Jn) (i n : Nat) : Bool := decide (16 + room n + usedUpto J.slots i 16 ≤ 1024 * J.count)
theorem room_le {n : Nat} (h : n ≤ 4096) : room n ≤ 4111 := by unfold room; omega
theorem usedUpto_le (l : List Slot) (i : Nat) (h : ∀ x ∈ l, x.b.length ≤ 4096) : ∀ k, usedUpto l i k ≤ 4111 * k
  | 0 => by simp [usedUpto]
  | k + 1 => by
    have := usedUpto_le l i h k
    unfold usedUpto
    split
    · rename_i x hx
      have := room_le (h x (List.mem_of_getElem? hx))
      split <;> omega
    · omega
theorem room_any' (w : World) (n : Nat) (hn : n ≤ 100000) : Calls Tryd.prog 67 #[.int .i64 n] w fun e w' => e = .returned (.int .i64 (room n : Nat)) ∧ w' = w := room_any w n hn
set_option maxRecDepth 100000 in
set_option maxHeartbeats 1600000 in
theorem fits_any (w : World) (j f s : Nat) (J : Jn) (i n : Nat) (h : JnAt w j f s J) (hi : i < 16) (hn : n ≤ 4096) :
    Calls Tryd.prog 58 #[ptr j, .int .i64 i, .int .i64 n] w fun e w' => e = .returned (.bool (J.fits i n)) ∧ Touch [] w w' := by
  have hc : w.cell? ⟨j, 2, none⟩ = some (.int .i64 J.count) := h.own.get 2 (by rw [Jn.cells_length]; omega)
  have hfew := h.few
  have hul := usedUpto_le J.slots i (fun x hx => (h.slots x hx).2.1)
  have hrn := room_le hn
  have hrnI : (room n : Int) ≤ 4111 := by omega
  have hrn0 : (0 : Int) ≤ (room n : Int) := by omega
  have hg : w.rangeAt j 8 (slotCells J.slots) := by
    have := h.own.range (i := 8) (cs := slotCells J.slots) (fun k v hv => by
      have hk := (List.getElem?_eq_some_iff.1 hv).1
      unfold Jn.cells
      rw [List.append_assoc, List.getElem?_append_right (by simp), List.getElem?_append_left (by simp; omega)]
      simpa using hv)
    rwa [Nat.zero_add] at this
  go_enter Tryd.func58, Tryd.ntmps58
  go_wp2_with fail
  refine wp_region_legs (fun w' => w'.cell? ⟨j, 2, none⟩ = some (.int .i64 J.count)) [⟨[0, 1, 2, 3, 4, 5, 6, 7, 8], some 9⟩, ⟨[10, 11], none⟩] (by kernel_rfl) (by kernel_rfl) ?_
  refine legs_onS ?_ (by simpa using hc) (fun w' hSw => ?_) ?_ ?_
  rotate_left
  · simp only [pick, nthOp]; go_wp2_with fail; refine And.intro ?_ ?_ <;> rfl
  · kernel_rfl
  simp only [pick, nthOp]
  go_wp2_with fail
  refine (room_any' _ n (by omega)).mono ?_
  rintro e w1 ⟨rfl, rfl⟩
  go_wp2_with fail
  refine legs_nextS (by simpa using hc) ?_
  refine legs_rowS ?_ (by simpa using hc) (fun w' hSw => ?_) ?_ ?_
  rotate_left
  · simp only [pick, nthOp]; go_wp2_with fail; refine And.intro ?_ ?_ <;> rfl
  · kernel_rfl
  refine legs_endS ?_
  have hgD : w.drew.rangeAt j 8 (slotCells J.slots) := by simpa using hg
  go_wp2_with (refine wp_load_groups ?_ h.sixteen rfl rfl rfl ?_; (with_reducible exact hgD))
  have hTD : Touch [] w w.drew := (Touch.refl _ _).drew
  go_loopw [8, 26] (fun v8 v wr => ∃ k : Nat, k ≤ 16 ∧ v = .int .i64 k ∧ v8 = .int .i64 ((J.count : Int) * 1024 - 16 - (room n : Int) - (usedUpto J.slots i k : Int)) ∧ Touch [] w wr) (fun _ v _ => 16 - (intOf v).toNat)
  case atStart => exact ⟨0, by omega, rfl, by simp [usedUpto], hTD⟩
  case round =>
    obtain ⟨k, hk, rfl, rfl, hT⟩ := hrel
    by_cases hlt : k < 16
    · obtain ⟨x, hx⟩ : ∃ x, J.slots[k]? = some x := ⟨_, List.getElem?_eq_getElem (by rw [h.sixteen]; exact hlt)⟩
      have hix := fun W => index_group h.sixteen hx W
      have hlen := (h.slots x (List.mem_of_getElem? hx)).2.1
      have hstep : usedUpto J.slots i (k + 1) = usedUpto J.slots i k + (if x.counts k i then room x.b.length else 0) := by
        rw [usedUpto, hx]
      have hul1 : (usedUpto J.slots i k : Int) ≤ 65776 := by have := hul k; omega
      have hul0 : (0 : Int) ≤ (usedUpto J.slots i k : Int) := by omega
      have HS := Lib.hid hstep
      have hrx := room_le hlen
      clear hstep hx
      have hTX : Touch [] w (wr.alloc (.cells #[.bool x.there, .bool x.marked, .slice x.a x.b.length x.cap] 78)) := hT.alloc _
      by_cases hc : x.counts k i = true
      · have hs2 := HS.out
        rw [if_pos hc] at hs2
        have hc' := hc
        unfold Slot.counts at hc'
        simp only [Bool.and_eq_true, bne_iff_ne, Bool.not_eq_true'] at hc'
        obtain ⟨⟨hki, hth⟩, hmk⟩ := hc'
        have hki' : ((k : Int) != (i : Int)) = true := bne_iff_ne.2 (by omega)
        have H2 := Lib.hid hs2
        clear hc hs2 HS
        rw [hth, hmk] at hTX
        obtain ⟨t, m, b, a, c⟩ := x
        simp only at hth hmk
        subst hth; subst hmk
        have hrxI : (room b.length : Int) ≤ 4111 := by have := hrx; simp only at this; omega
        go_wp2_with fail
        refine (room_any' _ b.length (by simpa using (by omega : b.length ≤ 100000))).mono ?_
        rintro e w2 ⟨rfl, rfl⟩
        go_wp2_with fail
        go_roundw
        case rel => exact ⟨k + 1, by omega, by go_num, by rw [H2.out]; congr 1; omega, hTX⟩
        case measure => simp [intOf]; omega
      · have hs2 := HS.out
        rw [if_neg hc] at hs2
        have H2 := Lib.hid hs2
        clear hs2 HS
        unfold Slot.counts at hc
        obtain ⟨t, m, b, a, c⟩ := x
        by_cases hki : k = i
        · have hki' : ((k : Int) != (i : Int)) = false := by rw [hki]; simp
          have hkk := Lib.hid hki
          clear hki hc
          go_wp2_with fail
          go_roundw
          case rel => exact ⟨k + 1, by omega, by go_num, by rw [H2.out]; simp, hTX⟩
          case measure => simp [intOf]; omega
        · have hki' : ((k : Int) != (i : Int)) = true := bne_iff_ne.2 (by omega)
          cases t with
          | false =>
            clear hc hki
            go_wp2_with fail
            go_roundw
            case rel => exact ⟨k + 1, by omega, by go_num, by rw [H2.out]; simp, hTX⟩
            case measure => simp [intOf]; omega
          | true =>
            cases m with
            | false => exact absurd (by simp [hki]) hc
            | true =>
              clear hc hki
              go_wp2_with fail
              go_roundw
              case rel => exact ⟨k + 1, by omega, by go_num, by rw [H2.out]; simp, hTX⟩
              case measure => simp [intOf]; omega
    · have : k = 16 := by omega
      subst this
      have hul1 : (usedUpto J.slots i 16 : Int) ≤ 65776 := by have := hul 16; omega
      have hfin : J.fits i n = decide ((usedUpto J.slots i 16 : Int) ≤ (J.count : Int) * 1024 - 16 - (room n : Int)) := by
        unfold Jn.fits
        rw [Bool.eq_iff_iff, decide_eq_true_iff, decide_eq_true_iff]; omega
      have HF := Lib.hid hfin
      clear hfin
      go_wp2_with fail
      go_ret
      rw [HF.out]
      exact ⟨rfl, hT⟩
end Go.Proofs.YtdfgcenbkclpbaaDoor
