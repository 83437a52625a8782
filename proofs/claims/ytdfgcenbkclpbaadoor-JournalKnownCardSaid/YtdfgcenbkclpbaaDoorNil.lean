/- Journals that are not there; a call amid which the power goes at once. -/
import Derived.Test.YtdfgcenbkclpbaaDoorTries
namespace Go.Proofs.YtdfgcenbkclpbaaDoor
open Go.RowKit
set_option linter.unusedSimpArgs false
set_option linter.unusedVariables false
theorem store_nil (w : World) : Calls Tryd.prog 13 #[.pointer none, .int .u8 0, .slice none 0 0] w fun e w' => e = .returned (.int .i64 1) ∧ w' = w := by
  go_enter Tryd.func13, Tryd.ntmps13
  go_wp2_with fail
  go_ret
  exact ⟨rfl, rfl⟩
theorem restore_nil (w : World) : Calls Tryd.prog 22 #[.pointer none, .int .u8 0] w fun e w' => e = .returned (.int .i64 1) ∧ w' = w := by
  go_enter Tryd.func22, Tryd.ntmps22
  go_wp2_with fail
  go_ret
  exact ⟨rfl, rfl⟩
theorem load_nil (w : World) : Calls Tryd.prog 14 #[.pointer none, .int .u8 0] w fun e w' => e = .returned (.tuple #[.slice none 0 0, .bool false]) ∧ w' = w := by
  go_enter Tryd.func14, Tryd.ntmps14
  go_wp2_with fail
  go_ret2
  exact ⟨rfl, rfl⟩
theorem groups_nil (w : World) : Calls Tryd.prog 12 #[.pointer none] w fun e w' => e = .returned (.slice none 0 0) ∧ w' = w := by
  go_enter Tryd.func12, Tryd.ntmps12
  go_wp2_with fail
  go_ret
  exact ⟨rfl, rfl⟩
theorem Fl.write_stops {F : Fl} {k : Nat} {y : W4} (h : F.stops = true) : (F.write k y).1 ≠ 0 := by
  unfold Fl.write
  rw [h]
  split <;> simp
theorem Fl.writes_stops {F : Fl} {k : Nat} {y : W4} {r : List W4} (h : F.stops = true) : (F.writes k (y :: r)).1 ≠ 0 := by
  rw [Fl.writes, if_neg (Fl.write_stops h)]
  exact Fl.write_stops h
theorem Fl.eraseAll_stops {F : Fl} {i n : Nat} (h : F.stops = true) (hn : 0 < n) : (F.eraseAll i n).1 ≠ 0 := by
  obtain ⟨m, rfl⟩ : ∃ m, n = m + 1 := ⟨n - 1, by omega⟩
  have e : (F.erase i).1 = 7 := by unfold Fl.erase; rw [if_pos h]
  rw [Fl.eraseAll, e, if_neg (by omega), e]
  omega
theorem set_stops {F : Fl} {J : Jn} {i : Nat} {x : Slot} (hs : F.stops = true) (hn : 0 < J.count) (hc : J.cut = false) (ho : F.off = false) (hf : x.live = true → J.fits i x.b.length = true) : (J.set F i x).1 ≠ 0 := by
  have hw : ∃ y r, x.words i = y :: r := by
    unfold Slot.words recWords
    split <;> exact ⟨_, _, rfl⟩
  obtain ⟨y, r, hw⟩ := hw
  by_cases hfit : J.next + (x.words i).length ≤ 256 * J.count
  · rw [Jn.set_fit hc ho hf hfit, hw, if_neg (Fl.writes_stops hs)]
    exact Fl.writes_stops hs
  · rw [Jn.set_turn rfl hc ho hf hfit]
    have e : (({ J with slots := J.slots.set i x } : Jn).turn F).1 ≠ 0 := by
      unfold Jn.turn
      rw [if_pos (Fl.eraseAll_stops hs hn)]
      exact Fl.eraseAll_stops hs hn
    rw [if_neg e]
    exact e
theorem store_stops (w : World) (j f s : Nat) (J : Jn) (F : Fl) (A h i : Nat) (hJ : JnAt w j f s J) (hF : FlashAt w f s F) (hi : i < 16) (hc : J.cut = false) (ho : F.off = false) (hs : F.stops = true) (hk : Keeps F A h J) (hfit : J.fits i 0 = true) :
    Calls Tryd.prog 13 #[ptr j, .int .u8 i, .slice none 0 0] w fun e w' => ∃ G K, e = .returned (.int .i64 7) ∧ FlashAt w' f s G ∧ JnAt w' j f s K ∧ Touch [f, s, j] w w' ∧ SetCut F A h J G K := by
  refine (store_any w j f s J F i [] none 0 hJ hF (by omega) (fun _ => ho) (by simp) (.nil _ _) (by simp) hk.ok).mono ?_
  rintro e w' ⟨a, c, _, rfl, hG, hK, ht⟩
  have hst : J.store F i [] a c = J.set F i ⟨true, false, [], a, c⟩ := by unfold Jn.store; rw [if_neg (by omega), if_neg (by simp)]
  rw [hst] at hG hK ⊢
  have hcn : 0 < J.count := by rw [hk.count]; exact hk.holds.pos
  have hne := set_stops (i := i) (x := ⟨true, false, [], a, c⟩) hs hcn hc ho (fun _ => hfit)
  rcases set_does (i := i) (x := ⟨true, false, [], a, c⟩) hk hc ho hi rfl (by simp) with ⟨_, _, _, e4⟩ | ⟨e1, _, _⟩ | ⟨e1, _, e3⟩
  · have e4 : J.fits i 0 = false := e4
    rw [e4] at hfit; cases hfit
  · exact absurd e1 hne
  · exact ⟨_, _, by rw [e1], hG, hK, ht, e3⟩
theorem refStore_small {P : List PSlot} {h i : Nat} {b : List UInt8} (hi : i < 16) (hb : b.length ≤ 4096) : refStore P h i b = if fitsP P h i b.length = false then (60, P) else (0, P.set i ⟨true, false, b⟩) := by
  unfold refStore; rw [if_neg (by omega), if_neg (by omega)]
/-- so many zeros -/
def zs (n : Nat) : Array Value := Array.replicate n (.int .u8 0)
def zb (n : Nat) : List UInt8 := List.replicate n 0
theorem zb_length (n : Nat) : (zb n).length = n := by simp [zb]
theorem zs_toList (n : Nat) : (zs n).toList = (zb n).map u8v := by
  unfold zs zb
  rw [Array.toList_replicate, List.map_replicate]
  rfl
theorem make_zs (n : Nat) (h : n ≤ 10000) (W : World) : (Instr.makeSlice 22 (.int .i64 n) (.int .i64 n)).run Tryd.prog W = .ok (.slice (some ⟨W.heap.size, 0, none⟩) n n) (W.alloc (.cells (zs n) 5)) := by
  have := run_make_row' (P := Tryd.prog) 22 5 (.int .u8 0) 1 Tryd.underlying22 (by kernel_rfl) rfl .i64 .i64 n (by omega) (by omega) W
  rw [show madeCells #[Value.int IntKind.u8 0] n = zs n from by rw [made_row]; rfl] at this
  exact this
end Go.Proofs.YtdfgcenbkclpbaaDoor
