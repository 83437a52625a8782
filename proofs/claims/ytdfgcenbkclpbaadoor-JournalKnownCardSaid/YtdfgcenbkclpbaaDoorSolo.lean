/- One journal, called without a power that goes. -/
import Derived.Test.YtdfgcenbkclpbaaDoorNil
import Derived.Test.YtdfgcenbkclpbaaDoorDuo
namespace Go.Proofs.YtdfgcenbkclpbaaDoor
open Go.RowKit
set_option linter.unusedSimpArgs false
set_option linter.unusedVariables false
structure Solo (w : World) (f s j : Nat) (P : List PSlot) (F : Fl) : Prop where
  jn : ∃ J, JnAt w j f s J ∧ Keeps F 0 1 J ∧ J.slots.map Slot.p = P ∧ J.cut = false
  flash : FlashAt w f s F
  off : F.off = false
  armed : F.armed = false
  cnt : F.count = 4
theorem Solo.to {w w' : World} {f s j : Nat} {P : List PSlot} {F : Fl} (h : Solo w f s j P F) (t : Touch [] w w') : Solo w' f s j P F := by
  obtain ⟨J, a, b, c, d⟩ := h.jn
  exact ⟨⟨J, a.to t, b, c, d⟩, h.flash.to t, h.off, h.armed, h.cnt⟩
theorem Solo.lt {w : World} {f s j : Nat} {P : List PSlot} {F : Fl} (h : Solo w f s j P F) : j < w.heap.size ∧ f < w.heap.size ∧ s < w.heap.size := by
  obtain ⟨J, a, b, c, d⟩ := h.jn
  exact ⟨a.lt, h.flash.flt, h.flash.slt⟩
theorem solo_done {w w' : World} {f s j : Nat} {P : List PSlot} {F : Fl} {J : Jn} {e : Ending} {r : Int × List PSlot} (h : Solo w f s j P F) (ha : Answer w j f s F 0 1 J r e w') : ∃ G, e = .returned (.int .i64 r.1) ∧ Solo w' f s j r.2 G ∧ Touch [f, s, j] w w' := by
  obtain ⟨code, G, K, rfl, hG, hK, t, _, ⟨rfl, hd⟩ | ⟨_, _, hd⟩⟩ := ha
  · exact ⟨G, rfl, ⟨⟨K, hK, hd.keeps, hd.slots, hd.cut⟩, hG, hd.off, hd.out.armed.trans h.armed, hd.out.count.trans h.cnt⟩, t⟩
  · have := hd.armed
    rw [h.armed] at this; cases this
theorem solo_store (w : World) (f s j : Nat) (P : List PSlot) (F : Fl) (i : Nat) (b : List UInt8) (a : Option Addr) (n c : Nat) (h : Solo w f s j P F) (hi : i < 256) (hn : b.length = n) (hb : n ≤ 100000) (hA : SliceAt w a (b.map u8v)) (hnil : a = none → b.length = 0 ∧ c = 0) :
    Calls Tryd.prog 13 #[ptr j, .int .u8 i, .slice a n c] w fun e w' => ∃ G, e = .returned (.int .i64 (refStore P 1 i b).1) ∧ Solo w' f s j (refStore P 1 i b).2 G ∧ Touch [f, s, j] w w' := by
  subst hn
  obtain ⟨J, hJ, hk, rfl, hc⟩ := h.jn
  exact (store_does w j f s J F 0 1 i b a c hJ h.flash hi hc h.off (by omega) hA hnil hk).mono fun e w' ha => solo_done h ha
theorem solo_restore (w : World) (f s j : Nat) (P : List PSlot) (F : Fl) (i : Nat) (h : Solo w f s j P F) (hi : i < 256) :
    Calls Tryd.prog 22 #[ptr j, .int .u8 i] w fun e w' => ∃ G, e = .returned (.int .i64 (refRestore P i).1) ∧ Solo w' f s j (refRestore P i).2 G ∧ Touch [f, s, j] w w' := by
  obtain ⟨J, hJ, hk, rfl, hc⟩ := h.jn
  exact (restore_does w j f s J F 0 1 i hJ h.flash hi hc h.off hk).mono fun e w' ha => solo_done h ha
theorem solo_load (w : World) (f s j : Nat) (P : List PSlot) (F : Fl) (i : Nat) (h : Solo w f s j P F) (hi : i < 256) :
    Calls Tryd.prog 14 #[ptr j, .int .u8 i] w fun e w' => ∃ A cap, e = .returned (.tuple #[.slice A (loadP P i).2.length cap, .bool (loadP P i).1]) ∧ SliceAt w' A ((loadP P i).2.map u8v) ∧ (∀ y, A = some y → w.heap.size ≤ y.block) ∧ Touch [] w w' := by
  obtain ⟨J, hJ, hk, hP, hc⟩ := h.jn
  refine (load_p w j f s J i P hJ hP hi).mono ?_
  rintro e w' ⟨A, cap, rfl, ho, ht⟩
  obtain ⟨A', cap', e', hs, _, _, hbl⟩ := ownsRow_slice' ho
  injection e' with e1 e2 e3
  subst e1
  exact ⟨A, cap, rfl, hs, hbl, ht⟩
theorem solo_groups (w : World) (f s j : Nat) (P : List PSlot) (F : Fl) (h : Solo w f s j P F) :
    Calls Tryd.prog 12 #[ptr j] w fun e w' => ∃ A cap, e = .returned (.slice A (thereP P 0).length cap) ∧ SliceAt w' A ((thereP P 0).map u8v) ∧ Touch [] w w' := by
  obtain ⟨J, hJ, hk, hP, hc⟩ := h.jn
  refine (groups_any w j f s J hJ).mono ?_
  rintro e w' ⟨v, rfl, ho, ht⟩
  rw [there_p, hP] at ho
  obtain ⟨A', cap', rfl, hs, _, _, hbl⟩ := ownsRow_slice' ho
  exact ⟨A', cap', rfl, hs, ht⟩
theorem solo_open (w : World) (f s j : Nat) (P : List PSlot) (F : Fl) (h : Solo w f s j P F) (hg : w.rangeAt 0 0 W4.free.cells) (hz : f ≠ 0 ∧ s ≠ 0) :
    Calls Tryd.prog 11 #[ptr f, .int .i64 0, .int .i64 2] w fun e w' => ∃ k, e = .returned (.tuple #[ptr k, .int .i64 0]) ∧ w.heap.size ≤ k ∧ Solo w' f s k (opened P) F ∧ Touch [] w w' := by
  obtain ⟨J, hJ, hk, rfl, hc⟩ := h.jn
  have hcn := h.cnt
  refine (open_held w f s F 0 2 _ _ _ _ _ hk.holds h.flash h.off hg hz (by omega) (by omega)).mono ?_
  rintro e w' ⟨k, K, rfl, hO, hP, ht⟩
  exact ⟨k, rfl, hO.fresh, ⟨⟨K, hO.jn, hO.keeps, hP, hO.cut⟩, hO.flash, h.off, h.armed, h.cnt⟩, ht⟩
/-- another journal is opened, behind -/
theorem solo_other (w : World) (f s j : Nat) (P : List PSlot) (F : Fl) (h : Solo w f s j P F) (hg : w.rangeAt 0 0 W4.free.cells) (hz : f ≠ 0 ∧ s ≠ 0) :
    Calls Tryd.prog 11 #[ptr f, .int .i64 2, .int .i64 2] w fun e w' => ∃ k G, e = .returned (.tuple #[ptr k, .int .i64 0]) ∧ Solo w' f s j P G ∧ Touch [f, s] w w' := by
  obtain ⟨J, hJ, hk, hP, hc⟩ := h.jn
  have hcn := h.cnt
  refine (open_any w f s F 2 2 h.flash h.off hg hz (by omega) (by omega)).mono ?_
  rintro e w' (⟨k, K, rfl, hO, _, _, ht⟩ | ⟨k, K, G, rfl, hO, _, _, hu, ht⟩ | ⟨G, rfl, _, _, ha, _⟩)
  · exact ⟨k, F, rfl, h.to ht, ht.mono (by simp)⟩
  · exact ⟨k, G, rfl, ⟨⟨J, hJ.touch ht (by simp; exact hJ.apart) (by simp), hk.away hu (by omega), hP, hc⟩, hO.flash, hO.off, hu.armed.trans h.armed, hu.count.trans h.cnt⟩, ht⟩
  · rw [h.armed] at ha; cases ha
/-- the power goes, and a store with it -/
theorem solo_cut (w : World) (f s j : Nat) (P : List PSlot) (F : Fl) (h : ∃ J, JnAt w j f s J ∧ Keeps F 0 1 J ∧ J.slots.map Slot.p = P ∧ J.cut = false) (ho : F.off = false) (hcn : F.count = 4) (i : Nat) (hi : i < 16) (hfit : fitsP P 1 i 0 = true) (hF : FlashAt w f s { F with armed := decide ((0 : Int) ≤ 0), left := 0 }) :
    Calls Tryd.prog 13 #[ptr j, .int .u8 i, .slice none 0 0] w fun e w' => ∃ G, e = .returned (.int .i64 7) ∧ FlashAt w' f s G ∧ G.off = true ∧ G.count = 4 ∧ Touch [f, s, j] w w' := by
  obtain ⟨J, hJ, hk, rfl, hc⟩ := h
  refine (store_stops w j f s J _ 0 1 i hJ hF hi hc ho rfl (hk.mem rfl rfl) (by rw [fits_p hk.count]; exact hfit)).mono ?_
  rintro e w' ⟨G, K, rfl, hG, hK, t, hd⟩
  exact ⟨G, rfl, hG, hd.off, hd.out.count.trans hcn, t⟩
theorem store_over (w : World) (j : Nat) : Calls Tryd.prog 13 #[ptr j, .int .u8 16, .slice none 0 0] w fun e w' => e = .returned (.int .i64 62) ∧ w' = w := by
  go_enter Tryd.func13, Tryd.ntmps13
  go_wp2_with fail
  go_ret
  exact ⟨rfl, rfl⟩
end Go.Proofs.YtdfgcenbkclpbaaDoor
