/- The flash: Write. -/
import Derived.Test.YtdfgcenbkclpbaaDoorFlash
namespace Go.Proofs.YtdfgcenbkclpbaaDoor
open Go.RowKit
set_option linter.unusedSimpArgs false
set_option linter.unusedVariables false
/-- what Write comes to -/
def Fl.write (F : Fl) (k : Nat) (y : W4) : Int × Fl :=
  if (F.mem.getD k W4.zero).falls y = false then (51, F) else if F.stops then (7, { F with off := true }) else (0, { F.went with mem := F.mem.set k y })
def W4.both (x y : W4) : List UInt8 := [x.a &&& y.a, x.b &&& y.b, x.c &&& y.c, x.d &&& y.d]
/-- the bytes that Write holds against what is to be written, behind j rounds -/
def W4.fallen (x y : W4) (j : Nat) : List UInt8 := (x.both y).take j ++ x.bytes.drop j
theorem W4.fallen_length (x y : W4) (j : Nat) (hj : j ≤ 4) : (x.fallen y j).length = 4 := by simp [fallen, both, bytes]; omega
theorem W4.fallen_zero (x y : W4) : (x.fallen y 0).map u8v = x.cells := by simp [fallen, bytes, cells]
theorem W4.fallen_next (x y : W4) (j : Nat) (hj : j < 4) : (x.fallen y j).set j ((x.bytes.getD j 0) &&& (y.bytes.getD j 0)) = x.fallen y (j + 1) := by
  rcases x with ⟨a, b, c, d⟩; rcases y with ⟨a', b', c', d'⟩
  match j, hj with
  | 0, _ | 1, _ | 2, _ | 3, _ => rfl
theorem W4.fallen_at (x y : W4) (j : Nat) (hj : j < 4) : (x.fallen y j)[j]? = some (x.bytes.getD j 0) := by
  rcases x with ⟨a, b, c, d⟩; rcases y with ⟨a', b', c', d'⟩
  match j, hj with
  | 0, _ | 1, _ | 2, _ | 3, _ => rfl
theorem W4.cells_at (y : W4) (j : Nat) (hj : j < 4) : y.cells[j]? = some (u8v (y.bytes.getD j 0)) := by
  rcases y with ⟨a', b', c', d'⟩
  match j, hj with
  | 0, _ | 1, _ | 2, _ | 3, _ => rfl
theorem W4.fallen_four (x y : W4) : x.fallen y 4 = x.both y := by simp [fallen, both, bytes]
theorem W4.falls_iff (x y : W4) : ((⟨x.a &&& y.a, x.b &&& y.b, x.c &&& y.c, x.d &&& y.d⟩ : W4) = y) ↔ x.falls y = true := by
  rcases y with ⟨a', b', c', d'⟩
  simp [falls, and_assoc]
theorem new_cells (w : World) (vs : List Value) (t : TypeId) : (w.alloc (.cells vs.toArray t)).rangeAt w.heap.size 0 vs := (OwnAt.new w vs.toArray t).all
/-- the world in which Write's loop begins -/
def writeWorld (w : World) (x y : W4) (p : Value) : World :=
  (((w.alloc (Obj.cells #[u8v y.a, u8v y.b, u8v y.c, u8v y.d] 30)).alloc (Obj.cells #[p] 67)).alloc
    (Obj.cells #[Value.int IntKind.u8 0, Value.int IntKind.u8 0, Value.int IntKind.u8 0, Value.int IntKind.u8 0] 30)).setCells (w.heap.size + 1 + 1) 0 x.cells
theorem writeWorld_facts (w : World) (x y : W4) (p : Value) (f s : Nat) (F : Fl) (h : FlashAt w f s F) :
    FlashAt (writeWorld w x y p) f s F ∧ Touch [f, s] w (writeWorld w x y p) ∧ (writeWorld w x y p).rangeAt w.heap.size 0 y.cells ∧ (writeWorld w x y p).cell? ⟨w.heap.size + 1, 0, none⟩ = some p ∧ OwnAt (writeWorld w x y p) (w.heap.size + 1 + 1) 0 x.cells := by
  have h1 := h.alloc (Obj.cells #[u8v y.a, u8v y.b, u8v y.c, u8v y.d] 30)
  have h2 := h1.alloc (Obj.cells #[p] 67)
  have h3 := h2.alloc (Obj.cells #[Value.int IntKind.u8 0, Value.int IntKind.u8 0, Value.int IntKind.u8 0, Value.int IntKind.u8 0] 30)
  have hT := (((Touch.refl [f, s] w).alloc (Obj.cells #[u8v y.a, u8v y.b, u8v y.c, u8v y.d] 30)).alloc (Obj.cells #[p] 67)).alloc (Obj.cells #[Value.int IntKind.u8 0, Value.int IntKind.u8 0, Value.int IntKind.u8 0, Value.int IntKind.u8 0] 30)
  have hT2 := hT.setCells (b := w.heap.size + 1 + 1) (Or.inr (by omega)) x.cells (o := 0)
  have c1 := (OwnAt.new w #[u8v y.a, u8v y.b, u8v y.c, u8v y.d] 30).alloc (Obj.cells #[p] 67) |>.alloc (Obj.cells #[Value.int IntKind.u8 0, Value.int IntKind.u8 0, Value.int IntKind.u8 0, Value.int IntKind.u8 0] 30) |>.others (c := w.heap.size + 1 + 1) (by omega) x.cells (o := 0)
  have c2 := (OwnAt.new' (w.alloc (Obj.cells #[u8v y.a, u8v y.b, u8v y.c, u8v y.d] 30)) #[p] 67 (g := w.heap.size + 1) (by simp)).alloc (Obj.cells #[Value.int IntKind.u8 0, Value.int IntKind.u8 0, Value.int IntKind.u8 0, Value.int IntKind.u8 0] 30) |>.others (c := w.heap.size + 1 + 1) (by omega) x.cells (o := 0)
  have c3 := (OwnAt.new' (g := w.heap.size + 1 + 1) (hg := by simp) ((w.alloc (Obj.cells #[u8v y.a, u8v y.b, u8v y.c, u8v y.d] 30)).alloc (Obj.cells #[p] 67)) (cs := #[Value.int IntKind.u8 0, Value.int IntKind.u8 0, Value.int IntKind.u8 0, Value.int IntKind.u8 0]) (t := 30)).setCells 0 x.cells (by simp [W4.cells])
  refine ⟨?_, hT2, c1.all, ?_, ?_⟩
  · have := h.flt; have := h.slt; exact h3.others (by omega) (by omega) _
  · have := c2.get 0 (by simp)
    simpa [writeWorld] using this
  · unfold writeWorld; simpa [W4.cells] using c3
set_option maxRecDepth 100000 in
set_option maxHeartbeats 1000000 in
theorem flash_write (w : World) (f s : Nat) (F : Fl) (i k : Nat) (y : W4) (h : FlashAt w f s F) (ho : F.off = false) (hi : i < F.count) (hk : k < 256) :
    Calls Tryd.prog 10 #[ptr f, .int .i64 i, .int .i64 k, y.val] w fun e w' => e = .returned (.int .i64 (F.write (256 * i + k) y).1) ∧ FlashAt w' f s (F.write (256 * i + k) y).2 ∧ Touch [f, s] w w' := by
  have hq : 256 * i + k < F.mem.length := by have := h.size; omega
  obtain ⟨x, hx⟩ : ∃ x, F.mem[256 * i + k]? = some x := ⟨_, List.getElem?_eq_getElem hq⟩
  have hfl := h.flt
  have hsl := h.slt
  have hA := h.alloc (.cells #[u8v y.a, u8v y.b, u8v y.c, u8v y.d] 30)
  have hA2 := hA.alloc (.cells #[Value.pointer (some ⟨s, 4 * (256 * i + k), none⟩)] 67)
  have hr := hA2.word hx
  have hN := OwnAt.new ((w.alloc (.cells #[u8v y.a, u8v y.b, u8v y.c, u8v y.d] 30)).alloc (.cells #[Value.pointer (some ⟨s, 4 * (256 * i + k), none⟩)] 67)) #[Value.int IntKind.u8 0, Value.int IntKind.u8 0, Value.int IntKind.u8 0, Value.int IntKind.u8 0] 30
  have hT := hN.there (i := 0) (n := 4) (by simp)
  simp at hT
  go_enter Tryd.func10, Tryd.ntmps10
  go_wp2_with (first | (refine wp_load_word hr rfl rfl rfl ?_) | (refine wp_store_word (y := x) hT rfl rfl rfl rfl ?_) | ((with_reducible refine (flash_at _ f s F i k ?_ ho hi hk).mono ?_); (exact hA); rintro e w1 ⟨rfl, rfl⟩))
  obtain ⟨hF, hTc, hY, hP, hX⟩ := writeWorld_facts w x y (.pointer (some ⟨s, 4 * (256 * i + k), none⟩)) f s F h
  rw [show (((w.alloc (Obj.cells #[u8v y.a, u8v y.b, u8v y.c, u8v y.d] 30)).alloc (Obj.cells #[Value.pointer (some ⟨s, 4 * (256 * i + k), none⟩)] 67)).alloc
    (Obj.cells #[Value.int IntKind.u8 0, Value.int IntKind.u8 0, Value.int IntKind.u8 0, Value.int IntKind.u8 0] 30)).setCells (w.heap.size + 1 + 1) 0 x.cells = writeWorld w x y (.pointer (some ⟨s, 4 * (256 * i + k), none⟩)) from rfl]
  generalize writeWorld w x y (.pointer (some ⟨s, 4 * (256 * i + k), none⟩)) = W at *
  clear hA hA2 hr hN hT
  go_loopw [26] (fun v wr => ∃ j : Nat, j ≤ 4 ∧ v = .int .i64 j ∧ FlashAt wr f s F ∧ Touch [f, s] w wr ∧ wr.rangeAt w.heap.size 0 y.cells ∧ wr.cell? ⟨w.heap.size + 1, 0, none⟩ = some (.pointer (some ⟨s, 4 * (256 * i + k), none⟩)) ∧ OwnAt wr (w.heap.size + 1 + 1) 0 ((x.fallen y j).map u8v)) (fun v _ => 4 - (intOf v).toNat)
  case atStart => exact ⟨0, by omega, rfl, hF, hTc, hY, hP, by rw [W4.fallen_zero]; exact hX⟩
  case round =>
    obtain ⟨j, hj, rfl, hF, hTc, hY, hP, hX⟩ := hrel
    by_cases hlt : j < 4
    · have hy := hY j _ (y.cells_at j hlt)
      have hx1 := hX.cells j _ (by rw [List.getElem?_map, W4.fallen_at x y j hlt]; rfl)
      have hx2 := hX.free j (by rw [List.length_map, W4.fallen_length _ _ _ (by omega)]; exact hlt)
      have hnx := W4.fallen_next x y j hlt
      simp only [Nat.zero_add] at hy hx1 hx2
      generalize x.bytes.getD j 0 = xj at *
      generalize y.bytes.getD j 0 = yj at *
      simp only [u8v] at hy hx1
      have hset := (hX.set0 j (u8v (xj &&& yj)) (by rw [List.length_map, W4.fallen_length _ _ _ (by omega)]; exact hlt)).drew
      rw [← List.map_set, hnx] at hset
      have HN := Lib.hid hset
      clear hnx hset
      go_wp2_with fail
      refine wp_region_by [⟨false, [0, 1, 3, 4], none⟩, ⟨true, [2, 5, 6, 7], some 8⟩] (by kernel_rfl) (by kernel_rfl) ?_
      refine by_row ?_ (fun w' => ?_) ?_ ?_
      rotate_left
      · simp only [pick, nthOp]; go_wp2_with fail; refine And.intro ?_ ?_ <;> rfl
      · kernel_rfl
      refine by_here ?_ ?_ ?_ ?_
      rotate_left
      · simp only [pick, nthOp]; go_wp2_with fail; refine And.intro ?_ ?_ <;> rfl
      · kernel_rfl
      simp only [pick, nthOp]
      go_wp2_with fail
      refine by_onward ?_
      go_wp2
      go_roundw
      case rel =>
        refine ⟨j + 1, by omega, by go_num, (hF.other (by simp; omega) (by simp; omega) _).drew, (hTc.setCell (by simp; omega) _).drew, ?_, ?_, by rw [u8_and_nat _ _ xj.toNat_lt yj.toNat_lt]; simpa [u8v] using HN.out⟩
        · exact fun k v hv => by rw [World.cell?_drew, World.cell?_setCell_other _ _ _ _ (by intro e; injection e with e; omega)]; exact hY k v hv
        · rw [World.cell?_drew, World.cell?_setCell_other _ _ _ _ (by intro e; injection e with e; omega)]; exact hP
      case measure => simp [intOf]; omega
    · have : j = 4 := by omega
      subst this
      rw [W4.fallen_four] at hX
      have hxr := hX.all
      have hfit := W4.falls_iff x y
      have hgd : F.mem.getD (256 * i + k) W4.zero = x := by rw [List.getD_eq_getElem?_getD, hx]; rfl
      by_cases hfa : x.falls y = true
      · have e : (⟨x.a &&& y.a, x.b &&& y.b, x.c &&& y.c, x.d &&& y.d⟩ : W4) = y := hfit.2 hfa
        rw [show (x.both y).map u8v = (⟨x.a &&& y.a, x.b &&& y.b, x.c &&& y.c, x.d &&& y.d⟩ : W4).cells from rfl, e] at hxr
        have hE := word_equal y y
        simp only [decide_true] at hE
        clear hX hfit e
        go_wp2_with (first | (refine wp_load_word hxr rfl rfl rfl ?_) | (refine wp_load_word hY rfl rfl rfl ?_))
        cases hst : F.stops with
        | true =>
          refine (step_write_cut wr f s F _ hF hst).mono ?_
          rintro e w2 ⟨rfl, hF2, hT2⟩
          go_wp2_with fail
          go_ret
          simp only [Fl.write, hgd, hfa, hst, if_true]
          exact ⟨rfl, hF2, hTc.trans (hT2.mono (by simp))⟩
        | false =>
          refine (step_write wr f s F w.heap.size (w.heap.size + 1) (256 * i + k) y hF hst hq hY (by omega) (by omega) hP).mono ?_
          rintro e w2 ⟨rfl, hF2, hT2⟩
          go_wp2_with fail
          go_ret
          simp only [Fl.write, hgd, hfa, hst]
          exact ⟨rfl, hF2, hTc.trans hT2⟩
      · have e : ¬ (⟨x.a &&& y.a, x.b &&& y.b, x.c &&& y.c, x.d &&& y.d⟩ : W4) = y := fun e => hfa (hfit.1 e)
        rw [show (x.both y).map u8v = (⟨x.a &&& y.a, x.b &&& y.b, x.c &&& y.c, x.d &&& y.d⟩ : W4).cells from rfl] at hxr
        have hE := word_equal ⟨x.a &&& y.a, x.b &&& y.b, x.c &&& y.c, x.d &&& y.d⟩ y
        rw [decide_eq_false e] at hE
        clear hX hfit
        generalize (⟨x.a &&& y.a, x.b &&& y.b, x.c &&& y.c, x.d &&& y.d⟩ : W4) = z at *
        clear e
        go_wp2_with (first | (refine wp_load_word hxr rfl rfl rfl ?_) | (refine wp_load_word hY rfl rfl rfl ?_))
        go_ret
        have hfa' : x.falls y = false := by simpa using hfa
        simp only [Fl.write, hgd, hfa', if_true]
        exact ⟨rfl, hF, hTc⟩
end Go.Proofs.YtdfgcenbkclpbaaDoor
