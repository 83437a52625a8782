/- A group is made another one: what set comes to. -/
import Derived.Test.YtdfgcenbkclpbaaDoorTurnW
namespace Go.Proofs.YtdfgcenbkclpbaaDoor
open Go.RowKit
set_option linter.unusedSimpArgs false
set_option linter.unusedVariables false
/-- the words that are written for a group -/
def Slot.words (i : Nat) (x : Slot) : List W4 := if x.marked then recWords (headOf i 2 0) [] else recWords (headOf i 1 x.b.length) x.b
/-- what set comes to -/
def Jn.set (J : Jn) (F : Fl) (i : Nat) (x : Slot) : Int × Fl × Jn :=
  if J.cut || F.off then (7, F, { J with cut := true }) else
  if x.live && !J.fits i x.b.length then (60, F, J) else
  let J1 := { J with slots := J.slots.set i x }
  let old := J.slots.getD i x
  if J.next + (x.words i).length ≤ 256 * J.count then
    let r := F.writes (256 * J.first + J.next) (x.words i)
    if r.1 = 0 then (0, r.2, { J1 with next := J.next + (x.words i).length })
    else (r.1, r.2, { J1 with next := J.next + (x.words i).length, cut := true, slots := J1.slots.set i old })
  else
    let r := J1.turn F
    if r.1 = 0 then (0, r.2.1, r.2.2) else (r.1, r.2.1, { r.2.2 with cut := true, slots := r.2.2.slots.set i old })
theorem Jn.set_fit {J : Jn} {F : Fl} {i : Nat} {x : Slot} (hc : J.cut = false) (ho : F.off = false) (hf : x.live = true → J.fits i x.b.length = true) (hfit : J.next + (x.words i).length ≤ 256 * J.count) :
    J.set F i x = (if (F.writes (256 * J.first + J.next) (x.words i)).1 = 0 then (0, (F.writes (256 * J.first + J.next) (x.words i)).2, { J with slots := J.slots.set i x, next := J.next + (x.words i).length })
      else ((F.writes (256 * J.first + J.next) (x.words i)).1, (F.writes (256 * J.first + J.next) (x.words i)).2, { J with slots := (J.slots.set i x).set i (J.slots.getD i x), next := J.next + (x.words i).length, cut := true })) := by
  unfold Jn.set
  rw [if_neg (by simp [hc, ho]), if_neg (by cases hx : x.live <;> simp; exact hf hx), if_pos hfit]
theorem Jn.set_turn {J J1 : Jn} {F : Fl} {i : Nat} {x : Slot} (h1 : J1 = { J with slots := J.slots.set i x }) (hc : J.cut = false) (ho : F.off = false) (hf : x.live = true → J.fits i x.b.length = true) (hfit : ¬ J.next + (x.words i).length ≤ 256 * J.count) :
    J.set F i x = (if (J1.turn F).1 = 0 then (0, (J1.turn F).2.1, (J1.turn F).2.2)
      else ((J1.turn F).1, (J1.turn F).2.1, { (J1.turn F).2.2 with slots := (J1.turn F).2.2.slots.set i (J.slots.getD i x), cut := true })) := by
  subst h1
  unfold Jn.set
  rw [if_neg (by simp [hc, ho]), if_neg (by cases hx : x.live <;> simp; exact hf hx), if_neg hfit]
end Go.Proofs.YtdfgcenbkclpbaaDoor
namespace Go.Proofs.YtdfgcenbkclpbaaDoor
open Go.RowKit
set_option linter.unusedSimpArgs false
set_option linter.unusedVariables false
theorem JnAt.cutCell {w : World} {j f s : Nat} {J : Jn} (h : JnAt w j f s J) : w.cell? ⟨j, 56, none⟩ = some (.bool J.cut) ∧ w.frozen? ⟨j, 56, none⟩ = false := by
  have hl := Jn.cells_length f J
  have h1 := h.own.cells 56 (.bool J.cut) (by
    unfold Jn.cells
    rw [List.getElem?_append_right (by rw [List.length_append, slotCells_length, h.sixteen]; simp), List.length_append, slotCells_length, h.sixteen]
    rfl)
  have h2 := h.own.free 56 (by rw [hl, h.sixteen]; omega)
  rw [Nat.zero_add] at h1 h2
  exact ⟨h1, h2⟩
theorem JnAt.setCut {w : World} {j f s : Nat} {J : Jn} (h : JnAt w j f s J) : JnAt (w.setCell ⟨j, 56, none⟩ (.bool true)) j f s { J with cut := true } := by
  have hl := Jn.cells_length f J
  have o := h.own.set0 56 (.bool true) (by rw [hl, h.sixteen]; omega)
  refine ⟨?_, h.sixteen, h.apart, h.few, h.gen, fun x hx => ⟨?_, (h.slots x hx).2⟩⟩
  · have e : (J.cells f).set 56 (.bool true) = ({ J with cut := true } : Jn).cells f := by
      unfold Jn.cells
      rw [List.set_append_right _ _ (by rw [List.length_append, slotCells_length, h.sixteen]; simp), List.length_append, slotCells_length, h.sixteen]
      rfl
    rw [e] at o; exact o
  · exact (h.slots x hx).1.touch (S := [j]) ((Touch.refl [j] w).setCell (by simp) _) (fun y hy => by simpa using ((h.slots x hx).2.2.2 y hy).1)
set_option maxRecDepth 100000 in
set_option maxHeartbeats 1600000 in
theorem set_cut (w : World) (j f s : Nat) (J : Jn) (F : Fl) (i : Nat) (x : Slot) (h : JnAt w j f s J) (hF : FlashAt w f s F) (hi : i < 16) (hc : J.cut = true) :
    Calls Tryd.prog 41 #[ptr j, .int .u8 i, x.val] w fun e w' => e = .returned (.int .i64 7) ∧ JnAt w' j f s { J with cut := true } ∧ Touch [j] w w' := by
  have h1 := h.cutCell.1
  have h2 := h.cutCell.2
  rw [hc] at h1
  have hJ := h.touch ((Touch.refl [] w).alloc (.cells #[.bool x.there, .bool x.marked, .slice x.a x.b.length x.cap] 78)) (by simp) (by simp)
  have hN := hJ.setCut
  have hT := ((Touch.refl [j] w).alloc (.cells #[.bool x.there, .bool x.marked, .slice x.a x.b.length x.cap] 78)).setCell (p := ⟨j, 56, none⟩) (by simp) (.bool true)
  go_enter Tryd.func41, Tryd.ntmps41
  have c1 := hJ.cutCell.1
  have c2 := hJ.cutCell.2
  rw [hc] at c1
  go_wp2_with fail
  go_ret
  exact ⟨rfl, hN, hT⟩
set_option maxRecDepth 100000 in
set_option maxHeartbeats 1600000 in
theorem set_full (w : World) (j f s : Nat) (J : Jn) (F : Fl) (i : Nat) (x : Slot) (h : JnAt w j f s J) (hF : FlashAt w f s F) (hi : i < 16) (hc : J.cut = false) (ho : F.off = false) (hb : x.b.length ≤ 4096) (hl : x.live = true) (hf : J.fits i x.b.length = false) :
    Calls Tryd.prog 41 #[ptr j, .int .u8 i, x.val] w fun e w' => e = .returned (.int .i64 60) ∧ Touch [] w w' := by
  have hT1 := (Touch.refl [] w).alloc (.cells #[.bool x.there, .bool x.marked, .slice x.a x.b.length x.cap] 78)
  have hJ := h.touch hT1 (by simp) (by simp)
  have hFA := hF.alloc (.cells #[.bool x.there, .bool x.marked, .slice x.a x.b.length x.cap] 78)
  have hl' := hl
  unfold Slot.live at hl'
  simp only [Bool.and_eq_true, Bool.not_eq_true'] at hl'
  obtain ⟨hth, hmk⟩ := hl'
  obtain ⟨t, m, b, a, c⟩ := x
  simp only at hth hmk
  subst hth; subst hmk
  have c1 := hJ.cutCell.1
  rw [hc] at c1
  have c0 := hJ.own.get 0 (by rw [Jn.cells_length]; omega)
  have c0' : (w.alloc (.cells #[.bool true, .bool false, .slice a b.length c] 78)).cell? ⟨j, 0, none⟩ = some (ptr f) := c0
  clear hl c0
  go_enter Tryd.func41, Tryd.ntmps41
  go_wp2_with fail
  refine (flash_off _ f s F hFA).mono ?_
  rintro e w1 ⟨rfl, rfl⟩
  rw [ho]
  go_wp2_with fail
  refine (fits_any _ j f s J i b.length hJ hi hb).mono ?_
  rintro e w2 ⟨rfl, hT2⟩
  rw [hf]
  go_wp2_with fail
  go_ret
  exact ⟨rfl, hT1.trans hT2⟩
end Go.Proofs.YtdfgcenbkclpbaaDoor
namespace Go.Proofs.YtdfgcenbkclpbaaDoor
open Go.RowKit
set_option linter.unusedSimpArgs false
set_option linter.unusedVariables false
theorem slotCells_put (l : List Slot) (k : Nat) (y : Slot) (hk : k < l.length) : (slotCells l).take (3 * k) ++ y.cells ++ (slotCells l).drop (3 * k + 3) = slotCells (l.set k y) := by
  induction l generalizing k with
  | nil => simp at hk
  | cons x l ih =>
    cases k with
    | zero => simp [slotCells_cons, Slot.cells]
    | succ k =>
      have := ih k (by simpa using hk)
      rw [List.set_cons_succ, slotCells_cons, slotCells_cons, ← this]
      simp [Slot.cells, show 3 * (k + 1) = 3 * k + 3 by omega]
theorem JnAt.setSlot {w : World} {j f s : Nat} {J : Jn} (h : JnAt w j f s J) (i : Nat) (hi : i < 16) (x : Slot)
    (hx : SliceAt w x.a (x.b.map u8v) ∧ x.b.length ≤ 4096 ∧ (x.a = none → x.b.length = 0 ∧ x.cap = 0) ∧ ∀ y, x.a = some y → y.block ≠ j ∧ y.block ≠ f ∧ y.block ≠ s) :
    JnAt (w.setCells j (8 + 3 * i) x.cells) j f s { J with slots := J.slots.set i x } := by
  have hl := Jn.cells_length f J
  have hs := h.sixteen
  have o := h.own.setCells (8 + 3 * i) x.cells (by rw [hl, hs]; show 8 + 3 * i + 3 ≤ _; omega)
  have hT : Touch [j] w (w.setCells j (8 + 3 * i) x.cells) := (Touch.refl [j] w).setCells (by simp) _
  refine ⟨?_, by simpa using hs, h.apart, h.few, h.gen, fun y hy => ?_⟩
  · have e : (J.cells f).take (8 + 3 * i) ++ x.cells ++ (J.cells f).drop (8 + 3 * i + 3) = ({ J with slots := J.slots.set i x } : Jn).cells f := by
      have hp := slotCells_put J.slots i x (by omega)
      have hsl := slotCells_length J.slots
      unfold Jn.cells
      simp only
      rw [← hp]
      generalize hP : [ptr f, Value.int .i64 J.first, Value.int .i64 J.count, ptr f, Value.int .i64 J.other, Value.int .i64 J.count, Value.int .u32 J.gen, Value.int .i64 J.next] = P
      have hPl : P.length = 8 := by rw [← hP]; rfl
      rw [List.append_assoc P, List.take_append, hPl, List.take_of_length_le (by omega), show 8 + 3 * i - 8 = 3 * i by omega, List.take_append_of_le_length (by omega), List.drop_append, hPl, List.drop_of_length_le (by omega), show 8 + 3 * i + 3 - 8 = 3 * i + 3 by omega, List.drop_append_of_le_length (by omega)]
      simp
    rw [Nat.zero_add, show x.cells.length = 3 from rfl, e] at o
    exact o
  · have hy' : y ∈ J.slots ∨ y = x := List.mem_or_eq_of_mem_set hy
    rcases hy' with hy' | rfl
    · exact ⟨(h.slots y hy').1.touch hT (fun z hz => by simpa using ((h.slots y hy').2.2.2 z hz).1), (h.slots y hy').2⟩
    · exact ⟨hx.1.touch hT (fun z hz => by simpa using (hx.2.2.2 z hz).1), hx.2⟩
end Go.Proofs.YtdfgcenbkclpbaaDoor
namespace Go.Proofs.YtdfgcenbkclpbaaDoor
open Go.RowKit
set_option linter.unusedSimpArgs false
set_option linter.unusedVariables false
theorem wp_load_group {ops : Array Oper} {rest : List Oper} {op : Oper} {a : Act} {w : World} {Q : Exit → Act → World → Prop} {x : Operand} {b o : Nat} {y : Slot} (hc : w.rangeAt b o y.cells) (hgd : op.guard = none) (ho : op.op = .load 78 x)
    (hx : a.eval x = .pointer (some ⟨b, o, none⟩)) (h : wpList Tryd.prog ops Q rest (a.put op.dst y.val) w) : wpList Tryd.prog ops Q (op :: rest) a w :=
  wpList_load_mid hgd 78 x ho b o hx y.cells _ hc Tryd.underlying78 rfl (by kernel_rfl) h
theorem wp_store_group {ops : Array Oper} {rest : List Oper} {op : Oper} {a : Act} {w : World} {Q : Exit → Act → World → Prop} {x z : Operand} {b o : Nat} {y : Slot} (hc : w.there b o 3) (hgd : op.guard = none) (ho : op.op = .store 78 x z)
    (hx : a.eval x = .pointer (some ⟨b, o, none⟩)) (hy : a.eval z = y.val) (h : wpList Tryd.prog ops Q rest (a.put op.dst undef) (w.setCells b o y.cells)) : wpList Tryd.prog ops Q (op :: rest) a w :=
  wpList_store_mid hgd 78 x z ho b o #[.bool y.there, .bool y.marked, .slice y.a y.b.length y.cap] hx hy hc (by kernel_rfl) (by simp [Value.oneCell']) h
theorem JnAt.slotRange {w : World} {j f s : Nat} {J : Jn} (h : JnAt w j f s J) {i : Nat} {x : Slot} (hx : J.slots[i]? = some x) : w.rangeAt j (8 + 3 * i) x.cells := fun k v hv => by
  have := h.cells8 (3 * i + k) v (slotCells_at hx hv)
  rw [Nat.add_assoc]; exact this
end Go.Proofs.YtdfgcenbkclpbaaDoor
