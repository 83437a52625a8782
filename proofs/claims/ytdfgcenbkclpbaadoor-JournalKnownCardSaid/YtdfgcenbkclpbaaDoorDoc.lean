/- Tables: rows of equal width, one behind the other. -/
import Derived.Test.YtdfgcenbkclpbaaDoorFlashR
import Derived.Test.YtdfgcenbkclpbaaDoorTheory
namespace Go.Proofs.YtdfgcenbkclpbaaDoor
open Go.RowKit
set_option linter.unusedSimpArgs false
set_option linter.unusedVariables false
section
variable {α : Type} {c : α → List Value} {d : Nat}
def rows (c : α → List Value) (l : List α) : List Value := l.flatMap c
theorem rows_cons (x : α) (l : List α) : rows c (x :: l) = c x ++ rows c l := rfl
theorem rows_length (hd : ∀ x, (c x).length = d) : ∀ l : List α, (rows c l).length = d * l.length
  | [] => rfl
  | x :: l => by rw [rows_cons, List.length_append, hd, rows_length hd l, List.length_cons, Nat.mul_succ]; omega
theorem rows_at (hd : ∀ x, (c x).length = d) : ∀ {l : List α} {k : Nat} {x : α}, l[k]? = some x → ∀ {j : Nat} {v : Value}, (c x)[j]? = some v → (rows c l)[d * k + j]? = some v
  | [], _, _, h, _, _, _ => by simp at h
  | y :: l, 0, x, h, j, v, hv => by
    simp at h; subst h
    rw [rows_cons, Nat.mul_zero, Nat.zero_add, List.getElem?_append_left (List.getElem?_eq_some_iff.1 hv).1]; exact hv
  | y :: l, k + 1, x, h, j, v, hv => by
    have hl := hd y
    rw [rows_cons, List.getElem?_append_right (by rw [Nat.mul_succ]; omega), show d * (k + 1) + j - (c y).length = d * k + j by rw [Nat.mul_succ]; omega]
    exact rows_at hd (by simpa using h) hv
theorem rows_put (hd : ∀ x, (c x).length = d) (y : α) : ∀ {l : List α} {k : Nat}, k < l.length → (rows c l).take (d * k) ++ c y ++ (rows c l).drop (d * k + d) = rows c (l.set k y)
  | [], _, h => by simp at h
  | x :: l, 0, _ => by
    rw [List.set_cons_zero, rows_cons, rows_cons, Nat.mul_zero, List.take_zero, List.nil_append, Nat.zero_add, List.drop_append, hd, List.drop_of_length_le (by rw [hd]; exact Nat.le_refl _), Nat.sub_self]; simp
  | x :: l, k + 1, h => by
    have := rows_put hd y (l := l) (k := k) (by simpa using h)
    rw [List.set_cons_succ, rows_cons, rows_cons, ← this, List.take_append, List.drop_append, hd, List.take_of_length_le (by rw [hd, Nat.mul_succ]; omega), List.drop_of_length_le (by rw [hd, Nat.mul_succ]; omega),
      show d * (k + 1) - d = d * k by rw [Nat.mul_succ]; omega, show d * (k + 1) + d - d = d * k + d by rw [Nat.mul_succ]; omega]
    simp
theorem OwnAt.row {w : World} {b off : Nat} {l : List α} (hd : ∀ x, (c x).length = d) (h : OwnAt w b off (rows c l)) {k : Nat} {x : α} (hx : l[k]? = some x) {j : Nat} {v : Value} (hv : (c x)[j]? = some v) : w.cell? ⟨b, off + (d * k + j), none⟩ = some v := h.cells _ _ (rows_at hd hx hv)
theorem OwnAt.rowFree {w : World} {b off : Nat} {l : List α} (hd : ∀ x, (c x).length = d) (h : OwnAt w b off (rows c l)) {k j : Nat} (hk : k < l.length) (hj : j < d) : w.frozen? ⟨b, off + (d * k + j), none⟩ = false := h.free _ (by
  rw [rows_length hd]
  calc d * k + j < d * k + d := by omega
    _ = d * (k + 1) := (Nat.mul_succ d k).symm
    _ ≤ d * l.length := Nat.mul_le_mul_left d hk)
theorem OwnAt.putRow {w : World} {b off : Nat} {l : List α} (hd : ∀ x, (c x).length = d) (h : OwnAt w b off (rows c l)) {k : Nat} (hk : k < l.length) (y : α) : OwnAt (w.setCells b (off + d * k) (c y)) b off (rows c (l.set k y)) := by
  have := h.setCells (d * k) (c y) (by
    rw [hd, rows_length hd]
    calc d * k + d = d * (k + 1) := (Nat.mul_succ d k).symm
      _ ≤ d * l.length := Nat.mul_le_mul_left d hk)
  rw [hd, rows_put hd y hk] at this
  exact this
theorem SliceAt.row {w : World} {A : Option Addr} {l : List α} (hd : ∀ x, (c x).length = d) (h : SliceAt w A (rows c l)) {k : Nat} {x : α} (hx : l[k]? = some x) (hp : 0 < d) : ∃ b off, A = some ⟨b, off, none⟩ ∧ ∀ j v, (c x)[j]? = some v → w.cell? ⟨b, off + (d * k + j), none⟩ = some v := by
  rcases h.is with h0 | ⟨b, off, rfl, hc⟩
  · have hk := (List.getElem?_eq_some_iff.1 hx).1
    have : (rows c l).length = 0 := by rw [h0]; rfl
    rw [rows_length hd] at this
    have := Nat.mul_pos hp (by omega : 0 < l.length)
    omega
  · exact ⟨b, off, rfl, fun j v hv => hc _ _ (rows_at hd hx hv)⟩
end
end Go.Proofs.YtdfgcenbkclpbaaDoor
namespace Go.Proofs.YtdfgcenbkclpbaaDoor
open Go.RowKit
set_option linter.unusedSimpArgs false
set_option linter.unusedVariables false
/-- a group of the reference's -/
def PSlot.cells (x : PSlot) : List Value := [.bool x.there, .string ⟨x.b.toArray⟩, .bool x.marked]
theorem pcells_len (x : PSlot) : x.cells.length = 3 := rfl
/-- A REFERENCE's JOURNAL IN MEMORY: its head in block m, its groups in block g. -/
structure RefAt (w : World) (m g : Nat) (M : List PSlot) (count : Nat) : Prop where
  head : OwnAt w m 0 [.slice (some ⟨g, 0, none⟩) 16 16, .int .i64 count]
  rows : OwnAt w g 0 (rows PSlot.cells M)
  sixteen : M.length = 16
  apart : m ≠ g
  few : count ≤ 64
  small : ∀ x ∈ M, x.b.length ≤ 4096
  ends : ∀ o, 48 ≤ o → w.cell? ⟨g, o, none⟩ = none
theorem RefAt.to {S : List Nat} {w w' : World} {m g count : Nat} {M : List PSlot} (h : RefAt w m g M count) (ht : Touch S w w') (hn : m ∉ S ∧ g ∉ S := by first | (simp; done) | (simp; omega) | omega) : RefAt w' m g M count :=
  ⟨h.head.touch ht hn.1, h.rows.touch ht hn.2, h.sixteen, h.apart, h.few, h.small, fun o ho => by
    have e := h.ends o ho
    have hg : g < w.heap.size := h.rows.lt (by rw [rows_length pcells_len, h.sixteen]; omega)
    have hb := ht.block g hg hn.2
    unfold World.cell? at e ⊢
    rw [hb]; exact e⟩
theorem RefAt.mlt {w : World} {m g count : Nat} {M : List PSlot} (h : RefAt w m g M count) : m < w.heap.size := h.head.lt (by simp)
theorem RefAt.glt {w : World} {m g count : Nat} {M : List PSlot} (h : RefAt w m g M count) : g < w.heap.size := h.rows.lt (by rw [rows_length pcells_len, h.sixteen]; omega)
theorem RefAt.h0 {w : World} {m g count : Nat} {M : List PSlot} (h : RefAt w m g M count) : w.cell? ⟨m, 0, none⟩ = some (.slice (some ⟨g, 0, none⟩) 16 16) := h.head.get 0 (by simp)
theorem RefAt.h1 {w : World} {m g count : Nat} {M : List PSlot} (h : RefAt w m g M count) : w.cell? ⟨m, 1, none⟩ = some (.int .i64 count) := h.head.get 1 (by simp)
theorem RefAt.cell {w : World} {m g count : Nat} {M : List PSlot} (h : RefAt w m g M count) {k : Nat} {x : PSlot} (hx : M[k]? = some x) : w.cell? ⟨g, k * 3, none⟩ = some (.bool x.there) ∧ w.cell? ⟨g, k * 3 + 1, none⟩ = some (.string ⟨x.b.toArray⟩) ∧ w.cell? ⟨g, k * 3 + 2, none⟩ = some (.bool x.marked) := by
  have := fun j v hv => h.rows.row pcells_len hx (j := j) (v := v) hv
  simp only [Nat.zero_add] at this
  rw [Nat.mul_comm]
  exact ⟨this 0 _ rfl, this 1 _ rfl, this 2 _ rfl⟩
theorem RefAt.free {w : World} {m g count : Nat} {M : List PSlot} (h : RefAt w m g M count) {k : Nat} (hk : k < 16) : w.frozen? ⟨g, k * 3, none⟩ = false ∧ w.frozen? ⟨g, k * 3 + 1, none⟩ = false ∧ w.frozen? ⟨g, k * 3 + 2, none⟩ = false := by
  have := fun j hj => h.rows.rowFree pcells_len (k := k) (j := j) (by rw [h.sixteen]; exact hk) hj
  simp only [Nat.zero_add] at this
  rw [Nat.mul_comm]
  exact ⟨this 0 (by omega), this 1 (by omega), this 2 (by omega)⟩
theorem RefAt.put {w : World} {m g count : Nat} {M : List PSlot} (h : RefAt w m g M count) {k : Nat} (hk : k < 16) (y : PSlot) (hy : y.b.length ≤ 4096) : RefAt (w.setCells g (k * 3) y.cells) m g (M.set k y) count := by
  have := h.rows.putRow pcells_len (k := k) (by rw [h.sixteen]; exact hk) y
  rw [Nat.zero_add, Nat.mul_comm] at this
  refine ⟨h.head.others (fun e => h.apart e.symm) _, this, by simpa using h.sixteen, h.apart, h.few, fun x hx => ?_, fun o ho => ?_⟩
  · rcases List.mem_or_eq_of_mem_set hx with hx | rfl
    · exact h.small x hx
    · exact hy
  · rw [World.cell?_setCells_out _ _ _ _ _ (fun _ _ => Or.inr (by show k * 3 + 3 ≤ o; omega))]
    exact h.ends o ho
theorem rows_noint (M : List PSlot) : ∀ v ∈ rows PSlot.cells M, ∀ k n, v ≠ .int k n := fun v hv k n => by
  unfold rows at hv
  obtain ⟨x, _, hx⟩ := List.mem_flatMap.1 hv
  simp [PSlot.cells] at hx
  rcases hx with rfl | rfl | rfl <;> simp
/-- a journal's own bytes lie beside the reference's groups -/
theorem JnAt.beside {w w' : World} {j f s m g count : Nat} {J : Jn} {M : List PSlot} (h : JnAt w j f s J) (hr : RefAt w m g M count) (hne : g ≠ j ∧ g ≠ f ∧ g ≠ s) (ht : Touch [g] w w') : JnAt w' j f s J := by
  refine ⟨h.own.touch ht (by simpa using fun e => hne.1 e.symm), h.sixteen, h.apart, h.few, h.gen, fun x hx => ⟨?_, (h.slots x hx).2⟩⟩
  have hs := (h.slots x hx).1
  by_cases hb : x.b = []
  · rw [hb]; exact .nil _ _
  · have hl : 0 < x.b.length := List.length_pos_iff.2 hb
    obtain ⟨b, off, e, hc⟩ := hs.at_ 0 (by simpa using hl)
    refine hs.touch ht (fun y hy => ?_)
    rw [e] at hy
    cases hy
    intro hm
    have hbg : b = g := by simpa using hm
    subst hbg
    rw [Nat.add_zero] at hc
    by_cases ho : 48 ≤ off
    · rw [hr.ends off ho] at hc; cases hc
    · have hlen : off < (rows PSlot.cells M).length := by rw [rows_length pcells_len, hr.sixteen]; omega
      have h2 := hr.rows.get off hlen
      rw [Nat.zero_add, hc] at h2
      have h3 := Option.some.inj h2
      rw [List.getElem_map] at h3
      exact rows_noint M _ (List.getElem_mem hlen) _ _ h3.symm
theorem make_groups (W : World) : (Instr.makeSlice 85 (.int .i64 16) (.int .i64 16)).run Tryd.prog W = .ok (.slice (some ⟨W.heap.size, 0, none⟩) 16 16) (W.alloc (.cells (rows PSlot.cells blanks).toArray 89)) := by
  have hi : (Tryd.prog.info? 89).map (fun i => (i.zero, i.size, i.bytes)) = some (some (.agg #[.bool false, .string ⟨#[]⟩, .bool false]), 3, 32) := by kernel_rfl
  obtain ⟨i, hi0, hz, hs, hb⟩ := info_parts hi
  have := run_make (P := Tryd.prog) W 85 89 i _ Tryd.underlying85 hi0 hz .i64 .i64 16 16 (by omega) (by omega) (by rw [hb]; omega) (by omega)
  rw [this]
  simp only [hs, Value.cells]
  have hm : madeCells #[Value.bool false, .string ⟨#[]⟩, .bool false] (Int.toNat 16 * 3) = (rows PSlot.cells blanks).toArray := by kernel_rfl
  rw [hm]
  rfl
set_option maxRecDepth 100000 in
theorem ref_new (w : World) (count : Nat) (hc : count ≤ 64) : Calls Tryd.prog 16 #[.int .i64 count] w fun e w' => ∃ m g, e = .returned (ptr m) ∧ w.heap.size ≤ m ∧ w.heap.size ≤ g ∧ RefAt w' m g blanks count ∧ Touch [] w w' := by
  have hmk := make_groups
  go_enter Tryd.func16, Tryd.ntmps16
  go_wp2_with fail
  go_ret
  have hG := (OwnAt.new w (rows PSlot.cells blanks).toArray 89).alloc (.cells #[Value.slice (some { block := w.heap.size, off := 0 }) 16 16, Value.int IntKind.i64 ↑count] 87)
  have hM := OwnAt.new' (w.alloc (.cells (rows PSlot.cells blanks).toArray 89)) #[Value.slice (some { block := w.heap.size, off := 0 }) 16 16, Value.int IntKind.i64 ↑count] 87 (g := w.heap.size + 1) (by simp)
  refine ⟨w.heap.size + 1, w.heap.size, rfl, by omega, by omega, ⟨hM, hG, rfl, by omega, hc, fun x hx => by have : x = ⟨false, false, []⟩ := List.eq_of_mem_replicate hx; subst this; simp, fun o ho => ?_⟩, Touch.two _ _ _⟩
  have hh := (heap_alloc_new w (.cells (rows PSlot.cells blanks).toArray 89))
  have hb := (Touch.one (w.alloc (.cells (rows PSlot.cells blanks).toArray 89)) (.cells #[Value.slice (some { block := w.heap.size, off := 0 }) 16 16, Value.int IntKind.i64 ↑count] 87)).block w.heap.size (by simp) (by simp)
  unfold World.cell?
  rw [hb, hh]
  have : (rows PSlot.cells blanks).toArray.size = 48 := by rw [List.size_toArray, rows_length pcells_len]; rfl
  simp [Array.getElem?_eq_none (show (rows PSlot.cells blanks).toArray.size ≤ o by omega)]
  all_goals omega
theorem ref_room (w : World) (n : Nat) (hn : n ≤ 100000) : Calls Tryd.prog 59 #[.int .i64 n] w fun e w' => e = .returned (.int .i64 (room n : Nat)) ∧ w' = w := by
  go_enter Tryd.func59, Tryd.ntmps59
  go_wp2_with fail
  go_ret
  refine ⟨?_, rfl⟩
  simp [room]
set_option maxRecDepth 100000 in
set_option maxHeartbeats 1600000 in
theorem ref_Room (w : World) (m g count i n : Nat) (M : List PSlot) (h : RefAt w m g M count) (hi : i < 256) (hn : n ≤ 4096) :
    Calls Tryd.prog 45 #[ptr m, .int .u8 i, .int .i64 n] w fun e w' => e = .returned (.bool (refRoom M count i n)) ∧ Touch [] w w' := by
  have hfew := h.few
  have hul := usedP_le M i h.small
  have hrn := room_le hn
  have hrnI : (room n : Int) ≤ 4111 := by omega
  have hrn0 : (0 : Int) ≤ (room n : Int) := by omega
  have hiI : (i : Int) < 256 := by omega
  go_enter Tryd.func45, Tryd.ntmps45
  go_wp2_with fail
  refine (ref_room _ n (by omega)).mono ?_
  rintro e w1 ⟨rfl, rfl⟩
  go_wp2_with fail
  go_loopw [7, 8] (fun v7 v wr => ∃ k : Nat, k ≤ 16 ∧ v = .int .i64 k ∧ v7 = .int .i64 ((room n : Int) + (usedP M i k : Int)) ∧ Touch [] w1 wr) (fun _ v _ => 16 - (intOf v).toNat)
  case atStart => exact ⟨0, by omega, rfl, by simp [usedP], Touch.refl _ _⟩
  case round =>
    obtain ⟨k, hk, rfl, rfl, hT⟩ := hrel
    have hr := h.to hT
    have m0 := hr.h0
    have m1 := hr.h1
    have hul1 : (usedP M i k : Int) ≤ 65776 := by have := hul k; omega
    have hul0 : (0 : Int) ≤ (usedP M i k : Int) := by omega
    by_cases hlt : k < 16
    · obtain ⟨x, hx⟩ : ∃ x, M[k]? = some x := ⟨_, List.getElem?_eq_getElem (by rw [h.sixteen]; exact hlt)⟩
      obtain ⟨x0, x1, x2⟩ := hr.cell hx
      have hlen := h.small x (List.mem_of_getElem? hx)
      have hstep : usedP M i (k + 1) = usedP M i k + (if x.counts k i then room x.b.length else 0) := by rw [usedP, hx]
      have HS := Lib.hid hstep
      have hrx := room_le hlen
      clear hstep hx
      have hTX := hT.to (Touch.one wr (.cells #[.bool x.there, .string ⟨x.b.toArray⟩, .bool x.marked] 89))
      by_cases hc : x.counts k i = true
      · have hs2 := HS.out
        rw [if_pos hc] at hs2
        have hc' := hc
        unfold PSlot.counts at hc'
        simp only [Bool.and_eq_true, bne_iff_ne, Bool.not_eq_true'] at hc'
        obtain ⟨⟨hki, hth⟩, hmk⟩ := hc'
        have hki' : ((k : Int) != (i : Int)) = true := bne_iff_ne.2 (by omega)
        have H2 := Lib.hid hs2
        obtain ⟨t, mm, b⟩ := x
        simp only at hth hmk x0 x1 x2 hlen hrx
        subst hth; subst hmk
        have hbI : (b.length : Int) ≤ 4096 := by omega
        have hrxI : (room b.length : Int) ≤ 4111 := by omega
        clear hc hs2 HS
        go_wp2_with fail
        refine (ref_room _ b.length (by omega)).mono ?_
        rintro e w2 ⟨rfl, rfl⟩
        go_wp2_with fail
        go_roundw
        case rel => exact ⟨k + 1, by omega, by go_num, by rw [H2.out]; congr 1; simp; omega, hTX⟩
        case measure => simp [intOf]; omega
      · have hs2 := HS.out
        rw [if_neg hc] at hs2
        have H2 := Lib.hid hs2
        clear hs2 HS
        unfold PSlot.counts at hc
        obtain ⟨t, mm, b⟩ := x
        by_cases hki : k = i
        · have hki' : ((k : Int) != (i : Int)) = false := by rw [hki]; simp
          have hkk := Lib.hid hki
          clear hki hc
          go_wp2_with fail
          go_roundw
          case rel => exact ⟨k + 1, by omega, by go_num, by rw [H2.out]; simp, hTX⟩
          case measure => simp [intOf]; omega
        · have hki' : ((k : Int) != (i : Int)) = true := bne_iff_ne.2 (by omega)
          cases t with
          | false =>
            clear hc hki
            go_wp2_with fail
            go_roundw
            case rel => exact ⟨k + 1, by omega, by go_num, by rw [H2.out]; simp, hTX⟩
            case measure => simp [intOf]; omega
          | true =>
            cases mm with
            | false => exact absurd (by simp [hki]) hc
            | true =>
              clear hc hki
              go_wp2_with fail
              go_roundw
              case rel => exact ⟨k + 1, by omega, by go_num, by rw [H2.out]; simp, hTX⟩
              case measure => simp [intOf]; omega
    · have : k = 16 := by omega
      subst this
      obtain ⟨h', hh⟩ : ∃ h', count / 2 = h' := ⟨_, rfl⟩
      have hhI : (count : Int) / 2 = (h' : Int) := by omega
      have hh3 : (h' : Int) ≤ 32 := by omega
      have hfin : refRoom M count i n = decide ((room n : Int) + (usedP M i 16 : Int) ≤ (h' : Int) * 1024 - 16) := by
        unfold refRoom fitsP
        rw [Bool.eq_iff_iff, decide_eq_true_iff, decide_eq_true_iff, hh]; omega
      have HF := Lib.hid hfin
      clear hfin hh
      go_wp2_with fail
      go_ret
      rw [HF.out]
      exact ⟨rfl, hT⟩
end Go.Proofs.YtdfgcenbkclpbaaDoor
namespace Go.Proofs.YtdfgcenbkclpbaaDoor
open Go.RowKit
set_option linter.unusedSimpArgs false
set_option linter.unusedVariables false
theorem wp_store_pslot {ops : Array Oper} {rest : List Oper} {op : Oper} {a : Act} {w : World} {Q : Exit → Act → World → Prop} {x z : Operand} {b o : Nat} (y : PSlot) (hc : w.there b o 3) (hgd : op.guard = none) (ho : op.op = .store 89 x z)
    (hx : a.eval x = .pointer (some ⟨b, o, none⟩)) (hy : a.eval z = .agg #[.bool y.there, .string ⟨y.b.toArray⟩, .bool y.marked]) (h : wpList Tryd.prog ops Q rest (a.put op.dst undef) (w.setCells b o y.cells)) : wpList Tryd.prog ops Q (op :: rest) a w :=
  wpList_store_mid hgd 89 x z ho b o #[.bool y.there, .string ⟨y.b.toArray⟩, .bool y.marked] hx hy hc (by kernel_rfl) (by simp [Value.oneCell']) h
theorem wp_load_pslot {ops : Array Oper} {rest : List Oper} {op : Oper} {a : Act} {w : World} {Q : Exit → Act → World → Prop} {x : Operand} {b o : Nat} (y : PSlot) (hc : w.rangeAt b o y.cells) (hgd : op.guard = none) (ho : op.op = .load 89 x)
    (hx : a.eval x = .pointer (some ⟨b, o, none⟩)) (h : wpList Tryd.prog ops Q rest (a.put op.dst (.agg #[.bool y.there, .string ⟨y.b.toArray⟩, .bool y.marked])) w) : wpList Tryd.prog ops Q (op :: rest) a w :=
  wpList_load_mid hgd 89 x ho b o hx y.cells _ hc Tryd.underlying89 rfl (by kernel_rfl) h
theorem RefAt.there {w : World} {m g count : Nat} {M : List PSlot} (h : RefAt w m g M count) {k : Nat} (hk : k < 16) : w.there g (k * 3) 3 := by
  have := h.rows.there (i := 3 * k) (n := 3) (by rw [rows_length pcells_len, h.sixteen]; omega)
  rwa [Nat.zero_add, Nat.mul_comm] at this
theorem RefAt.range {w : World} {m g count : Nat} {M : List PSlot} (h : RefAt w m g M count) {k : Nat} {x : PSlot} (hx : M[k]? = some x) : w.rangeAt g (k * 3) x.cells := fun j v hv => by
  have := h.rows.row pcells_len hx (j := j) (v := v) hv
  rwa [Nat.zero_add, Nat.mul_comm] at this
set_option maxRecDepth 100000 in
set_option maxHeartbeats 1600000 in
theorem ref_store (w : World) (m g count i : Nat) (M : List PSlot) (b : List UInt8) (A : Option Addr) (c : Nat) (h : RefAt w m g M count) (hi : i < 256) (hb : b.length ≤ 140737488355328) (hA : SliceAt w A (b.map u8v)) (hne : ∀ x, A = some x → x.block ≠ g) :
    Calls Tryd.prog 25 #[ptr m, .int .u8 i, .slice A b.length c] w fun e w' => e = .returned (.int .i64 (refStore M (count / 2) i b).1) ∧ RefAt w' m g (refStore M (count / 2) i b).2 count ∧ Touch [g] w w' := by
  have hiI : (i : Int) < 256 := by omega
  unfold refStore
  by_cases h1 : 16 ≤ i
  · have h1I : (16 : Int) ≤ i := by omega
    rw [if_pos h1]
    go_enter Tryd.func25, Tryd.ntmps25
    go_wp2_with fail
    go_ret
    exact ⟨rfl, h, Touch.refl _ _⟩
  · have h1I : (i : Int) < 16 := by omega
    rw [if_neg h1]
    by_cases h2 : 4096 < b.length
    · have h2I : (4096 : Int) < b.length := by omega
      rw [if_pos h2]
      go_enter Tryd.func25, Tryd.ntmps25
      go_wp2_with fail
      go_ret
      exact ⟨rfl, h, Touch.refl _ _⟩
    · have h2I : (b.length : Int) ≤ 4096 := by omega
      rw [if_neg h2]
      have hroom : refRoom M count i b.length = fitsP M (count / 2) i b.length := rfl
      cases hf : fitsP M (count / 2) i b.length with
      | false =>
        rw [if_pos rfl]
        rw [hf] at hroom
        clear hf
        go_enter Tryd.func25, Tryd.ntmps25
        go_wp2_with fail
        refine (ref_Room _ m g count i b.length M h hi (by omega)).mono ?_
        rintro e w1 ⟨rfl, t1⟩
        rw [hroom]
        go_wp2_with fail
        go_ret
        exact ⟨rfl, h.to t1, t1.mono (by simp)⟩
      | true =>
        rw [if_neg (by simp)]
        rw [hf] at hroom
        clear hf
        go_enter Tryd.func25, Tryd.ntmps25
        go_wp2_with fail
        refine (ref_Room _ m g count i b.length M h hi (by omega)).mono ?_
        rintro e w1 ⟨rfl, t1⟩
        rw [hroom]
        replace h := h.to t1
        replace hA := hA.to t1
        have tD := Touch.dr w1
        have hD := h.to tD
        have hAD := hA.to tD
        have hth := hD.there (k := i) (by omega)
        have hput := hD.put (k := i) (by omega) ⟨true, false, b⟩ (by simp only; omega)
        have tT := (t1.mono (T := [g]) (by simp)).trans ((Touch.dr w1 |>.mono (T := [g]) (by simp)).trans (Touch.cells w1.drew g (i * 3) (PSlot.cells ⟨true, false, b⟩)))
        clear hroom
        go_wp2_with fail
        refine wp_region_legs (fun w' => w'.cell? ⟨m, 0, none⟩ = some (.slice (some ⟨g, 0, none⟩) 16 16) ∧ SliceAt w' A (b.map u8v)) [⟨[0, 1, 2, 3, 4, 5, 6], some 7⟩, ⟨[8], some 9⟩] (by kernel_rfl) (by kernel_rfl) ?_
        refine legs_onS ?_ ⟨hD.h0, hAD⟩ (fun w' hSw => ?_) ?_ ?_
        rotate_left
        · obtain ⟨h0, hs⟩ := hSw
          have e1 := run_str (dst := 9) Tryd.underlying22 Tryd.underlying5 Tryd.underlying9 hs c
          simp only [pick, nthOp]; go_wp2_with fail; refine And.intro ?_ ?_ <;> rfl
        · kernel_rfl
        simp only [pick, nthOp]
        go_wp2_with fail
        refine legs_nextS ⟨hD.h0, hAD⟩ ?_
        refine legs_onS ?_ ⟨hD.h0, hAD⟩ (fun w' hSw => ?_) ?_ ?_
        rotate_left
        · obtain ⟨h0, hs⟩ := hSw; simp only [pick, nthOp]; go_wp2_with fail; refine And.intro ?_ ?_ <;> rfl
        · kernel_rfl
        simp only [pick, nthOp]
        have hS2 : (w1.drew.setCells g (i * 3) (PSlot.cells ⟨true, false, b⟩)).cell? ⟨m, 0, none⟩ = some (.slice (some ⟨g, 0, none⟩) 16 16) ∧ SliceAt (w1.drew.setCells g (i * 3) (PSlot.cells ⟨true, false, b⟩)) A (b.map u8v) := ⟨hput.h0, hAD.to (Touch.cells w1.drew g (i * 3) (PSlot.cells ⟨true, false, b⟩)) (fun y hy => by simpa using hne y hy)⟩
        go_wp2_with (refine wp_store_pslot ⟨true, false, b⟩ (b := g) (o := i * 3) ?_ rfl rfl rfl rfl ?_; (with_reducible exact hth))
        refine legs_nextS hS2 ?_
        -- (Touch.cells w1.drew g (i * 3) (PSlot.cells ⟨true, false, b⟩)) (fun y hy => by simpa using hne y hy)⟩ ?_
        refine legs_endS ?_
        go_wp2_with fail
        go_ret
        exact ⟨rfl, hput, tT⟩
set_option maxRecDepth 100000 in
set_option maxHeartbeats 1600000 in
theorem ref_restore (w : World) (m g count i : Nat) (M : List PSlot) (h : RefAt w m g M count) (hi : i < 256) :
    Calls Tryd.prog 23 #[ptr m, .int .u8 i] w fun e w' => e = .returned (.int .i64 (refRestore M i).1) ∧ RefAt w' m g (refRestore M i).2 count ∧ Touch [g] w w' := by
  have hiI : (i : Int) < 256 := by omega
  unfold refRestore
  by_cases h1 : 16 ≤ i
  · have h1I : (16 : Int) ≤ i := by omega
    rw [if_pos h1]
    go_enter Tryd.func23, Tryd.ntmps23
    go_wp2_with fail
    go_ret
    exact ⟨rfl, h, Touch.refl _ _⟩
  · have h1I : (i : Int) < 16 := by omega
    rw [if_neg h1]
    obtain ⟨x, hx⟩ : ∃ x, M[i]? = some x := ⟨_, List.getElem?_eq_getElem (by rw [h.sixteen]; omega)⟩
    rw [hx]
    simp only
    have hr := h.range hx
    have hm := h.h0
    have hxs := h.small x (List.mem_of_getElem? hx)
    have hth : (w.alloc (.cells #[Value.bool false, Value.string ⟨#[]⟩, Value.bool false] 89)).there w.heap.size 0 3 := (OwnAt.new w #[Value.bool false, Value.string ⟨#[]⟩, Value.bool false] 89).there (i := 0) (n := 3) (by simp)
    cases ht : x.there with
    | false =>
      rw [if_pos rfl]
      have tB := Touch.one w (.cells #[Value.bool false, Value.string ⟨x.b.toArray⟩, Value.bool x.marked] 89)
      go_enter Tryd.func23, Tryd.ntmps23
      go_wp2_with (first | (refine wp_load_pslot x (b := g) (o := i * 3) ?_ rfl rfl rfl ?_; (with_reducible exact hr)) | (refine wp_store_pslot x (b := w.heap.size) (o := 0) ?_ rfl rfl rfl rfl ?_; (with_reducible exact hth)))
      go_ret
      exact ⟨rfl, h.to tB, tB.mono (by simp)⟩
    | true =>
      rw [if_neg (by simp)]
      have tB := (Touch.one w (.cells #[Value.bool true, Value.string ⟨x.b.toArray⟩, Value.bool true] 89)).drew
      have oB := (OwnAt.new w #[Value.bool true, Value.string ⟨x.b.toArray⟩, Value.bool true] 89).drew
      have hB := h.to tB
      have hm2 := hB.h0
      have hw2 := hB.there (k := i) (by omega)
      have hr2 : (w.alloc (.cells #[Value.bool true, Value.string ⟨x.b.toArray⟩, Value.bool true] 89)).drew.rangeAt w.heap.size 0 (PSlot.cells ⟨true, true, x.b⟩) := oB.all
      have hput := hB.put (k := i) (by omega) ⟨true, true, x.b⟩ hxs
      have tT := (tB.mono (T := [g]) (by simp)).trans (Touch.cells _ g (i * 3) (PSlot.cells ⟨true, true, x.b⟩))
      clear oB hB
      go_enter Tryd.func23, Tryd.ntmps23
      go_wp2_with (first | (refine wp_load_pslot x (b := g) (o := i * 3) ?_ rfl rfl rfl ?_; (with_reducible exact hr)) | (refine wp_store_pslot x (b := w.heap.size) (o := 0) ?_ rfl rfl rfl rfl ?_; (with_reducible exact hth)))
      refine wp_region_by [⟨false, [0, 1, 2, 4], none⟩, ⟨true, [3, 5, 6], some 7⟩] (by kernel_rfl) (by kernel_rfl) ?_
      refine by_row ?_ (fun w' => ?_) ?_ ?_
      rotate_left
      · simp only [pick, nthOp]; go_wp2_with fail; refine And.intro ?_ ?_ <;> rfl
      · kernel_rfl
      refine by_here ?_ ?_ ?_ ?_
      rotate_left
      · simp only [pick, nthOp]; go_wp2_with (refine wp_load_pslot ⟨true, true, x.b⟩ (b := w.heap.size) (o := 0) ?_ rfl rfl rfl ?_; (with_reducible exact hr2)); refine And.intro ?_ ?_ <;> rfl
      · kernel_rfl
      simp only [pick, nthOp]
      go_wp2_with (refine wp_store_pslot ⟨true, true, x.b⟩ (b := g) (o := i * 3) ?_ rfl rfl rfl rfl ?_; (with_reducible exact hw2))
      refine by_onward ?_
      go_wp2_with fail
      go_ret
      exact ⟨rfl, hput, tT⟩
def openedTo (M : List PSlot) (k : Nat) : List PSlot := (opened M).take k ++ List.replicate (16 - k) ⟨false, false, []⟩
theorem openedTo_zero (M : List PSlot) : openedTo M 0 = blanks := by simp [openedTo, blanks]
theorem openedTo_full {M : List PSlot} (h : M.length = 16) : openedTo M 16 = opened M := by
  unfold openedTo; rw [List.take_of_length_le (by rw [opened_length, h]; omega)]; simp
theorem openedTo_len {M : List PSlot} (h : M.length = 16) {k : Nat} (hk : k ≤ 16) : (openedTo M k).length = 16 := by
  unfold openedTo; rw [List.length_append, List.length_take, opened_length, h, List.length_replicate]; omega
theorem openedTo_next {M : List PSlot} (h : M.length = 16) {k : Nat} (hk : k < 16) {x : PSlot} (hx : M[k]? = some x) : openedTo M (k + 1) = (openedTo M k).set k x.open1 := by
  unfold openedTo
  have hl : ((opened M).take k).length = k := by rw [List.length_take, opened_length]; omega
  have ho : (opened M)[k]? = some x.open1 := by unfold opened; rw [List.getElem?_map, hx]; rfl
  rw [List.set_append_right _ _ (by omega), hl, Nat.sub_self, show 16 - k = (16 - (k + 1)) + 1 by omega, List.replicate_succ, List.set_cons_zero, List.take_add_one, ho]
  simp
theorem openedTo_skip {M : List PSlot} (h : M.length = 16) {k : Nat} (hk : k < 16) {x : PSlot} (hx : M[k]? = some x) (hd : (x.there && !x.marked) = false) : openedTo M (k + 1) = openedTo M k := by
  unfold openedTo
  have ho : (opened M)[k]? = some ⟨false, false, []⟩ := by unfold opened; rw [List.getElem?_map, hx]; simp [PSlot.open1, hd]
  rw [List.take_add_one, ho, show 16 - k = (16 - (k + 1)) + 1 by omega, List.replicate_succ]
  simp
def copiedTo (M : List PSlot) (k : Nat) : List PSlot := M.take k ++ List.replicate (16 - k) ⟨false, false, []⟩
theorem copiedTo_zero (M : List PSlot) : copiedTo M 0 = blanks := by simp [copiedTo, blanks]
theorem copiedTo_full {M : List PSlot} (h : M.length = 16) : copiedTo M 16 = M := by
  unfold copiedTo; rw [List.take_of_length_le (by omega)]; simp
theorem copiedTo_next {M : List PSlot} (h : M.length = 16) {k : Nat} (hk : k < 16) {x : PSlot} (hx : M[k]? = some x) : copiedTo M (k + 1) = (copiedTo M k).set k x := by
  unfold copiedTo
  have hl : (M.take k).length = k := by rw [List.length_take]; omega
  rw [List.set_append_right _ _ (by omega), hl, Nat.sub_self, show 16 - k = (16 - (k + 1)) + 1 by omega, List.replicate_succ, List.set_cons_zero, List.take_add_one, hx]
  simp
set_option maxRecDepth 100000 in
set_option maxHeartbeats 3200000 in
theorem ref_copy (w : World) (m g count : Nat) (M : List PSlot) (h : RefAt w m g M count) :
    Calls Tryd.prog 43 #[ptr m] w fun e w' => ∃ m' g', e = .returned (ptr m') ∧ w.heap.size ≤ m' ∧ w.heap.size ≤ g' ∧ RefAt w' m' g' M count ∧ Touch [] w w' := by
  have hfew := h.few
  have h1 := h.h1
  have h16 := h.sixteen
  go_enter Tryd.func43, Tryd.ntmps43
  go_wp2_with fail
  refine (ref_new _ count hfew).mono ?_
  rintro e w1 ⟨m', g', rfl, hm', hg', hN, t1⟩
  have hml := h.mlt
  have hgl := h.glt
  clear h1
  go_wp2_with fail
  go_loopw [4] (fun v wr => ∃ k : Nat, k ≤ 16 ∧ v = .int .i64 k ∧ RefAt wr m' g' (copiedTo M k) count ∧ Touch [g'] w1 wr) (fun v _ => 16 - (intOf v).toNat)
  case atStart => exact ⟨0, by omega, rfl, by rw [copiedTo_zero]; exact hN, Touch.refl _ _⟩
  case round =>
    obtain ⟨k, hk, rfl, hC, hT⟩ := hrel
    have hr := (h.to t1).to hT
    have m0 := hr.h0
    by_cases hlt : k < 16
    · obtain ⟨x, hx⟩ : ∃ x, M[k]? = some x := ⟨_, List.getElem?_eq_getElem (by omega)⟩
      have hnx := copiedTo_next h16 hlt hx
      have HN := Lib.hid hnx
      have tD := Touch.dr wr
      have hrD := hr.to tD
      have hCD := hC.to tD
      have d0 := hrD.h0
      have n0 := hCD.h0
      have rx := hrD.range hx
      have hw2 := hCD.there hlt
      have hput := hCD.put hlt x (h.small x (List.mem_of_getElem? hx))
      have tT := (hT.to tD).to (Touch.cells wr.drew g' (k * 3) x.cells)
      clear hnx hx
      go_wp2_with fail
      refine wp_region_by [⟨false, [0, 1, 2, 4, 5, 6, 7, 9], none⟩, ⟨true, [3, 8, 10, 11, 12], some 13⟩] (by kernel_rfl) (by kernel_rfl) ?_
      refine by_row ?_ (fun w' => ?_) ?_ ?_
      rotate_left
      · simp only [pick, nthOp]; go_wp2_with fail; refine And.intro ?_ ?_ <;> rfl
      · kernel_rfl
      refine by_here ?_ ?_ ?_ ?_
      rotate_left
      · simp only [pick, nthOp]; go_wp2_with (refine wp_load_pslot x (b := g) (o := k * 3) ?_ rfl rfl rfl ?_; (with_reducible exact rx)); refine And.intro ?_ ?_ <;> rfl
      · kernel_rfl
      simp only [pick, nthOp]
      go_wp2_with (refine wp_store_pslot x (b := g') (o := k * 3) ?_ rfl rfl rfl rfl ?_; (with_reducible exact hw2))
      refine by_onward ?_
      go_wp2_with fail
      go_roundw
      case rel => exact ⟨k + 1, by omega, by go_num, by rw [HN.out]; exact hput, tT⟩
      case measure => simp [intOf]; omega
    · have : k = 16 := by omega
      subst this
      go_wp2_with fail
      go_ret
      rw [copiedTo_full h16] at hC
      exact ⟨m', g', rfl, hm', hg', hC, t1.to hT⟩
set_option maxRecDepth 100000 in
set_option maxHeartbeats 3200000 in
theorem ref_opened (w : World) (m g count : Nat) (M : List PSlot) (h : RefAt w m g M count) :
    Calls Tryd.prog 20 #[ptr m] w fun e w' => ∃ m' g', e = .returned (ptr m') ∧ w.heap.size ≤ m' ∧ w.heap.size ≤ g' ∧ RefAt w' m' g' (opened M) count ∧ Touch [] w w' := by
  have hfew := h.few
  have h1 := h.h1
  have h16 := h.sixteen
  go_enter Tryd.func20, Tryd.ntmps20
  go_wp2_with fail
  refine (ref_new _ count hfew).mono ?_
  rintro e w1 ⟨m', g', rfl, hm', hg', hN, t1⟩
  have hml := h.mlt
  have hgl := h.glt
  clear h1
  go_wp2_with fail
  go_loopw [4] (fun v wr => ∃ k : Nat, k ≤ 16 ∧ v = .int .i64 k ∧ RefAt wr m' g' (openedTo M k) count ∧ Touch [g'] w1 wr) (fun v _ => 16 - (intOf v).toNat)
  case atStart => exact ⟨0, by omega, rfl, by rw [openedTo_zero]; exact hN, Touch.refl _ _⟩
  case round =>
    obtain ⟨k, hk, rfl, hC, hT⟩ := hrel
    have hr := (h.to t1).to hT
    have m0 := hr.h0
    by_cases hlt : k < 16
    · obtain ⟨x, hx⟩ : ∃ x, M[k]? = some x := ⟨_, List.getElem?_eq_getElem (by omega)⟩
      have hsm := h.small x (List.mem_of_getElem? hx)
      obtain ⟨x0, x1, x2⟩ := hr.cell hx
      have tD := Touch.dr wr
      have hrD := hr.to tD
      have hCD := hC.to tD
      have rx := hrD.range hx
      cases hd : x.there && !x.marked with
      | false =>
        have hnx := openedTo_skip h16 hlt hx hd
        have HN := Lib.hid hnx
        clear hnx hx rx
        obtain ⟨xt, xm, xb⟩ := x
        simp only at hd x0 x1 x2
        cases xt with
        | false =>
          go_wp2_with fail
          go_roundw
          case rel => exact ⟨k + 1, by omega, by go_num, by rw [HN.out]; exact hC, hT⟩
          case measure => simp [intOf]; omega
        | true =>
          cases xm with
          | false => cases hd
          | true =>
            go_wp2_with fail
            go_roundw
            case rel => exact ⟨k + 1, by omega, by go_num, by rw [HN.out]; exact hC, hT⟩
            case measure => simp [intOf]; omega
      | true =>
        obtain ⟨xb, rfl⟩ : ∃ xb, x = ⟨true, false, xb⟩ := ⟨x.b, by obtain ⟨a, b, c⟩ := x; simp at hd; simp [hd.1, hd.2]⟩
        have hnx := openedTo_next h16 hlt hx
        rw [show (⟨true, false, xb⟩ : PSlot).open1 = ⟨true, false, xb⟩ from rfl] at hnx
        have HN := Lib.hid hnx
        have d0 := hrD.h0
        have n0 := hCD.h0
        have hw2 := hCD.there hlt
        have hput := hCD.put hlt ⟨true, false, xb⟩ hsm
        have tT := (hT.to tD).to (Touch.cells wr.drew g' (k * 3) (PSlot.cells ⟨true, false, xb⟩))
        have H0 := Lib.hid rx
        have HP := Lib.hid hput
        clear hnx hx rx hput
        simp only at x0 x1 x2
        go_wp2_with fail
        have rx := H0.out
        refine wp_region_by [⟨false, [0, 1, 2, 4, 5, 6, 7, 9], none⟩, ⟨true, [3, 8, 10, 11, 12], some 13⟩] (by kernel_rfl) (by kernel_rfl) ?_
        refine by_row ?_ (fun w' => ?_) ?_ ?_
        rotate_left
        · simp only [pick, nthOp]; go_wp2_with fail; refine And.intro ?_ ?_ <;> rfl
        · kernel_rfl
        refine by_here ?_ ?_ ?_ ?_
        rotate_left
        · simp only [pick, nthOp]; go_wp2_with (refine wp_load_pslot ⟨true, false, xb⟩ (b := g) (o := k * 3) ?_ rfl rfl rfl ?_; (with_reducible exact rx)); refine And.intro ?_ ?_ <;> rfl
        · kernel_rfl
        simp only [pick, nthOp]
        go_wp2_with (refine wp_store_pslot ⟨true, false, xb⟩ (b := g') (o := k * 3) ?_ rfl rfl rfl rfl ?_; (with_reducible exact hw2))
        refine by_onward ?_
        go_wp2_with fail
        go_roundw
        case rel => exact ⟨k + 1, by omega, by go_num, by rw [HN.out]; exact HP.out, tT⟩
        case measure => simp [intOf]; omega
    · have : k = 16 := by omega
      subst this
      go_wp2_with fail
      go_ret
      rw [openedTo_full h16] at hC
      exact ⟨m', g', rfl, hm', hg', hC, t1.to hT⟩
end Go.Proofs.YtdfgcenbkclpbaaDoor
