/- A record is written. -/
import Derived.Test.YtdfgcenbkclpbaaDoorConcat
namespace Go.Proofs.YtdfgcenbkclpbaaDoor
open Go.RowKit
set_option linter.unusedSimpArgs false
set_option linter.unusedVariables false
/-- bytes as words, the last one filled up with zeros -/
def padWords : List UInt8 → List W4
  | [] => []
  | [a] => [⟨a, 0, 0, 0⟩]
  | [a, b] => [⟨a, b, 0, 0⟩]
  | [a, b, c] => [⟨a, b, c, 0⟩]
  | a :: b :: c :: d :: r => ⟨a, b, c, d⟩ :: padWords r
theorem padWords_length : ∀ b : List UInt8, (padWords b).length = (b.length + 3) / 4
  | [] => by simp [padWords]
  | [_] => by simp [padWords]
  | [_, _] => by simp [padWords]
  | [_, _, _] => by simp [padWords]
  | a :: b :: c :: d :: r => by simp only [padWords, List.length_cons, padWords_length r]; omega
/-- the words of a record -/
def recWords (h : W4) (b : List UInt8) : List W4 := h :: (padWords b ++ [sumW h b])
theorem recWords_length (h : W4) (b : List UInt8) : (recWords h b).length = 2 + (b.length + 3) / 4 := by simp [recWords, padWords_length]; omega
theorem padWords_at : ∀ (b : List UInt8) (k : Nat) (x : W4), (padWords b)[k]? = some x → ∀ j, j < 4 → (b ++ [0, 0, 0])[4 * k + j]? = x.bytes[j]?
  | [], k, x, h, _, _ => by simp [padWords] at h
  | [a], k, x, h, j, hj => by
    match k, h with
    | 0, h => simp [padWords] at h; subst h; match j, hj with | 0, _ | 1, _ | 2, _ | 3, _ => simp [W4.bytes]
    | k + 1, h => simp [padWords] at h
  | [a, b], k, x, h, j, hj => by
    match k, h with
    | 0, h => simp [padWords] at h; subst h; match j, hj with | 0, _ | 1, _ | 2, _ | 3, _ => simp [W4.bytes]
    | k + 1, h => simp [padWords] at h
  | [a, b, c], k, x, h, j, hj => by
    match k, h with
    | 0, h => simp [padWords] at h; subst h; match j, hj with | 0, _ | 1, _ | 2, _ | 3, _ => simp [W4.bytes]
    | k + 1, h => simp [padWords] at h
  | a :: b :: c :: d :: r, k, x, h, j, hj => by
    match k, h with
    | 0, h => simp [padWords] at h; subst h; match j, hj with | 0, _ | 1, _ | 2, _ | 3, _ => simp [W4.bytes]
    | k + 1, h =>
      rw [padWords, List.getElem?_cons_succ] at h
      rw [← padWords_at r k x h j hj, show 4 * (k + 1) + j = 4 * k + j + 1 + 1 + 1 + 1 by omega]
      simp only [List.cons_append, List.getElem?_cons_succ]
theorem info_word : ∃ i, Tryd.prog.info? 30 = some i ∧ i.zero = some (.agg zeroW) ∧ i.size = 4 ∧ i.bytes = 4 := by
  have hi : (Tryd.prog.info? 30).map (fun i => (i.zero, i.size, i.bytes)) = some (some (.agg zeroW), 4, 4) := by kernel_rfl
  obtain ⟨i, h⟩ := info_parts hi
  exact ⟨i, h⟩
/-- append of a word to a slice of the call's own -/
theorem wp_append_word {ops : Array Oper} {rest : List Oper} {o : Oper} {a : Act} {w : World} {Q : Exit → Act → World → Prop} {s x : Operand}
    (base : Nat) (v : Value) (n : Nat) (xs : List W4) (g : Nat) (y : W4)
    (ho : o.op = .call { callee := .builtin .append, args := #[s, x], argTypes := #[117, 117] }) (hgd : o.guard = none)
    (hs : a.eval s = v) (hx : a.eval x = .slice (some ⟨g, 0, none⟩) 1 1) (hown : w.ownsRow base 30 4 v n (wordCells xs)) (hy : w.rangeAt g 0 y.cells)
    (hn : n ≤ 100000) (hbase : base ≤ w.heap.size)
    (h : ∀ v' w', w'.ownsRow base 30 4 v' (n + 1) (wordCells (xs ++ [y])) → w.grownBy w' v.ownBlock → wpList Tryd.prog ops Q rest (a.put o.dst v') w') : wpList Tryd.prog ops Q (o :: rest) a w := by
  obtain ⟨i, hi, hz, hsz, hby⟩ := info_word
  refine wpList_append_own w hgd s x 117 ho base 30 i _ 4 4 Tryd.underlying117 hi hz hsz hby rfl (by omega) v n (wordCells xs) hs hown ⟨g, 0, none⟩ 1 1 y.cells hx rfl (fun j u hu => ?_) (fun u hu => ?_) (by unfold maxLen; omega) (by omega) hbase fun v' w' h1 h2 _ => h v' w' (by rw [wordCells_append]; simpa [wordCells] using h1) h2
  · rw [Addr.add_mid]; exact hy j u hu
  · simp [W4.cells] at hu; rcases hu with rfl | rfl | rfl | rfl <;> rfl
theorem ownsRow_cells {w : World} {base : Nat} {e : TypeId} {size : Nat} {v : Value} {n : Nat} {xs : List Value} (h : w.ownsRow base e size v n xs) (hp : 0 < n) : ∃ g cap, v = .slice (some ⟨g, 0, none⟩) n cap ∧ base ≤ g ∧ g < w.heap.size ∧ n ≤ cap ∧ OwnAt w g 0 xs := by
  obtain ⟨h1, h2⟩ := h
  rcases h2 with h2 | ⟨g, cap, cur, rfl, hb, hg, hnc, _, hs, rfl⟩
  · omega
  · refine ⟨g, cap, rfl, hb, (Array.getElem?_eq_some_iff.1 hg).1, hnc, OwnAt.block hg _ (fun j u hu => ?_) (Or.inr (Nat.zero_le _))⟩
    rw [List.getElem?_take] at hu
    split at hu
    · simpa using hu
    · cases hu
theorem Fl.write_code (F : Fl) (k : Nat) (y : W4) : (F.write k y).1 = 0 ∨ (F.write k y).1 = 7 ∨ (F.write k y).1 = 51 := by
  unfold Fl.write; split
  · simp
  · split <;> simp
theorem wp_load_half {ops : Array Oper} {rest : List Oper} {op : Oper} {a : Act} {w : World} {Q : Exit → Act → World → Prop} {x : Operand} {b o f first count : Nat} (hc : w.rangeAt b o [ptr f, .int .i64 first, .int .i64 count]) (hgd : op.guard = none) (ho : op.op = .load 73 x)
    (hx : a.eval x = .pointer (some ⟨b, o, none⟩)) (h : wpList Tryd.prog ops Q rest (a.put op.dst (halfV f first count)) w) : wpList Tryd.prog ops Q (op :: rest) a w :=
  wpList_load_mid hgd 73 x ho b o hx _ _ hc Tryd.underlying73 rfl (by kernel_rfl) h
theorem half_put' {iv : Int} (w : World) (f s : Nat) (F : Fl) (first count i : Nat) (hiv : iv = i) (y : W4) (h : FlashAt w f s F) (ho : F.off = false) (hc : first + count ≤ F.count) (hi : i < 256 * count) :
    Calls Tryd.prog 54 #[halfV f first count, .int .i64 iv, y.val] w fun e w' => e = .returned (.int .i64 (F.write (256 * first + i) y).1) ∧ FlashAt w' f s (F.write (256 * first + i) y).2 ∧ Touch [f, s] w w' := by
  subst hiv; exact half_put w f s F first count i y h ho hc hi
/-- words, written one behind the other -/
def Fl.writes (F : Fl) (k : Nat) : List W4 → Int × Fl
  | [] => (0, F)
  | y :: r => if (F.write k y).1 = 0 then (F.write k y).2.writes (k + 1) r else F.write k y
theorem make_three (W : World) : (Instr.makeSlice 22 (.int .i64 3) (.int .i64 3)).run Tryd.prog W = .ok (.slice (some ⟨W.heap.size, 0, none⟩) 3 3) (W.alloc (.cells #[Value.int .u8 0, Value.int .u8 0, Value.int .u8 0] 5)) := by
  have := run_make_row' (P := Tryd.prog) 22 5 (.int .u8 0) 1 Tryd.underlying22 (by kernel_rfl) rfl .i64 .i64 3 (by omega) (by omega) W
  rw [show madeCells #[Value.int IntKind.u8 0] 3 = #[Value.int .u8 0, Value.int .u8 0, Value.int .u8 0] from made_row _ _] at this
  exact this
set_option maxRecDepth 100000 in
set_option maxHeartbeats 800000 in
theorem half_write (w : World) (f s : Nat) (F : Fl) (first count at_ : Nat) (h : W4) (A : Option Addr) (c : Nat) (b : List UInt8) (hF : FlashAt w f s F) (ho : F.off = false) (hc : first + count ≤ F.count)
    (hb : b.length ≤ 4096) (hfit : at_ + (2 + (b.length + 3) / 4) ≤ 256 * count) (hA : SliceAt w A (b.map u8v)) (hnil : A = none → b.length = 0 ∧ c = 0) :
    Calls Tryd.prog 52 #[halfV f first count, .int .i64 at_, recV h A b.length c] w fun e w' => e = .returned (.int .i64 (F.writes (256 * first + at_) (recWords h b)).1) ∧ FlashAt w' f s (F.writes (256 * first + at_) (recWords h b)).2 ∧ Touch [f, s] w w' := by
  have hfl := hF.flt
  have hsl := hF.slt
  have hfew := hF.few
  have hT := ((Touch.refl [] w).alloc (.cells #[ptr f, .int .i64 first, .int .i64 count] 73)).alloc (.cells #[u8v h.a, u8v h.b, u8v h.c, u8v h.d, .slice A b.length c] 98)
  have hO1 := (OwnAt.new w #[ptr f, .int .i64 first, .int .i64 count] 73).alloc (.cells #[u8v h.a, u8v h.b, u8v h.c, u8v h.d, .slice A b.length c] 98)
  have hO2 := OwnAt.new' (w.alloc (.cells #[ptr f, .int .i64 first, .int .i64 count] 73)) #[u8v h.a, u8v h.b, u8v h.c, u8v h.d, .slice A b.length c] 98 (g := w.heap.size + 1) (by simp)
  have hA1 := hA.touch hT (by simp)
  have hF1 := hF.touch hT (by simp) (by simp)
  have hmk := make_three
  go_enter Tryd.func52, Tryd.ntmps52
  go_wp2_with fail
  refine wp_region_legs (fun w' => OwnAt w' (w.heap.size + 1) 0 (recCells h A b.length c)) [⟨[0, 1], some 2⟩, ⟨[], some 3⟩, ⟨[], some 4⟩, ⟨[5], none⟩] (by kernel_rfl) (by kernel_rfl) ?_
  refine legs_onS ?_ hO2.drew (fun w' hSw => ?_) ?_ ?_
  rotate_left
  · have c4 := hSw.get 4 (by simp)
    simp only [Nat.zero_add, List.getElem_cons_zero, List.getElem_cons_succ] at c4
    simp only [pick, nthOp]; go_wp2_with fail; refine And.intro ?_ ?_ <;> rfl
  · kernel_rfl
  simp only [pick, nthOp]
  go_wp2_with fail
  refine legs_nextS (hO2.drew.alloc _) ?_
  refine legs_onS ?_ (hO2.drew.alloc _) (fun w' hSw => ?_) ?_ ?_
  rotate_left
  · simp only [pick, nthOp]; go_wp2_with fail; refine And.intro ?_ ?_ <;> rfl
  · kernel_rfl
  simp only [pick, nthOp]
  go_wp2_with fail
  have hZ3 : SliceAt ((((w.alloc (.cells #[ptr f, .int .i64 first, .int .i64 count] 73)).alloc (.cells #[u8v h.a, u8v h.b, u8v h.c, u8v h.d, .slice A b.length c] 98)).alloc (.cells #[Value.int .u8 0, Value.int .u8 0, Value.int .u8 0] 5)).alloc (.cells #[Value.slice A b.length c, Value.slice (some ⟨w.heap.size + 1 + 1, 0, none⟩) 3 3] 22)).drew (some ⟨w.heap.size + 1 + 1, 0, none⟩) (([0, 0, 0] : List UInt8).map u8v) :=
    ((OwnAt.new' (g := w.heap.size + 1 + 1) (hg := by simp) (w := (w.alloc (.cells #[ptr f, .int .i64 first, .int .i64 count] 73)).alloc (.cells #[u8v h.a, u8v h.b, u8v h.c, u8v h.d, .slice A b.length c] 98)) (cs := #[Value.int .u8 0, Value.int .u8 0, Value.int .u8 0]) (t := 5)).alloc _).drew.slice
  have hBB := ((OwnAt.new' (g := w.heap.size + 1 + 1 + 1) (hg := by simp) (w := ((w.alloc (.cells #[ptr f, .int .i64 first, .int .i64 count] 73)).alloc (.cells #[u8v h.a, u8v h.b, u8v h.c, u8v h.d, .slice A b.length c] 98)).alloc (.cells #[Value.int .u8 0, Value.int .u8 0, Value.int .u8 0] 5)) (cs := #[Value.slice A b.length c, Value.slice (some ⟨w.heap.size + 1 + 1, 0, none⟩) 3 3]) (t := 22))).drew.slice
  have hTW := ((hT.alloc (.cells #[Value.int .u8 0, Value.int .u8 0, Value.int .u8 0] 5)).alloc (.cells #[Value.slice A b.length c, Value.slice (some ⟨w.heap.size + 1 + 1, 0, none⟩) 3 3] 22)).drew
  have hO1W := ((hO1.alloc (.cells #[Value.int .u8 0, Value.int .u8 0, Value.int .u8 0] 5)).alloc (.cells #[Value.slice A b.length c, Value.slice (some ⟨w.heap.size + 1 + 1, 0, none⟩) 3 3] 22)).drew
  have hO2W := ((hO2.alloc (.cells #[Value.int .u8 0, Value.int .u8 0, Value.int .u8 0] 5)).alloc (.cells #[Value.slice A b.length c, Value.slice (some ⟨w.heap.size + 1 + 1, 0, none⟩) 3 3] 22)).drew
  have hAW := hA.touch hTW (by simp)
  have hFW := hF.touch hTW (by simp) (by simp)
  clear hO1 hO2 hT hA1 hF1 hmk
  change onward _ _ _ (World.drew _)
  generalize ((((w.alloc (.cells #[ptr f, .int .i64 first, .int .i64 count] 73)).alloc (.cells #[u8v h.a, u8v h.b, u8v h.c, u8v h.d, .slice A b.length c] 98)).alloc (.cells #[Value.int .u8 0, Value.int .u8 0, Value.int .u8 0] 5)).alloc (.cells #[Value.slice A b.length c, Value.slice (some ⟨w.heap.size + 1 + 1, 0, none⟩) 3 3] 22)).drew = W at *
  refine legs_nextS hO2W ?_
  refine legs_onS ?_ hO2W (fun w' hSw => ?_) ?_ ?_
  rotate_left
  · simp only [pick, nthOp]; go_wp2_with fail; refine And.intro ?_ ?_ <;> rfl
  · kernel_rfl
  simp only [pick, nthOp]
  go_wp2_with fail
  refine (concat_two W (w.heap.size + 1 + 1 + 1) A (some ⟨w.heap.size + 1 + 1, 0, none⟩) c 3 b [0, 0, 0] (by omega) (by simp) (by simp) hBB hAW hZ3 hnil (by simp)).mono ?_
  rintro e w1 ⟨pv, rfl, hP, hT1⟩
  have hO2V := hO2W.touch hT1 (by simp)
  go_wp2_with fail
  refine legs_nextS hO2V ?_
  refine legs_rowS ?_ hO2V (fun w' hSw => ?_) ?_ ?_
  rotate_left
  · simp only [pick, nthOp]; go_wp2_with fail; refine And.intro ?_ ?_ <;> rfl
  · kernel_rfl
  refine legs_endS ?_
  have hO1V := hO1W.touch hT1 (by simp)
  have hAV := hAW.touch hT1 (by simp)
  have hFV := hFW.touch hT1 (by simp) (by simp)
  have hTV := hTW.trans hT1
  have hz := hTW.size
  clear hO1W hO2W hAW hFW hTW hT1 hBB hZ3
  obtain ⟨g, pc, rfl, hg, hglt, hpc, hPO⟩ := ownsRow_own hP (ownsRow_some hP (by simp))
  have hr : w1.rangeAt (w.heap.size + 1) 0 h.cells := fun j v hv => hO2V.all j v (by
    match j, hv with
    | 0, hv | 1, hv | 2, hv | 3, hv => simpa [W4.cells] using hv
    | _ + 4, hv => simp [W4.cells] at hv)
  have c4 := hO2V.get 4 (by simp)
  simp only [Nat.zero_add, List.getElem_cons_zero, List.getElem_cons_succ] at c4
  go_wp2_with (refine wp_load_word (y := h) (b := w.heap.size + 1) (o := 0) ?_ rfl rfl rfl ?_; (with_reducible exact hr))
  have hR1 : (w1.alloc (.cells #[u8v h.a, u8v h.b, u8v h.c, u8v h.d] 30)).ownsRow w1.heap.size 30 4 (.slice (some ⟨w1.heap.size, 0, none⟩) 1 1) 1 (wordCells [h]) := World.ownsRow_lit (base := w1.heap.size) w1 #[u8v h.a, u8v h.b, u8v h.c, u8v h.d] 1 (Nat.le_refl _) (by decide) rfl
  have hU1 := (Touch.refl [] w1).alloc (.cells #[u8v h.a, u8v h.b, u8v h.c, u8v h.d] 30)
  have hlp := padWords_length b
  go_loopw [8, 9] (fun v8 v9 wr => ∃ k : Nat, k ≤ (b.length + 3) / 4 ∧ v9 = .int .i64 ((4 * k : Nat) : Int) ∧ wr.ownsRow w1.heap.size 30 4 v8 (1 + k) (wordCells (h :: (padWords b).take k)) ∧ Touch [] w1 wr) (fun _ v _ => b.length + 4 - (intOf v).toNat)
  case atStart => exact ⟨0, by omega, rfl, hR1, hU1⟩
  case round =>
    obtain ⟨k, hk, rfl, hR, hU⟩ := hrel
    have d4 := hU.cell c4 (by simp)
    by_cases hlt : 4 * k < b.length
    · have hk' : k < (padWords b).length := by rw [hlp]; omega
      obtain ⟨x, hx⟩ : ∃ x, (padWords b)[k]? = some x := ⟨_, List.getElem?_eq_getElem hk'⟩
      have hrx : wr.rangeAt g (4 * k) x.cells := by
        have := (hPO.touch hU (by simp)).range (i := 4 * k) (cs := x.cells) (fun j v hv => by
          have hj : j < 4 := (List.getElem?_eq_some_iff.1 hv).1
          rw [List.getElem?_map, padWords_at b k x hx j hj]
          rw [← hv]
          match j, hj with | 0, _ | 1, _ | 2, _ | 3, _ => rfl)
        rwa [Nat.zero_add] at this
      have hlt' : (((4 * k : Nat) : Int)) < (b.length : Int) := by omega
      have q2 : 4 * (k : Int) + 4 ≤ (pc : Int) := by simp at hpc; omega
      have q3 : ¬ pc = 4 * k := by omega
      have q4 := fun W => run_arrayAt (P := Tryd.prog) W 30 5 4 (some ⟨g, 4 * k, none⟩) 4 (pc - 4 * k) Tryd.underlying30 (Nat.le_refl _)
      have hU2 := hU.alloc (.cells #[u8v x.a, u8v x.b, u8v x.c, u8v x.d] 30)
      have hy : (wr.alloc (.cells #[u8v x.a, u8v x.b, u8v x.c, u8v x.d] 30)).rangeAt wr.heap.size 0 x.cells := (OwnAt.new wr #[u8v x.a, u8v x.b, u8v x.c, u8v x.d] 30).all
      have hR2 := hR.alloc (.cells #[u8v x.a, u8v x.b, u8v x.c, u8v x.d] 30)
      go_wp2_with (first | (refine wp_load_word (y := x) (b := g) (o := 4 * k) ?_ rfl rfl rfl ?_; (with_reducible exact hrx)) | (at_builtin; refine wp_append_word w1.heap.size u8 (1 + k) (h :: (padWords b).take k) wr.heap.size x rfl rfl rfl rfl ?_ ?_ (by omega) ?_ ?_; exact hR2; exact hy; exact hU2.size))
      intro v' w2 hR3 hg3
      have hU3 := hU2.grown hg3 (fun k hk => Or.inr (hR2.lt k hk).1)
      go_wp2_with fail
      go_roundw
      case rel =>
        refine ⟨k + 1, by omega, by go_num, ?_, hU3⟩
        have e : (padWords b).take (k + 1) = (padWords b).take k ++ [x] := by rw [List.take_add_one, hx]; rfl
        rw [e, show 1 + (k + 1) = 1 + k + 1 by omega]; exact hR3
      case measure => simp [intOf]; omega
    · have hkk : k = (b.length + 3) / 4 := by omega
      have hfull : (padWords b).take k = padWords b := List.take_of_length_le (by rw [hlp]; omega)
      rw [hfull] at hR
      have hlt' : (b.length : Int) ≤ 4 * (k : Int) := by omega
      have hO2r := (hO2V.touch hU (by simp)).all
      have hAr := hAV.touch hU (by simp)
      have hUs := hU.size
      go_wp2_with (first | (refine wp_load_rec (y := h) (A := A) (n := b.length) (c := c) (b := w.heap.size + 1) (o := 0) ?_ rfl rfl rfl ?_; (with_reducible exact hO2r)))
      refine (rec_sum wr h A c b (by omega) hAr).mono ?_
      rintro e w2 ⟨rfl, hT2⟩
      have hR2 := (ownsRow_touch hR hT2 (by simp)).alloc (.cells #[u8v (sumW h b).a, u8v (sumW h b).b, u8v (sumW h b).c, u8v (sumW h b).d] 30)
      have hU2 := (hU.trans hT2).alloc (.cells #[u8v (sumW h b).a, u8v (sumW h b).b, u8v (sumW h b).c, u8v (sumW h b).d] 30)
      have hy : (w2.alloc (.cells #[u8v (sumW h b).a, u8v (sumW h b).b, u8v (sumW h b).c, u8v (sumW h b).d] 30)).rangeAt w2.heap.size 0 (sumW h b).cells := (OwnAt.new w2 #[u8v (sumW h b).a, u8v (sumW h b).b, u8v (sumW h b).c, u8v (sumW h b).d] 30).all
      go_wp2_with (at_builtin; refine wp_append_word w1.heap.size u8 (1 + k) (h :: padWords b) w2.heap.size (sumW h b) rfl rfl rfl rfl ?_ ?_ (by omega) ?_ ?_; exact hR2; exact hy; exact hU2.size)
      intro v' w3 hR3 hg3
      have hU3 := hU2.grown hg3 (fun k hk => Or.inr (hR2.lt k hk).1)
      clear hR2 hU2 hy hg3 hR hU hO2r hAr
      obtain ⟨gg, pc2, rfl, hgg, hgglt, hpc2, hQO⟩ := ownsRow_cells hR3 (by omega)
      have hn' : 1 + (b.length + 3) / 4 + 1 = (recWords h b).length := by rw [recWords_length]; omega
      have hF3 := hFV.touch hU3 (by simp) (by simp)
      have hO3 := hO1V.touch hU3 (by simp)
      have hT3 : Touch [f, s] w w3 := (hTV.trans (hU3.mono (by simp))).mono (by simp)
      have hwz := hTV.size
      have hQO' : OwnAt w3 gg 0 (wordCells (recWords h b)) := hQO
      rw [hn']
      have hwn : (recWords h b).length ≤ 2000 := by rw [recWords_length]; omega
      have hwf : at_ + (recWords h b).length ≤ 256 * count := by rw [recWords_length]; exact hfit
      clear hR3 hU3 hQO hfull hlp hkk hlt hlt' hF hA hFV hO1V hO2V hAV hP hPO hr c4 hR1 hU1 hn' hfit hnil
      go_wp2_with fail
      go_loopw [44] (fun v wr => ∃ (j : Nat) (G : Fl), j ≤ (recWords h b).length ∧ v = .int .i64 j ∧ FlashAt wr f s G ∧ G.off = false ∧ G.count = F.count ∧ F.writes (256 * first + at_) (recWords h b) = G.writes (256 * first + at_ + j) ((recWords h b).drop j) ∧ Touch [f, s] w wr ∧ OwnAt wr w.heap.size 0 [ptr f, .int .i64 first, .int .i64 count] ∧ OwnAt wr gg 0 (wordCells (recWords h b))) (fun v _ => (recWords h b).length - (intOf v).toNat)
      case atStart => exact ⟨0, F, by omega, rfl, hF3, ho, rfl, by simp, hT3, hO3, hQO'⟩
      case round =>
        obtain ⟨j, G, hj, rfl, hG, hgo, hgc, heq, hT, hO, hQ⟩ := hrel
        have HE := Lib.hid heq
        clear heq hF3 hT3 hO3 hQO'
        by_cases hlt : j < (recWords h b).length
        · obtain ⟨x, hx⟩ : ∃ x, (recWords h b)[j]? = some x := ⟨_, List.getElem?_eq_getElem hlt⟩
          have hrx : wr.rangeAt gg (j * 4) x.cells := by
            have := hQ.range (i := 4 * j) (cs := x.cells) (fun i v hv => wordCells_at hx hv)
            rwa [Nat.zero_add, Nat.mul_comm] at this
          have hlt' : (j : Int) < ((recWords h b).length : Int) := by omega
          have hOW := (hO.alloc (.cells #[u8v x.a, u8v x.b, u8v x.c, u8v x.d] 30)).all
          have hXW := (OwnAt.new wr #[u8v x.a, u8v x.b, u8v x.c, u8v x.d] 30).all
          have hGW := hG.alloc (.cells #[u8v x.a, u8v x.b, u8v x.c, u8v x.d] 30)
          have hTW := hT.alloc (.cells #[u8v x.a, u8v x.b, u8v x.c, u8v x.d] 30)
          have hO2 := hO.alloc (.cells #[u8v x.a, u8v x.b, u8v x.c, u8v x.d] 30)
          have hQ2 := hQ.alloc (.cells #[u8v x.a, u8v x.b, u8v x.c, u8v x.d] 30)
          go_wp2_with (first | (refine wp_load_word (y := x) ?_ rfl rfl rfl ?_; (with_reducible exact hrx)) | (refine wp_load_half (f := f) (first := first) (count := count) ?_ rfl rfl rfl ?_; (with_reducible exact hOW)) | (refine wp_load_word (y := x) ?_ rfl rfl rfl ?_; (with_reducible exact hXW)))
          refine (half_put' _ f s G first count (at_ + j) (by simp) x hGW hgo (by omega) (by omega)).mono ?_
          rintro e w4 ⟨rfl, hG1, hT1⟩
          have hst := HE.out
          rw [List.drop_eq_getElem_cons hlt, Fl.writes, show (recWords h b)[j] = x from (List.getElem?_eq_some_iff.1 hx).2, show 256 * first + at_ + j = 256 * first + (at_ + j) by omega] at hst
          have hcnt := Fl.write_count G (256 * first + (at_ + j)) x
          have hcode := Fl.write_code G (256 * first + (at_ + j)) x
          by_cases hz : (G.write (256 * first + (at_ + j)) x).1 = 0
          · rw [if_pos hz] at hst
            have hoff := Fl.write_off hgo (k := 256 * first + (at_ + j)) (y := x) (by rw [hz]; decide)
            rw [hz]
            have HS := Lib.hid hst
            clear hst hz hcode
            generalize (G.write (256 * first + (at_ + j)) x).2 = G2 at *
            go_wp2_with fail
            go_roundw
            case rel => exact ⟨j + 1, G2, by omega, by go_num, hG1, hoff, hcnt.trans hgc, by rw [HS.out]; congr 1; omega, hTW.trans hT1, hO2.touch hT1 (by simp; omega), hQ2.touch hT1 (by simp; omega)⟩
            case measure => simp [intOf]; omega
          · rw [if_neg hz] at hst
            have HS := Lib.hid hst
            clear hst
            have hne : ((G.write (256 * first + (at_ + j)) x).1 != 0) = true := bne_iff_ne.2 hz
            clear hz hcode
            go_wp2_with fail
            go_ret
            rw [HS.out]
            exact ⟨rfl, hG1, hTW.trans hT1⟩
        · have : j = (recWords h b).length := by omega
          have hend := HE.out
          rw [this, List.drop_length, Fl.writes] at hend
          have HH := Lib.hid hend
          clear HE hend
          have hlt' : ((recWords h b).length : Int) ≤ (j : Int) := by omega
          clear this
          go_wp2_with fail
          go_ret
          rw [HH.out]
          exact ⟨rfl, hG, hT⟩
end Go.Proofs.YtdfgcenbkclpbaaDoor
