/- Slices that grow: append, slices.Clone, slices.Concat. -/
import Derived.Test.YtdfgcenbkclpbaaDoorRec
import Derived.Laws.AppendOwnNone
import Derived.Laws.Cover3
namespace Go.Proofs.YtdfgcenbkclpbaaDoor
open Go.RowKit
set_option linter.unusedSimpArgs false
set_option linter.unusedVariables false
theorem Touch.grown {S : List Nat} {a w w' : World} {row : Option Nat} (h : Touch S a w) (hg : w.grownBy w' row) (hr : ∀ k, row = some k → k ∈ S ∨ a.heap.size ≤ k) : Touch S a w' :=
  ⟨hg.os.trans h.os, hg.tape.trans h.tape, hg.output.trans h.output, Nat.le_trans h.size hg.size, fun k hk hn => by
    rw [hg.block k (Nat.lt_of_lt_of_le hk h.size) fun e => by rcases hr k e.symm with h1 | h1; exact hn h1; omega]
    exact h.block k hk hn⟩
theorem ownsRow_touch {S : List Nat} {w w' : World} {base : Nat} {e : TypeId} {size : Nat} {v : Value} {n : Nat} {xs : List Value} (h : w.ownsRow base e size v n xs) (ht : Touch S w w') (hn : ∀ k, v.ownBlock = some k → k ∉ S) : w'.ownsRow base e size v n xs := by
  obtain ⟨h1, h2⟩ := h
  refine ⟨h1, ?_⟩
  rcases h2 with h2 | ⟨g, cap, cur, rfl, hb, hg, r⟩
  · exact .inl h2
  · refine .inr ⟨g, cap, cur, rfl, hb, ?_, r⟩
    rw [ht.block g (Array.getElem?_eq_some_iff.1 hg).1 (hn g rfl)]; exact hg
theorem ownsRow_own {w : World} {base : Nat} {e : TypeId} {v : Value} {n : Nat} {xs : List Value} (h : w.ownsRow base e 1 v n xs) (hp : v ≠ .slice none 0 0) : ∃ g cap, v = .slice (some ⟨g, 0, none⟩) n cap ∧ base ≤ g ∧ g < w.heap.size ∧ n ≤ cap ∧ OwnAt w g 0 xs := by
  obtain ⟨h1, h2⟩ := h
  rcases h2 with h2 | ⟨g, cap, cur, rfl, hb, hg, hnc, _, hs, rfl⟩
  · exact absurd h2.1 hp
  · refine ⟨g, cap, rfl, hb, (Array.getElem?_eq_some_iff.1 hg).1, hnc, OwnAt.block hg _ (fun j u hu => ?_) (Or.inr (Nat.zero_le _))⟩
    rw [List.getElem?_take] at hu
    split at hu
    · simpa using hu
    · cases hu
theorem ownsRow_some {w : World} {base : Nat} {e : TypeId} {size : Nat} {v : Value} {n : Nat} {xs : List Value} (h : w.ownsRow base e size v n xs) (hn : 0 < n) : v ≠ .slice none 0 0 := by
  rintro rfl
  obtain ⟨_, h | ⟨g, cap, cur, e, _⟩⟩ := h
  · omega
  · cases e
theorem ownsRow_slice {w : World} {base : Nat} {e : TypeId} {v : Value} {n : Nat} {xs : List Value} (h : w.ownsRow base e 1 v n xs) : ∃ A cap, v = .slice A n cap ∧ SliceAt w A xs ∧ n ≤ cap ∧ ∀ x, A = some x → base ≤ x.block := by
  by_cases hp : v = .slice none 0 0
  · subst hp
    obtain ⟨h1, h2 | ⟨g, cap, cur, e, _⟩⟩ := h
    · obtain ⟨_, rfl⟩ := h2
      have : xs = [] := List.length_eq_zero_iff.1 (by simpa using h1)
      subst this
      exact ⟨none, 0, rfl, .nil _ _, by omega, by simp⟩
    · cases e
  · obtain ⟨g, cap, rfl, hb, _, hc, ho⟩ := ownsRow_own h hp
    exact ⟨_, cap, rfl, ho.slice, hc, by rintro x ⟨⟩; exact hb⟩
theorem info_u8 : ∃ i, Tryd.prog.info? 5 = some i ∧ i.zero = some (.int .u8 0) ∧ i.size = 1 ∧ i.bytes = 1 := by
  have hi : (Tryd.prog.info? 5).map (fun i => (i.zero, i.size, i.bytes)) = some (some (.int .u8 0), 1, 1) := by kernel_rfl
  obtain ⟨i, h⟩ := info_parts hi
  exact ⟨i, h⟩
set_option maxRecDepth 100000 in
/-- append of bytes to a slice of the call's own -/
theorem wp_append_u8 {ops : Array Oper} {rest : List Oper} {o : Oper} {a : Act} {w : World} {Q : Exit → Act → World → Prop} {s x : Operand}
    (base : Nat) (v : Value) (n : Nat) (xs : List UInt8) (AX : Option Addr) (m c : Nat) (news : List UInt8)
    (ho : o.op = .call { callee := .builtin .append, args := #[s, x], argTypes := #[22, 22] }) (hgd : o.guard = none)
    (hs : a.eval s = v) (hx : a.eval x = .slice AX m c) (hown : w.ownsRow base 5 1 v n (xs.map u8v)) (hX : SliceAt w AX (news.map u8v)) (hm : news.length = m) (hnil : AX = none → m = 0 ∧ c = 0)
    (hbytes : n + m ≤ 140737488355328) (hbase : base ≤ w.heap.size)
    (h : ∀ v' w', w'.ownsRow base 5 1 v' (n + m) ((xs ++ news).map u8v) → w.grownBy w' v.ownBlock → (v' = .slice none 0 0 ↔ v = .slice none 0 0 ∧ m = 0) → wpList Tryd.prog ops Q rest (a.put o.dst v') w') : wpList Tryd.prog ops Q (o :: rest) a w := by
  obtain ⟨i, hi, hz, hsz, hby⟩ := info_u8
  cases AX with
  | none =>
    obtain ⟨rfl, rfl⟩ := hnil rfl
    have : news = [] := List.length_eq_zero_iff.1 hm
    subst this
    refine wpList_append_own_none hgd s x 22 ho base 5 i 1 Tryd.underlying22 hi v n _ hs hown hx ?_
    refine h v w (by simpa using hown) ⟨rfl, rfl, rfl, Nat.le_refl _, fun _ _ _ => rfl⟩ (by simp)
  | some ad =>
    refine wpList_append_own w hgd s x 22 ho base 5 i (.int .u8 0) 1 1 Tryd.underlying22 hi hz hsz hby rfl (by omega) v n (xs.map u8v) hs hown ad m c (news.map u8v) hx (by simpa using hm) (fun j u hu => ?_) (fun u hu => ?_) (by unfold maxLen; omega) (by omega) hbase fun v' w' h1 h2 h3 => h v' w' (by simpa using h1) h2 h3
    · rcases hX.is with h0 | ⟨b, off, e, hc⟩
      · rw [h0] at hu; simp at hu
      · injection e with e; subst e; rw [Addr.add_mid']; exact hc j u hu
    · obtain ⟨y, _, rfl⟩ := List.mem_map.1 hu; rfl
theorem run_eql_nil (w : World) (A : Option Addr) (n c : Nat) : (binOp .eql 22 (.slice A n c) (.slice none 0 0)).run Tryd.prog w = .ok (.bool A.isNone) w := by
  simp only [binOp]
  simp [run_equal_slice_nil w 22 5 A n c Tryd.underlying22]
set_option maxRecDepth 100000 in
theorem clone_any (w : World) (A : Option Addr) (c : Nat) (b : List UInt8) (hb : b.length ≤ 140737488355328) (hA : SliceAt w A (b.map u8v)) (hnil : A = none → b.length = 0 ∧ c = 0) :
    Calls Tryd.prog 42 #[.slice A b.length c] w fun e w' => ∃ v, e = .returned v ∧ w'.ownsRow w.heap.size 5 1 v b.length (b.map u8v) ∧ Touch [] w w' := by
  have hq := fun W => run_eql_nil W A b.length c
  cases A with
  | none =>
    obtain ⟨h0, rfl⟩ := hnil rfl
    have : b = [] := List.length_eq_zero_iff.1 h0
    subst this
    simp only [List.length_nil] at hq
    go_enter Tryd.func42, Tryd.ntmps42
    go_wp2_with fail
    go_ret
    exact ⟨_, rfl, World.ownsRow_nil _ _ _ _, Touch.refl _ _⟩
  | some ad =>
    have hO : (w.alloc (.cells #[] 5)).ownsRow w.heap.size 5 1 (.slice (some ⟨w.heap.size, 0, none⟩) 0 0) 0 (([] : List UInt8).map u8v) := World.ownsRow_made (base := w.heap.size) w #[] 0 (Nat.le_refl _) (by decide) rfl
    have hT := (Touch.refl [] w).alloc (.cells #[] 5)
    have hA2 := hA.touch hT (by simp)
    go_enter Tryd.func42, Tryd.ntmps42
    go_wp2_with (at_builtin; refine wp_append_u8 w.heap.size _ 0 [] (some ad) b.length c b rfl rfl rfl rfl ?_ ?_ rfl (by simp) (by omega) ?_ ?_; exact hO; exact hA2; simp)
    intro v' w' h1 h2 h3
    go_wp2_with fail
    go_ret
    exact ⟨v', rfl, by simpa using h1, hT.grown h2 (by rintro k ⟨⟩; exact Or.inr (Nat.le_refl _))⟩
end Go.Proofs.YtdfgcenbkclpbaaDoor
