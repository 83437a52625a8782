/- The examples' rows of calls. -/
import Derived.Test.YtdfgcenbkclpbaaDoorGame
import Derived.Deep.DeepAppendWide
namespace Go.Proofs.YtdfgcenbkclpbaaDoor
open Go.RowKit
set_option linter.unusedSimpArgs false
set_option linter.unusedVariables false
theorem info_op : ∃ i, Tryd.prog.info? 45 = some i ∧ i.zero = some (.agg #[.int .u8 0, .int .u8 0, .slice none 0 0, .int .u16 0]) ∧ i.size = 4 ∧ i.bytes = 40 := info_parts (by kernel_rfl)
/-- calls in memory of the function's own -/
structure OpsOwn (w : World) (base : Nat) (v : Value) (l : List OpP) : Prop where
  own : w.ownsRow base 45 4 v l.length (rows OpP.cells l)
  each : ∀ x ∈ l, OpOk w x ∧ x.b.length ≤ 10 ∧ ∀ y, x.a = some y → base ≤ y.block ∧ ∃ cur, w.heap[y.block]? = some (.cells cur 5)
theorem rows_app {α : Type} (c : α → List Value) (l m : List α) : rows c (l ++ m) = rows c l ++ rows c m := by unfold rows; rw [List.flatMap_append]
theorem opcells_one {l : List OpP} : ∀ u ∈ rows OpP.cells l, u.oneCell' = true := by
  intro u hu
  unfold rows at hu
  obtain ⟨x, _, hx⟩ := List.mem_flatMap.1 hu
  simp [OpP.cells] at hx
  rcases hx with rfl | rfl | rfl | rfl <;> rfl
theorem wp_append_ops {ops : Array Oper} {rest : List Oper} {o : Oper} {a : Act} {w : World} {Q : Exit → Act → World → Prop} {s x : Operand}
    (base : Nat) (v : Value) (l : List OpP) (b m c : Nat) (news : List OpP)
    (ho : o.op = .call { callee := .builtin .append, args := #[s, x], argTypes := #[39, 39] }) (hgd : o.guard = none)
    (hs : a.eval s = v) (hx : a.eval x = .slice (some ⟨b, 0, none⟩) m c) (hown : w.ownsRow base 45 4 v l.length (rows OpP.cells l)) (hX : OwnAt w b 0 (rows OpP.cells news)) (hm : news.length = m)
    (hbytes : l.length + m ≤ 1000) (hbase : base ≤ w.heap.size)
    (h : ∀ v' w', w'.ownsRow base 45 4 v' (l ++ news).length (rows OpP.cells (l ++ news)) → w.grownBy w' v.ownBlock → wpList Tryd.prog ops Q rest (a.put o.dst v') w') : wpList Tryd.prog ops Q (o :: rest) a w := by
  obtain ⟨i, hi, hz, hsz, hby⟩ := info_op
  refine wpList_append_own_wide w hgd s x 39 ho base 45 i _ 4 40 Tryd.underlying39 hi hz hsz hby rfl (by omega) v l.length _ hs hown ⟨b, 0, none⟩ m c (rows OpP.cells news) hx (by rw [rows_length opcells_len, hm]; omega) (fun j u hu => ?_) opcells_one (by unfold maxLen; omega) (by omega) hbase fun v' w' h2 h3 h4 => h v' w' (by rw [List.length_append, hm, rows_app]; exact h2) h3
  rw [Addr.add_mid']; exact hX.cells j u hu
theorem u8v_nat {k : Nat} (h : k < 256) : u8v (UInt8.ofNat k) = .int .u8 (k : Int) := by
  unfold u8v
  congr 1
  rw [UInt8.toNat_ofNat']
  omega
theorem OpsOwn.app {w W w' : World} {base : Nat} {v v' : Value} {l news : List OpP} (h : OpsOwn w base v l) (t : Touch [] w W) (hW : W.ownsRow base 45 4 v l.length (rows OpP.cells l))
    (hn : ∀ x ∈ news, OpOk W x ∧ x.b.length ≤ 10 ∧ ∀ y, x.a = some y → base ≤ y.block ∧ ∃ cur, W.heap[y.block]? = some (.cells cur 5))
    (h5 : w'.ownsRow base 45 4 v' (l ++ news).length (rows OpP.cells (l ++ news))) (g : W.grownBy w' v.ownBlock) : OpsOwn w' base v' (l ++ news) := by
  have tg : Touch v.ownBlock.toList W w' := (Touch.refl _ W).grown g (fun k hk => Or.inl (by simp [hk]))
  have hall : ∀ x ∈ l ++ news, OpOk W x ∧ x.b.length ≤ 10 ∧ ∀ y, x.a = some y → base ≤ y.block ∧ ∃ cur, W.heap[y.block]? = some (.cells cur 5) := by
    intro x hx
    rcases List.mem_append.1 hx with hx | hx
    · obtain ⟨a, b, c⟩ := h.each x hx
      refine ⟨a.to t, b, fun y hy => ?_⟩
      obtain ⟨d, cur, e⟩ := c y hy
      exact ⟨d, cur, (t.block _ (Array.getElem?_eq_some_iff.1 e).1 (by simp)).trans e⟩
    · exact hn x hx
  refine ⟨h5, fun x hx => ?_⟩
  obtain ⟨a, b, c⟩ := hall x hx
  have hne : ∀ y, x.a = some y → y.block ∉ v.ownBlock.toList := by
    intro y hy hm
    obtain ⟨_, cur, e⟩ := c y hy
    rcases hW.2 with ⟨rfl, _⟩ | ⟨g', cap, cur', rfl, _, hg', _⟩
    · simp [Value.ownBlock] at hm
    · simp [Value.ownBlock] at hm
      rw [hm, hg'] at e
      cases e
  refine ⟨a.to tg hne, b, fun y hy => ?_⟩
  obtain ⟨d, cur, e⟩ := c y hy
  exact ⟨d, cur, (tg.block _ (Array.getElem?_eq_some_iff.1 e).1 (hne y hy)).trans e⟩
set_option maxRecDepth 100000 in
set_option maxHeartbeats 800000 in
theorem many_any2 (w : World) :
    Calls Tryd.prog 30 #[.int .i64 2] w fun e w' => ∃ v l, e = .returned v ∧ OpsOwn w' w.heap.size v l ∧ l.length = 50 ∧ Touch [] w w' := by
  go_enter Tryd.func30, Tryd.ntmps30
  go_wp2_with fail
  go_loopw [3, 4] (fun v3 v4 wr => ∃ (k : Nat) (l : List OpP), k ≤ 50 ∧ v4 = .int .i64 k ∧ OpsOwn wr w.heap.size v3 l ∧ l.length = k ∧ Touch [] w wr) (fun _ v _ => 50 - (intOf v).toNat)
  case atStart => exact ⟨0, [], by omega, rfl, ⟨World.ownsRow_nil _ _ _ _, by simp⟩, rfl, Touch.refl _ _⟩
  case round =>
    obtain ⟨k, l, hk, rfl, hO, hl, hT⟩ := hrel
    have hsz := hT.size
    by_cases h : k < 50
    · have hI : (k : Int) < 50 := by omega
      have hown := hO.own
      have t1 := Touch.one wr (.cells #[Value.int .u8 (k : Int)] 5)
      have t2 := t1.to (Touch.one (wr.alloc (.cells #[Value.int .u8 (k : Int)] 5)) (.cells #[.int .u8 ((k : Int) % 5), .int .u8 ((k : Int) * 7 % 16), .slice (some ⟨wr.heap.size, 0, none⟩) 1 1, .int .u16 ((k : Int) * 2 * 13 % 200)] 45))
      have oB := (OwnAt.new wr #[Value.int .u8 (k : Int)] 5).slice.to (Touch.one (wr.alloc (.cells #[Value.int .u8 (k : Int)] 5)) (.cells #[.int .u8 ((k : Int) % 5), .int .u8 ((k : Int) * 7 % 16), .slice (some ⟨wr.heap.size, 0, none⟩) 1 1, .int .u16 ((k : Int) * 2 * 13 % 200)] 45))
      have oX := OwnAt.new' (wr.alloc (.cells #[Value.int .u8 (k : Int)] 5)) #[Value.int .u8 ((k : Int) % 5), .int .u8 ((k : Int) * 7 % 16), .slice (some ⟨wr.heap.size, 0, none⟩) 1 1, .int .u16 ((k : Int) * 2 * 13 % 200)] 45 (g := wr.heap.size + 1) (by simp)
      have h2 := ownsRow_touch hown t2 (by simp)
      have hx := ownsRow_block h2
      have hbs : w.heap.size ≤ ((wr.alloc (.cells #[Value.int .u8 (k : Int)] 5)).alloc (.cells #[.int .u8 ((k : Int) % 5), .int .u8 ((k : Int) * 7 % 16), .slice (some ⟨wr.heap.size, 0, none⟩) 1 1, .int .u16 ((k : Int) * 2 * 13 % 200)] 45)).heap.size := by simp; omega
      have hrow : rows OpP.cells [⟨k % 5, k * 7 % 16, [UInt8.ofNat k], some ⟨wr.heap.size, 0, none⟩, 1, k * 2 * 13 % 200⟩] = [Value.int .u8 ((k : Int) % 5), .int .u8 ((k : Int) * 7 % 16), .slice (some ⟨wr.heap.size, 0, none⟩) 1 1, .int .u16 ((k : Int) * 2 * 13 % 200)] := by
        simp [rows, OpP.cells]
      have oX' := oX
      simp only [List.toList_toArray] at oX'
      rw [← hrow] at oX'
      clear hrow oX
      go_wp2_with (at_builtin; refine wp_append_ops w.heap.size u3 l (wr.heap.size + 1) 1 1 [⟨k % 5, k * 7 % 16, [UInt8.ofNat k], some ⟨wr.heap.size, 0, none⟩, 1, k * 2 * 13 % 200⟩] rfl rfl rfl rfl ?_ ?_ rfl (by omega) ?_ ?_; exact h2; exact oX'; exact hbs)
      intro v5 w5 h5 g5
      have T5 := (hT.to t2).grown g5 (fun q hq => Or.inr (hx q hq))
      have hN : OpsOwn w5 w.heap.size v5 (l ++ [⟨k % 5, k * 7 % 16, [UInt8.ofNat k], some ⟨wr.heap.size, 0, none⟩, 1, k * 2 * 13 % 200⟩]) := by
        refine hO.app t2 h2 ?_ (by rw [List.length_append, hl]; exact h5) g5
        intro x hx'
        obtain rfl := List.mem_singleton.1 hx'
        refine ⟨⟨?_, by simp, by simp; omega, by simp; omega, by simp; omega⟩, by simp, ?_⟩
        · simp only [List.map_cons, List.map_nil, u8v_nat (show k < 256 by omega)]
          exact oB
        · rintro y ⟨⟩
          exact ⟨hsz, _, (Below.heap_alloc _ _ _ (by simp)).trans (heap_alloc_new _ _)⟩
      clear h2 hx hbs oX' oB t1 t2 h5 g5 hown hO
      go_wp2_with fail
      go_roundw
      case rel => exact ⟨k + 1, _, by omega, by go_num, hN, by simp [hl], T5⟩
      case measure => simp [intOf]; omega
    · have : k = 50 := by omega
      subst this
      go_wp2_with fail
      go_ret
      exact ⟨_, l, rfl, hO, hl, hT⟩
set_option maxRecDepth 100000 in
set_option maxHeartbeats 800000 in
theorem many_any5 (w : World) :
    Calls Tryd.prog 30 #[.int .i64 5] w fun e w' => ∃ v l, e = .returned v ∧ OpsOwn w' w.heap.size v l ∧ l.length = 50 ∧ Touch [] w w' := by
  go_enter Tryd.func30, Tryd.ntmps30
  go_wp2_with fail
  go_loopw [3, 4] (fun v3 v4 wr => ∃ (k : Nat) (l : List OpP), k ≤ 50 ∧ v4 = .int .i64 k ∧ OpsOwn wr w.heap.size v3 l ∧ l.length = k ∧ Touch [] w wr) (fun _ v _ => 50 - (intOf v).toNat)
  case atStart => exact ⟨0, [], by omega, rfl, ⟨World.ownsRow_nil _ _ _ _, by simp⟩, rfl, Touch.refl _ _⟩
  case round =>
    obtain ⟨k, l, hk, rfl, hO, hl, hT⟩ := hrel
    have hsz := hT.size
    by_cases h : k < 50
    · have hI : (k : Int) < 50 := by omega
      have hown := hO.own
      have t1 := Touch.one wr (.cells #[Value.int .u8 (k : Int)] 5)
      have t2 := t1.to (Touch.one (wr.alloc (.cells #[Value.int .u8 (k : Int)] 5)) (.cells #[.int .u8 ((k : Int) % 5), .int .u8 ((k : Int) * 7 % 16), .slice (some ⟨wr.heap.size, 0, none⟩) 1 1, .int .u16 ((k : Int) * 5 * 13 % 200)] 45))
      have oB := (OwnAt.new wr #[Value.int .u8 (k : Int)] 5).slice.to (Touch.one (wr.alloc (.cells #[Value.int .u8 (k : Int)] 5)) (.cells #[.int .u8 ((k : Int) % 5), .int .u8 ((k : Int) * 7 % 16), .slice (some ⟨wr.heap.size, 0, none⟩) 1 1, .int .u16 ((k : Int) * 5 * 13 % 200)] 45))
      have oX := OwnAt.new' (wr.alloc (.cells #[Value.int .u8 (k : Int)] 5)) #[Value.int .u8 ((k : Int) % 5), .int .u8 ((k : Int) * 7 % 16), .slice (some ⟨wr.heap.size, 0, none⟩) 1 1, .int .u16 ((k : Int) * 5 * 13 % 200)] 45 (g := wr.heap.size + 1) (by simp)
      have h2 := ownsRow_touch hown t2 (by simp)
      have hx := ownsRow_block h2
      have hbs : w.heap.size ≤ ((wr.alloc (.cells #[Value.int .u8 (k : Int)] 5)).alloc (.cells #[.int .u8 ((k : Int) % 5), .int .u8 ((k : Int) * 7 % 16), .slice (some ⟨wr.heap.size, 0, none⟩) 1 1, .int .u16 ((k : Int) * 5 * 13 % 200)] 45)).heap.size := by simp; omega
      have hrow : rows OpP.cells [⟨k % 5, k * 7 % 16, [UInt8.ofNat k], some ⟨wr.heap.size, 0, none⟩, 1, k * 5 * 13 % 200⟩] = [Value.int .u8 ((k : Int) % 5), .int .u8 ((k : Int) * 7 % 16), .slice (some ⟨wr.heap.size, 0, none⟩) 1 1, .int .u16 ((k : Int) * 5 * 13 % 200)] := by
        simp [rows, OpP.cells]
      have oX' := oX
      simp only [List.toList_toArray] at oX'
      rw [← hrow] at oX'
      clear hrow oX
      go_wp2_with (at_builtin; refine wp_append_ops w.heap.size u3 l (wr.heap.size + 1) 1 1 [⟨k % 5, k * 7 % 16, [UInt8.ofNat k], some ⟨wr.heap.size, 0, none⟩, 1, k * 5 * 13 % 200⟩] rfl rfl rfl rfl ?_ ?_ rfl (by omega) ?_ ?_; exact h2; exact oX'; exact hbs)
      intro v5 w5 h5 g5
      have T5 := (hT.to t2).grown g5 (fun q hq => Or.inr (hx q hq))
      have hN : OpsOwn w5 w.heap.size v5 (l ++ [⟨k % 5, k * 7 % 16, [UInt8.ofNat k], some ⟨wr.heap.size, 0, none⟩, 1, k * 5 * 13 % 200⟩]) := by
        refine hO.app t2 h2 ?_ (by rw [List.length_append, hl]; exact h5) g5
        intro x hx'
        obtain rfl := List.mem_singleton.1 hx'
        refine ⟨⟨?_, by simp, by simp; omega, by simp; omega, by simp; omega⟩, by simp, ?_⟩
        · simp only [List.map_cons, List.map_nil, u8v_nat (show k < 256 by omega)]
          exact oB
        · rintro y ⟨⟩
          exact ⟨hsz, _, (Below.heap_alloc _ _ _ (by simp)).trans (heap_alloc_new _ _)⟩
      clear h2 hx hbs oX' oB t1 t2 h5 g5 hown hO
      go_wp2_with fail
      go_roundw
      case rel => exact ⟨k + 1, _, by omega, by go_num, hN, by simp [hl], T5⟩
      case measure => simp [intOf]; omega
    · have : k = 50 := by omega
      subst this
      go_wp2_with fail
      go_ret
      exact ⟨_, l, rfl, hO, hl, hT⟩
set_option maxRecDepth 100000 in
set_option maxHeartbeats 800000 in
theorem cuts_any (w : World) :
    Calls Tryd.prog 31 #[] w fun e w' => ∃ v l, e = .returned v ∧ OpsOwn w' w.heap.size v l ∧ l.length = 48 ∧ Touch [] w w' := by
  go_enter Tryd.func31, Tryd.ntmps31
  go_wp2_with fail
  go_loopw [1, 2] (fun v3 v4 wr => ∃ (k : Nat) (l : List OpP), k ≤ 24 ∧ v4 = .int .i64 k ∧ OpsOwn wr w.heap.size v3 l ∧ l.length = 2 * k ∧ Touch [] w wr) (fun _ v _ => 24 - (intOf v).toNat)
  case atStart => exact ⟨0, [], by omega, rfl, ⟨World.ownsRow_nil _ _ _ _, by simp⟩, rfl, Touch.refl _ _⟩
  case round =>
    obtain ⟨k, l, hk, rfl, hO, hl, hT⟩ := hrel
    have hsz := hT.size
    by_cases h : k < 24
    · have hI : (k : Int) < 24 := by omega
      have hown := hO.own
      have t1 := Touch.one wr (.cells #[Value.int .u8 (k : Int), .int .u8 255, .int .u8 0] 5)
      have t2 := t1.to (Touch.one (wr.alloc (.cells #[Value.int .u8 (k : Int), .int .u8 255, .int .u8 0] 5)) (.cells #[Value.int .u8 5, .int .u8 0, .slice none 0 0, .int .u16 ((k : Int) * 3), .int .u8 0, .int .u8 ((k : Int) % 3), .slice (some ⟨wr.heap.size, 0, none⟩) 3 3, .int .u16 ((k : Int) * 9)] 45))
      have oB := (OwnAt.new wr #[Value.int .u8 (k : Int), .int .u8 255, .int .u8 0] 5).slice.to (Touch.one (wr.alloc (.cells #[Value.int .u8 (k : Int), .int .u8 255, .int .u8 0] 5)) (.cells #[Value.int .u8 5, .int .u8 0, .slice none 0 0, .int .u16 ((k : Int) * 3), .int .u8 0, .int .u8 ((k : Int) % 3), .slice (some ⟨wr.heap.size, 0, none⟩) 3 3, .int .u16 ((k : Int) * 9)] 45))
      have oX := OwnAt.new' (wr.alloc (.cells #[Value.int .u8 (k : Int), .int .u8 255, .int .u8 0] 5)) #[Value.int .u8 5, .int .u8 0, .slice none 0 0, .int .u16 ((k : Int) * 3), .int .u8 0, .int .u8 ((k : Int) % 3), .slice (some ⟨wr.heap.size, 0, none⟩) 3 3, .int .u16 ((k : Int) * 9)] 45 (g := wr.heap.size + 1) (by simp)
      have h2 := ownsRow_touch hown t2 (by simp)
      have hx := ownsRow_block h2
      have hbs : w.heap.size ≤ ((wr.alloc (.cells #[Value.int .u8 (k : Int), .int .u8 255, .int .u8 0] 5)).alloc (.cells #[Value.int .u8 5, .int .u8 0, .slice none 0 0, .int .u16 ((k : Int) * 3), .int .u8 0, .int .u8 ((k : Int) % 3), .slice (some ⟨wr.heap.size, 0, none⟩) 3 3, .int .u16 ((k : Int) * 9)] 45)).heap.size := by simp; omega
      have hrow : rows OpP.cells [⟨5, 0, [], none, 0, k * 3⟩, ⟨0, k % 3, [UInt8.ofNat k, 255, 0], some ⟨wr.heap.size, 0, none⟩, 3, k * 9⟩] = [Value.int .u8 5, .int .u8 0, .slice none 0 0, .int .u16 ((k : Int) * 3), .int .u8 0, .int .u8 ((k : Int) % 3), .slice (some ⟨wr.heap.size, 0, none⟩) 3 3, .int .u16 ((k : Int) * 9)] := by
        simp [rows, OpP.cells]
      have oX' := oX
      simp only [List.toList_toArray] at oX'
      rw [← hrow] at oX'
      clear hrow oX
      go_wp2_with (at_builtin; refine wp_append_ops w.heap.size u1 l (wr.heap.size + 1) 2 2 [⟨5, 0, [], none, 0, k * 3⟩, ⟨0, k % 3, [UInt8.ofNat k, 255, 0], some ⟨wr.heap.size, 0, none⟩, 3, k * 9⟩] rfl rfl rfl rfl ?_ ?_ rfl (by omega) ?_ ?_; exact h2; exact oX'; exact hbs)
      intro v5 w5 h5 g5
      have T5 := (hT.to t2).grown g5 (fun q hq => Or.inr (hx q hq))
      have hN : OpsOwn w5 w.heap.size v5 (l ++ [⟨5, 0, [], none, 0, k * 3⟩, ⟨0, k % 3, [UInt8.ofNat k, 255, 0], some ⟨wr.heap.size, 0, none⟩, 3, k * 9⟩]) := by
        refine hO.app t2 h2 ?_ (by rw [List.length_append, hl]; exact h5) g5
        intro x hx'
        simp only [List.mem_cons, List.not_mem_nil, or_false] at hx'
        rcases hx' with rfl | rfl
        · exact ⟨⟨.nil _ _, by simp, by simp, by simp, by simp; omega⟩, by simp, by simp⟩
        · refine ⟨⟨?_, by simp, by simp, by simp; omega, by simp; omega⟩, by simp, ?_⟩
          · simp only [List.map_cons, List.map_nil, u8v_nat (show k < 256 by omega)]
            exact oB
          · rintro y ⟨⟩
            exact ⟨hsz, _, (Below.heap_alloc _ _ _ (by simp)).trans (heap_alloc_new _ _)⟩
      clear h2 hx hbs oX' oB t1 t2 h5 g5 hown hO
      go_wp2_with fail
      go_roundw
      case rel => exact ⟨k + 1, _, by omega, by go_num, hN, by simp [hl]; omega, T5⟩
      case measure => simp [intOf]; omega
    · have : k = 24 := by omega
      subst this
      go_wp2_with fail
      go_ret
      exact ⟨_, l, rfl, hO, hl, hT⟩
theorem OpsOwn.at_ {w : World} {base : Nat} {v : Value} {l : List OpP} (h : OpsOwn w base v l) (hl : 0 < l.length) : ∃ A c, v = .slice A l.length c ∧ OpsAt w A l := by
  obtain ⟨h1, h2⟩ := h.own
  rcases h2 with ⟨_, h0⟩ | ⟨g, cap, cur, rfl, hb, hg, hnc, hcm, hcs, htk⟩
  · omega
  · refine ⟨_, cap, rfl, ⟨.mk' fun j u hu => ?_, fun x hx => (h.each x hx).1, fun x hx => by have := (h.each x hx).2.1; omega⟩⟩
    have := h.own.cells (g := g) rfl j u hu
    rwa [Addr.add_mid'] at this
end Go.Proofs.YtdfgcenbkclpbaaDoor
