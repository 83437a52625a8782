/- The halves of a journal: what their functions come to. -/
import Derived.Test.YtdfgcenbkclpbaaDoorFlashN
namespace Go.Proofs.YtdfgcenbkclpbaaDoor
open Go.RowKit
set_option linter.unusedSimpArgs false
set_option linter.unusedVariables false
/-- a word as a number -/
def W4.num (x : W4) : Nat := x.a.toNat + x.b.toNat * 256 + x.c.toNat * 65536 + x.d.toNat * 16777216
def W4.ofNum (n : Nat) : W4 := ⟨UInt8.ofNat n, UInt8.ofNat (n / 256), UInt8.ofNat (n / 65536), UInt8.ofNat (n / 16777216)⟩
theorem W4.num_lt (x : W4) : x.num < 4294967296 := by
  have := x.a.toNat_lt; have := x.b.toNat_lt; have := x.c.toNat_lt; have := x.d.toNat_lt
  unfold num; omega
theorem W4.num_ofNum (n : Nat) (h : n < 4294967296) : (W4.ofNum n).num = n := by
  unfold num ofNum
  simp only [UInt8.toNat_ofNat']
  omega
theorem W4.num_inj {x y : W4} (h : x.num = y.num) : x = y := by
  have := x.a.toNat_lt; have := x.b.toNat_lt; have := x.c.toNat_lt; have := x.d.toNat_lt
  have := y.a.toNat_lt; have := y.b.toNat_lt; have := y.c.toNat_lt; have := y.d.toNat_lt
  rcases x with ⟨a, b, c, d⟩; rcases y with ⟨a', b', c', d'⟩
  simp only [num] at h this
  rw [W4.mk.injEq, ← UInt8.toNat_inj, ← UInt8.toNat_inj, ← UInt8.toNat_inj, ← UInt8.toNat_inj]
  refine ⟨?_, ?_, ?_, ?_⟩ <;> (simp only at *; omega)
theorem or_shift (A B k : Nat) (hA : A < 2 ^ k) (h1 : B * 2 ^ k < 4294967296) (hk : 2 ^ k < 4294967296) : bits .or .u32 (A : Int) ((B * 2 ^ k : Nat) : Int) = ((A + B * 2 ^ k : Nat) : Int) := by
  rw [u32_or_nat _ _ (by omega) h1, Nat.or_comm, Nat.mul_comm B, ← Nat.two_pow_add_eq_or_of_lt hA, Nat.add_comm]
theorem number_any (w : World) (x : W4) : Calls Tryd.prog 48 #[x.val] w fun e w' => e = .returned (.int .u32 x.num) ∧ Touch [] w w' := by
  have ha := x.a.toNat_lt; have hb := x.b.toNat_lt; have hc := x.c.toNat_lt; have hd := x.d.toNat_lt
  have e1 := or_shift x.a.toNat x.b.toNat 8 (by omega) (by omega) (by omega)
  have e2 := or_shift (x.a.toNat + x.b.toNat * 256) x.c.toNat 16 (by omega) (by omega) (by omega)
  have e3 := or_shift (x.a.toNat + x.b.toNat * 256 + x.c.toNat * 65536) x.d.toNat 24 (by omega) (by omega) (by omega)
  go_enter Tryd.func48, Tryd.ntmps48
  go_wp2_with fail
  go_ret
  simp
  refine ⟨?_, (Touch.refl _ _).alloc _⟩
  have q1 : (x.b.toNat : Int) * 256 = ((x.b.toNat * 2 ^ 8 : Nat) : Int) := by simp
  have q2 : (x.c.toNat : Int) * 65536 = ((x.c.toNat * 2 ^ 16 : Nat) : Int) := by simp
  have q3 : (x.d.toNat : Int) * 16777216 = ((x.d.toNat * 2 ^ 24 : Nat) : Int) := by simp
  rw [q1, q2, q3, e1]
  rw [show x.a.toNat + x.b.toNat * 2 ^ 8 = x.a.toNat + x.b.toNat * 256 from rfl, e2]
  rw [show x.a.toNat + x.b.toNat * 256 + x.c.toNat * 2 ^ 16 = x.a.toNat + x.b.toNat * 256 + x.c.toNat * 65536 from rfl, e3]
  rfl
theorem u8_wrap (n : Nat) : IntKind.u8.wrap (n : Int) = ((UInt8.ofNat n).toNat : Int) := by
  rw [IntKind.wrap_u8, UInt8.toNat_ofNat']; omega
theorem ret_word {fn : Func} {R : Ending → World → Prop} {p : Tmp} {a : Act} {w : World} {b o : Nat} {x : W4} (hc : w.rangeAt b o x.cells) (h : fn.results = #[.cell p 30])
    (hp : a.tmps.getD p undef = .pointer (some ⟨b, o, none⟩)) (hde : a.defers = []) (hR : R (.returned x.val) w) : bodyPost Tryd.prog fn R .ret a w :=
  ret_range hc h hp Tryd.underlying30 rfl (by kernel_rfl) hde hR
theorem wordOf_any (w : World) (n : Nat) (hn : n < 4294967296) : Calls Tryd.prog 55 #[.int .u32 n] w fun e w' => e = .returned (W4.ofNum n).val ∧ Touch [] w w' := by
  have hN := OwnAt.new w #[Value.int IntKind.u8 0, Value.int IntKind.u8 0, Value.int IntKind.u8 0, Value.int IntKind.u8 0] 30
  have hth := hN.there (i := 0) (n := 4) (by simp)
  rw [Nat.zero_add] at hth
  have hT := ((Touch.refl [] w).alloc (.cells #[Value.int IntKind.u8 0, Value.int IntKind.u8 0, Value.int IntKind.u8 0, Value.int IntKind.u8 0] 30)).setCells (b := w.heap.size) (Or.inr (Nat.le_refl _)) (W4.ofNum n).cells (o := 0)
  have hs := World.rangeAt_setCells_same _ w.heap.size 0 (W4.ofNum n).cells hth
  have q0 := u8_wrap n
  have q1 := u8_wrap (n / 256)
  have q2 := u8_wrap (n / 65536)
  have q3 := u8_wrap (n / 16777216)
  simp only [Int.natCast_ediv, Int.cast_ofNat_Int] at q1 q2 q3
  go_enter Tryd.func55, Tryd.ntmps55
  go_wp2_with (refine wp_store_word (y := W4.ofNum n) (b := w.heap.size) (o := 0) ?_ rfl rfl rfl rfl ?_; (with_reducible exact hth))
  exact ret_word hs rfl rfl rfl ⟨rfl, hT⟩
/-- a half, as a value -/
abbrev halfV (f first count : Nat) : Value := .agg #[ptr f, .int .i64 first, .int .i64 count]
theorem half_size (w : World) (f first count : Nat) (hc : count ≤ 64) : Calls Tryd.prog 57 #[halfV f first count] w fun e w' => e = .returned (.int .i64 ((256 * count : Nat) : Int)) ∧ Touch [] w w' := by
  go_enter Tryd.func57, Tryd.ntmps57
  go_wp2_with fail
  go_ret
  refine ⟨?_, (Touch.refl _ _).alloc _⟩
  simp
  omega
theorem flash_word' {iv kv : Int} (w : World) (f s : Nat) (F : Fl) (i k : Nat) (hiv : iv = i) (hkv : kv = k) (x : W4) (h : FlashAt w f s F) (ho : F.off = false) (hi : i < F.count) (hk : k < 256) (hx : F.mem[256 * i + k]? = some x) :
    Calls Tryd.prog 62 #[ptr f, .int .i64 iv, .int .i64 kv] w fun e w' => e = .returned (.tuple #[x.val, .int .i64 0]) ∧ Touch [] w w' := by
  subst hiv; subst hkv; exact flash_word w f s F i k x h ho hi hk hx
theorem flash_write' {iv kv : Int} (w : World) (f s : Nat) (F : Fl) (i k : Nat) (hiv : iv = i) (hkv : kv = k) (y : W4) (h : FlashAt w f s F) (ho : F.off = false) (hi : i < F.count) (hk : k < 256) :
    Calls Tryd.prog 10 #[ptr f, .int .i64 iv, .int .i64 kv, y.val] w fun e w' => e = .returned (.int .i64 (F.write (256 * i + k) y).1) ∧ FlashAt w' f s (F.write (256 * i + k) y).2 ∧ Touch [f, s] w w' := by
  subst hiv; subst hkv; exact flash_write w f s F i k y h ho hi hk
theorem flash_erase' {iv : Int} (w : World) (f s : Nat) (F : Fl) (i : Nat) (hiv : iv = i) (h : FlashAt w f s F) (ho : F.off = false) (hi : i < F.count) :
    Calls Tryd.prog 63 #[ptr f, .int .i64 iv] w fun e w' => e = .returned (.int .i64 (F.erase i).1) ∧ FlashAt w' f s (F.erase i).2 ∧ Touch [f, s] w w' := by
  subst hiv; exact flash_erase w f s F i h ho hi
/-- a new variable for a word -/
abbrev zeroW : Array Value := #[Value.int IntKind.u8 0, Value.int IntKind.u8 0, Value.int IntKind.u8 0, Value.int IntKind.u8 0]
theorem newWord_there (w : World) : (w.alloc (.cells zeroW 30)).there w.heap.size 0 4 := by
  have := (OwnAt.new w zeroW 30).there (i := 0) (n := 4) (by simp)
  rwa [Nat.zero_add] at this
theorem newWord_range (w : World) (x : W4) : ((w.alloc (.cells zeroW 30)).setCells w.heap.size 0 x.cells).rangeAt w.heap.size 0 x.cells := World.rangeAt_setCells_same _ _ _ _ (newWord_there w)
theorem newWord_touch {S : List Nat} (w : World) (x : W4) : Touch S w ((w.alloc (.cells zeroW 30)).setCells w.heap.size 0 x.cells) := ((Touch.refl _ _).alloc _).setCells (Or.inr (Nat.le_refl _)) _
set_option maxRecDepth 100000 in
theorem half_at (w : World) (f s : Nat) (F : Fl) (first count i : Nat) (x : W4) (h : FlashAt w f s F) (ho : F.off = false) (hc : first + count ≤ F.count) (hi : i < 256 * count) (hx : F.mem[256 * first + i]? = some x) :
    Calls Tryd.prog 49 #[halfV f first count, .int .i64 i] w fun e w' => e = .returned x.val ∧ Touch [] w w' := by
  have hfew := h.few
  have hA := (h.alloc (.cells #[ptr f, .int .i64 first, .int .i64 count] 73)).alloc (.cells #[Value.int IntKind.u8 0, Value.int IntKind.u8 0, Value.int IntKind.u8 0, Value.int IntKind.u8 0] 30)
  have hx' : F.mem[256 * (first + i / 256) + i % 256]? = some x := by rw [← hx]; congr 1; omega
  go_enter Tryd.func49, Tryd.ntmps49
  go_wp2_with fail
  refine (flash_word' _ f s F (first + i / 256) (i % 256) (by simp) (by simp) x hA ho (by omega) (by omega) hx').mono ?_
  rintro e w1 ⟨rfl, hT⟩
  have c1 := newWord_there w1
  have c2 := newWord_range w1 x
  have hO := (OwnAt.new' (w.alloc (.cells #[ptr f, .int .i64 first, .int .i64 count] 73)) zeroW 30 (g := w.heap.size + 1) (by simp)).touch hT (by simp) |>.touch (newWord_touch (S := []) w1 x) (by simp)
  have c3 := hO.there (i := 0) (n := 4) (by simp)
  rw [Nat.zero_add] at c3
  have c4 := World.rangeAt_setCells_same _ (w.heap.size + 1) 0 x.cells c3
  have hTT : Touch [] w ((((w1.alloc (.cells zeroW 30)).setCells w1.heap.size 0 x.cells)).setCells (w.heap.size + 1) 0 x.cells) :=
    (((((Touch.refl [] w).alloc (.cells #[ptr f, .int .i64 first, .int .i64 count] 73)).alloc (.cells zeroW 30)).trans hT).trans (newWord_touch w1 x)).setCells (Or.inr (by omega)) _
  go_wp2_with (first | (refine wp_store_word (y := x) (b := w1.heap.size) (o := 0) ?_ rfl rfl rfl rfl ?_; (with_reducible exact c1)) | (refine wp_load_word (y := x) (b := w1.heap.size) (o := 0) ?_ rfl rfl rfl ?_; (with_reducible exact c2)) | (refine wp_store_word (y := x) (b := w.heap.size + 1) (o := 0) ?_ rfl rfl rfl rfl ?_; (with_reducible exact c3)))
  exact ret_word c4 rfl rfl rfl ⟨rfl, hTT⟩
end Go.Proofs.YtdfgcenbkclpbaaDoor
