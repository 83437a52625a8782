/- How many bits apart two bits must be to be taken for none: 32767; the parity; what follows for sums. No Go here. -/
import Derived.Test.YtmbboljkppoohaaCrcPure
namespace Go.Proofs.Ytmbboljkppoohaa.Crc
set_option linter.unusedSimpArgs false
def stp (s : Nat) : Nat := if s < 32768 then s * 2 else (s * 2 - 65536) ^^^ 4129
def run : Nat → Nat → Nat
  | 0, s => s
  | n + 1, s => run n (stp s)
/-- none of the next n states is the first one -/
def apart_ : Nat → Nat → Bool
  | 0, _ => true
  | n + 1, s => stp s != 32768 && apart_ n (stp s)
theorem run_add : ∀ (a b s : Nat), run (a + b) s = run b (run a s)
  | 0, b, s => by simp [run]
  | a + 1, b, s => by rw [Nat.succ_add, run, run, run_add a b]
theorem apart_add : ∀ (a b s : Nat), apart_ (a + b) s = (apart_ a s && apart_ b (run a s))
  | 0, b, s => by simp [apart_, run]
  | a + 1, b, s => by rw [Nat.succ_add, apart_, apart_, run, apart_add a b, Bool.and_assoc]
theorem apart_spec : ∀ (n s : Nat), apart_ n s = true → ∀ d, 0 < d → d ≤ n → run d s ≠ 32768
  | 0, _, _, d, h0, h1 => by omega
  | n + 1, s, h, d, h0, h1 => by
    simp only [apart_, Bool.and_eq_true, bne_iff_ne] at h
    obtain ⟨d, rfl⟩ : ∃ m, d = m + 1 := ⟨d - 1, by omega⟩
    rw [run]
    by_cases hd : d = 0
    · subst hd; exact h.1
    · exact apart_spec n (stp s) h.2 d (by omega) (by omega)
theorem c0 : (apart_ 800 32768 && run 800 32768 == 47936) = true := by decide +kernel
theorem c1 : (apart_ 800 47936 && run 800 47936 == 43150) = true := by decide +kernel
theorem c2 : (apart_ 800 43150 && run 800 43150 == 14263) = true := by decide +kernel
theorem c3 : (apart_ 800 14263 && run 800 14263 == 13924) = true := by decide +kernel
theorem c4 : (apart_ 800 13924 && run 800 13924 == 55876) = true := by decide +kernel
theorem c5 : (apart_ 800 55876 && run 800 55876 == 49454) = true := by decide +kernel
theorem c6 : (apart_ 800 49454 && run 800 49454 == 24466) = true := by decide +kernel
theorem c7 : (apart_ 800 24466 && run 800 24466 == 44255) = true := by decide +kernel
theorem c8 : (apart_ 800 44255 && run 800 44255 == 23107) = true := by decide +kernel
theorem c9 : (apart_ 800 23107 && run 800 23107 == 3326) = true := by decide +kernel
theorem c10 : (apart_ 800 3326 && run 800 3326 == 48666) = true := by decide +kernel
theorem c11 : (apart_ 800 48666 && run 800 48666 == 40567) = true := by decide +kernel
theorem c12 : (apart_ 800 40567 && run 800 40567 == 53212) = true := by decide +kernel
theorem c13 : (apart_ 800 53212 && run 800 53212 == 18334) = true := by decide +kernel
theorem c14 : (apart_ 800 18334 && run 800 18334 == 5368) = true := by decide +kernel
theorem c15 : (apart_ 800 5368 && run 800 5368 == 30891) = true := by decide +kernel
theorem c16 : (apart_ 800 30891 && run 800 30891 == 9280) = true := by decide +kernel
theorem c17 : (apart_ 800 9280 && run 800 9280 == 33091) = true := by decide +kernel
theorem c18 : (apart_ 800 33091 && run 800 33091 == 32073) = true := by decide +kernel
theorem c19 : (apart_ 800 32073 && run 800 32073 == 53993) = true := by decide +kernel
theorem c20 : (apart_ 800 53993 && run 800 53993 == 23323) = true := by decide +kernel
theorem c21 : (apart_ 800 23323 && run 800 23323 == 30214) = true := by decide +kernel
theorem c22 : (apart_ 800 30214 && run 800 30214 == 47426) = true := by decide +kernel
theorem c23 : (apart_ 800 47426 && run 800 47426 == 58296) = true := by decide +kernel
theorem c24 : (apart_ 800 58296 && run 800 58296 == 33771) = true := by decide +kernel
theorem c25 : (apart_ 800 33771 && run 800 33771 == 53614) = true := by decide +kernel
theorem c26 : (apart_ 800 53614 && run 800 53614 == 58035) = true := by decide +kernel
theorem c27 : (apart_ 800 58035 && run 800 58035 == 55526) = true := by decide +kernel
theorem c28 : (apart_ 800 55526 && run 800 55526 == 5023) = true := by decide +kernel
theorem c29 : (apart_ 800 5023 && run 800 5023 == 63255) = true := by decide +kernel
theorem c30 : (apart_ 800 63255 && run 800 63255 == 18691) = true := by decide +kernel
theorem c31 : (apart_ 800 18691 && run 800 18691 == 14932) = true := by decide +kernel
theorem c32 : (apart_ 800 14932 && run 800 14932 == 26500) = true := by decide +kernel
theorem c33 : (apart_ 800 26500 && run 800 26500 == 10788) = true := by decide +kernel
theorem c34 : (apart_ 800 10788 && run 800 10788 == 26891) = true := by decide +kernel
theorem c35 : (apart_ 800 26891 && run 800 26891 == 9161) = true := by decide +kernel
theorem c36 : (apart_ 800 9161 && run 800 9161 == 53265) = true := by decide +kernel
theorem c37 : (apart_ 800 53265 && run 800 53265 == 13295) = true := by decide +kernel
theorem c38 : (apart_ 800 13295 && run 800 13295 == 49184) = true := by decide +kernel
theorem c39 : (apart_ 800 49184 && run 800 49184 == 15316) = true := by decide +kernel
theorem c40 : (apart_ 766 15316 && run 766 15316 == 16384) = true := by decide +kernel
theorem join {n a b s t : Nat} (h1 : (apart_ a s && run a s == t) = true) (h2 : apart_ b t = true) (hn : n = a + b) : apart_ n s = true := by
  simp only [Bool.and_eq_true, beq_iff_eq] at h1
  rw [hn, apart_add, h1.1, h1.2, h2]; rfl
theorem last_ {a s t : Nat} (h1 : (apart_ a s && run a s == t) = true) : apart_ a s = true := by
  simp only [Bool.and_eq_true] at h1; exact h1.1
theorem t40 : apart_ 766 15316 = true := last_ c40
theorem t39 : apart_ 1566 49184 = true := join c39 t40 rfl
theorem t38 : apart_ 2366 13295 = true := join c38 t39 rfl
theorem t37 : apart_ 3166 53265 = true := join c37 t38 rfl
theorem t36 : apart_ 3966 9161 = true := join c36 t37 rfl
theorem t35 : apart_ 4766 26891 = true := join c35 t36 rfl
theorem t34 : apart_ 5566 10788 = true := join c34 t35 rfl
theorem t33 : apart_ 6366 26500 = true := join c33 t34 rfl
theorem t32 : apart_ 7166 14932 = true := join c32 t33 rfl
theorem t31 : apart_ 7966 18691 = true := join c31 t32 rfl
theorem t30 : apart_ 8766 63255 = true := join c30 t31 rfl
theorem t29 : apart_ 9566 5023 = true := join c29 t30 rfl
theorem t28 : apart_ 10366 55526 = true := join c28 t29 rfl
theorem t27 : apart_ 11166 58035 = true := join c27 t28 rfl
theorem t26 : apart_ 11966 53614 = true := join c26 t27 rfl
theorem t25 : apart_ 12766 33771 = true := join c25 t26 rfl
theorem t24 : apart_ 13566 58296 = true := join c24 t25 rfl
theorem t23 : apart_ 14366 47426 = true := join c23 t24 rfl
theorem t22 : apart_ 15166 30214 = true := join c22 t23 rfl
theorem t21 : apart_ 15966 23323 = true := join c21 t22 rfl
theorem t20 : apart_ 16766 53993 = true := join c20 t21 rfl
theorem t19 : apart_ 17566 32073 = true := join c19 t20 rfl
theorem t18 : apart_ 18366 33091 = true := join c18 t19 rfl
theorem t17 : apart_ 19166 9280 = true := join c17 t18 rfl
theorem t16 : apart_ 19966 30891 = true := join c16 t17 rfl
theorem t15 : apart_ 20766 5368 = true := join c15 t16 rfl
theorem t14 : apart_ 21566 18334 = true := join c14 t15 rfl
theorem t13 : apart_ 22366 53212 = true := join c13 t14 rfl
theorem t12 : apart_ 23166 40567 = true := join c12 t13 rfl
theorem t11 : apart_ 23966 48666 = true := join c11 t12 rfl
theorem t10 : apart_ 24766 3326 = true := join c10 t11 rfl
theorem t9 : apart_ 25566 23107 = true := join c9 t10 rfl
theorem t8 : apart_ 26366 44255 = true := join c8 t9 rfl
theorem t7 : apart_ 27166 24466 = true := join c7 t8 rfl
theorem t6 : apart_ 27966 49454 = true := join c6 t7 rfl
theorem t5 : apart_ 28766 55876 = true := join c5 t6 rfl
theorem t4 : apart_ 29566 13924 = true := join c4 t5 rfl
theorem t3 : apart_ 30366 14263 = true := join c3 t4 rfl
theorem t2 : apart_ 31166 43150 = true := join c2 t3 rfl
theorem t1 : apart_ 31966 47936 = true := join c1 t2 rfl
theorem t0 : apart_ 32766 32768 = true := join c0 t1 rfl
theorem apart_all : apart_ 32766 32768 = true := t0
/-- the highest bit -/
def top : W16 := 32768#16
theorem sh_toNat (s : W16) : (sh s).toNat = stp s.toNat := by
  have hs := s.isLt
  unfold sh stp
  rw [BitVec.msb_eq_decide]
  have e : (s <<< 1).toNat = s.toNat * 2 % 65536 := by rw [BitVec.toNat_shiftLeft, Nat.shiftLeft_eq]
  by_cases h : s.toNat < 32768
  · rw [if_neg (by simp; omega), if_pos h, e]; omega
  · rw [if_pos (by simp; omega), if_neg h, BitVec.toNat_xor, e, show s.toNat * 2 % 65536 = s.toNat * 2 - 65536 by omega]; rfl
theorem shN_toNat : ∀ (n : Nat) (s : W16), (shN n s).toNat = run n s.toNat
  | 0, _ => rfl
  | n + 1, s => by rw [shN_succ', shN_toNat n, sh_toNat, run]
/-- THE ORDER -/
theorem top_apart (d : Nat) (h0 : 0 < d) (h1 : d < 32767) : shN d top ≠ top := fun h => by
  have := congrArg BitVec.toNat h
  rw [shN_toNat] at this
  exact apart_spec 32766 32768 apart_all d h0 (by omega) this
theorem sh_inj {s : W16} (h : sh s = 0#16) : s = 0#16 := by
  have h1 := congrArg BitVec.toNat h
  rw [sh_toNat] at h1
  apply BitVec.eq_of_toNat_eq
  have hs := s.isLt
  unfold stp at h1
  split at h1
  · have h2 : s.toNat * 2 = 0 := h1
    show s.toNat = 0
    omega
  · exfalso
    have : ((s.toNat * 2 - 65536) ^^^ 4129).testBit 0 = false := by rw [h1]; simp
    rw [Nat.testBit_xor] at this
    simp [Nat.testBit_zero] at this
    omega
theorem shN_inj : ∀ (n : Nat) {s : W16}, shN n s = 0#16 → s = 0#16
  | 0, _, h => h
  | n + 1, s, h => by rw [shN_succ'] at h; exact sh_inj (shN_inj n h)
theorem xor_zero_iff {a b : W16} : a ^^^ b = 0#16 ↔ a = b := by
  constructor
  · intro h
    have : (a ^^^ b) ^^^ b = b := by rw [h]; simp
    rw [BitVec.xor_assoc, BitVec.xor_self, BitVec.xor_zero] at this
    exact this
  · rintro rfl; exact BitVec.xor_self
/-- the parity of the bits -/
def parN (s : W16) : Nat → Bool
  | 0 => s.getLsbD 0
  | n + 1 => parN s n ^^ s.getLsbD (n + 1)
def par (s : W16) : Bool := parN s 15
theorem parN_xor (a b : W16) : ∀ n, parN (a ^^^ b) n = (parN a n ^^ parN b n)
  | 0 => by simp [parN]
  | n + 1 => by
    simp only [parN, BitVec.getLsbD_xor, parN_xor a b n]
    cases parN a n <;> cases parN b n <;> cases a.getLsbD (n + 1) <;> cases b.getLsbD (n + 1) <;> rfl
theorem par_xor (a b : W16) : par (a ^^^ b) = (par a ^^ par b) := parN_xor a b 15
theorem par_shl (s : W16) : par (s <<< 1) = (par s ^^ s.getLsbD 15) := by
  simp only [par, parN, BitVec.getLsbD_shiftLeft]
  simp
theorem par_sh (s : W16) : par (sh s) = par s := by
  unfold sh
  rw [show s.msb = s.getLsbD 15 from BitVec.msb_eq_getLsbD_last s]
  split
  · rename_i h
    rw [par_xor, par_shl, h, show par 4129#16 = true by decide]; simp
  · rename_i h
    rw [par_shl]; simp at h; simp [h]
theorem par_shN : ∀ (n : Nat) (s : W16), par (shN n s) = par s
  | 0, _ => rfl
  | n + 1, s => by rw [shN, par_sh, par_shN n]

/-! ### One bit behind the other -/
/-- the j-th bit of a byte, the highest first -/
def bitOf (z : UInt8) (j : Nat) : Bool := decide (128 ≤ z.toNat * 2 ^ j % 256)
def inBit (s : W16) (b : Bool) : W16 := sh (s ^^^ if b then top else 0#16)
def inBits (f : Nat → Bool) : Nat → W16 → W16
  | 0, s => s
  | n + 1, s => inBit (inBits f n s) (f n)
theorem inBit_xor (s t : W16) (b : Bool) : inBit (s ^^^ t) b = inBit s b ^^^ sh t := by
  unfold inBit
  rw [← sh_xor]
  congr 1
  ac_rfl
theorem inBits_xor (f : Nat → Bool) : ∀ (n : Nat) (s t : W16), inBits f n (s ^^^ t) = inBits f n s ^^^ shN n t
  | 0, _, _ => rfl
  | n + 1, s, t => by rw [inBits, inBits_xor f n, inBit_xor]; rfl
theorem inBits_add (f : Nat → Bool) (m : Nat) : ∀ (n : Nat) (s : W16), inBits f (m + n) s = inBits (fun j => f (m + j)) n (inBits f m s)
  | 0, _ => rfl
  | n + 1, s => by rw [← Nat.add_assoc, inBits, inBits_add f m n]; rfl
theorem inBits_congr {f g : Nat → Bool} : ∀ (n : Nat) (s : W16), (∀ j, j < n → f j = g j) → inBits f n s = inBits g n s
  | 0, _, _ => rfl
  | n + 1, s, h => by rw [inBits, inBits, inBits_congr n s fun j hj => h j (by omega), h n (by omega)]
theorem byte_zero : ∀ z : Fin 256, inBits (bitOf (UInt8.ofFin z)) 8 0#16 = shN 8 (BitVec.ofNat 16 z.val <<< 8) := by decide +kernel
theorem inByte_bits (s : W16) (x : UInt8) : inByte s x = inBits (bitOf x) 8 s := by
  have h := byte_zero x.toFin
  have h2 := inBits_xor (bitOf x) 8 0#16 s
  rw [BitVec.zero_xor] at h2
  rw [h2]
  unfold inByte
  rw [shN_xor, BitVec.xor_comm]
  congr 1
  exact h.symm
/-- the k-th bit of bytes -/
def bitAt (l : List UInt8) (k : Nat) : Bool := bitOf (l.getD (k / 8) 0) (k % 8)
theorem add_bits : ∀ (l : List UInt8) (s : W16), add s l = inBits (bitAt l) (8 * l.length) s
  | [], s => rfl
  | x :: l, s => by
    show add (inByte s x) l = _
    rw [add_bits l, inByte_bits, show 8 * (x :: l).length = 8 + 8 * l.length by simp; omega, inBits_add]
    have e1 : inBits (bitAt (x :: l)) 8 s = inBits (bitOf x) 8 s := inBits_congr 8 s fun j hj => by
      unfold bitAt
      rw [show j / 8 = 0 by omega, show j % 8 = j by omega]
      rfl
    rw [e1]
    refine inBits_congr _ _ fun j hj => ?_
    unfold bitAt
    rw [show (8 + j) / 8 = j / 8 + 1 by omega, show (8 + j) % 8 = j % 8 by omega]
    rfl
/-- what a row of bits comes to: by how many there are, the first, the last -/
def Tells (f : Nat → Bool) (k n first last : Nat) : Prop :=
  par (inBits f k 0#16) = decide (n % 2 = 1) ∧ (n = 0 → inBits f k 0#16 = 0#16) ∧ (n = 1 → first < k ∧ last = first ∧ inBits f k 0#16 = shN (k - first) top) ∧
  (n = 2 → first < last ∧ last < k ∧ inBits f k 0#16 = shN (k - first) top ^^^ shN (k - last) top) ∧ (1 ≤ n → first < k ∧ last < k)
theorem tells_zero (f : Nat → Bool) (a b : Nat) : Tells f 0 0 a b := ⟨by show par 0#16 = _; decide, fun _ => rfl, fun h => by omega, fun h => by omega, fun h => by omega⟩
theorem par_top : par top = true := by decide
theorem sh_step (f : Nat → Bool) (k : Nat) : inBits f (k + 1) 0#16 = sh (inBits f k 0#16) ^^^ (if f k then sh top else 0#16) := by
  rw [inBits, inBit, sh_xor]
  cases f k <;> simp [sh_zero]
theorem tells_no {f : Nat → Bool} {k n first last : Nat} (h : Tells f k n first last) (hf : f k = false) : Tells f (k + 1) n first last := by
  obtain ⟨h1, h2, h3, h4, h5⟩ := h
  have e := sh_step f k
  rw [hf] at e
  simp only [Bool.false_eq_true, if_false, BitVec.xor_zero] at e
  refine ⟨by rw [e, par_sh]; exact h1, fun hn => by rw [e, h2 hn, sh_zero], fun hn => ?_, fun hn => ?_, fun hn => ?_⟩
  · obtain ⟨a, b, c⟩ := h3 hn
    exact ⟨by omega, b, by rw [e, c, show k + 1 - first = (k - first) + 1 by omega]; rfl⟩
  · obtain ⟨a, b, c⟩ := h4 hn
    exact ⟨a, by omega, by rw [e, c, sh_xor, show k + 1 - first = (k - first) + 1 by omega, show k + 1 - last = (k - last) + 1 by omega]; rfl⟩
  · have := h5 hn; omega
theorem tells_yes {f : Nat → Bool} {k n first last : Nat} (h : Tells f k n first last) (hf : f k = true) : Tells f (k + 1) (n + 1) (if n = 0 then k else first) k := by
  obtain ⟨h1, h2, h3, h4, h5⟩ := h
  have e := sh_step f k
  rw [hf] at e
  simp only [if_true] at e
  refine ⟨?_, fun hn => by omega, fun hn => ?_, fun hn => ?_, fun hn => ?_⟩
  · rw [e, par_xor, par_sh, par_sh, h1, par_top]
    by_cases hp : n % 2 = 1
    · simp [hp]; omega
    · simp [hp]; omega
  · have : n = 0 := by omega
    subst this
    rw [if_pos rfl]
    refine ⟨by omega, rfl, ?_⟩
    rw [e, h2 rfl, sh_zero, BitVec.zero_xor, show k + 1 - k = 0 + 1 by omega]; rfl
  · have : n = 1 := by omega
    subst this
    obtain ⟨a, b, c⟩ := h3 rfl
    rw [if_neg (by omega)]
    refine ⟨a, by omega, ?_⟩
    rw [e, c, show k + 1 - first = (k - first) + 1 by omega, show k + 1 - k = 0 + 1 by omega]; rfl
  · split <;> omega
/-- THE LAW: an odd number of bits, or two that are not too far apart, are seen -/
theorem tells_seen {f : Nat → Bool} {k n first last : Nat} (h : Tells f k n first last) (hn : n % 2 = 1 ∨ n = 2 ∧ last - first < 32767) : inBits f k 0#16 ≠ 0#16 := by
  obtain ⟨h1, h2, h3, h4, h5⟩ := h
  intro h0
  rcases hn with hn | ⟨rfl, hd⟩
  · rw [h0, hn] at h1
    exact absurd h1 (by decide)
  · obtain ⟨a, b, c⟩ := h4 rfl
    rw [h0, show k - first = (k - last) + (last - first) by omega, shN_add, ← shN_xor] at c
    have := shN_inj _ c.symm
    rw [xor_zero_iff] at this
    exact top_apart (last - first) (by omega) hd this
theorem sums_apart {b c : List UInt8} (hl : b.length = c.length) {n first last : Nat} (h : Tells (bitAt (List.zipWith (· ^^^ ·) b c)) (8 * b.length) n first last) (hn : n % 2 = 1 ∨ n = 2 ∧ last - first < 32767) : add 0#16 b ≠ add 0#16 c := by
  intro he
  have h1 := tells_seen h hn
  apply h1
  have h2 := add_xor 0#16 0#16 b c hl
  rw [he, BitVec.xor_self, BitVec.xor_self, add_bits] at h2
  rw [show (List.zipWith (· ^^^ ·) b c).length = b.length by simp [hl]] at h2
  exact h2

/-! ### Bits that are turned over -/
def flip (l : List UInt8) (k : Nat) : List UInt8 := l.set (k / 8) (l.getD (k / 8) 0 ^^^ UInt8.ofNat (128 / 2 ^ (k % 8)))
theorem flip_length (l : List UInt8) (k : Nat) : (flip l k).length = l.length := by simp [flip]
theorem one_bit : ∀ j : Fin 8, shN 8 (BitVec.ofNat 16 (UInt8.ofNat (128 / 2 ^ j.val)).toNat <<< 8) = shN (8 - j.val) top := by decide +kernel
theorem add_shift : ∀ (l : List UInt8) (u v : W16), add (u ^^^ v) l = add u l ^^^ shN (8 * l.length) v
  | [], _, _ => rfl
  | x :: l, u, v => by
    show add (inByte (u ^^^ v) x) l = add (inByte u x) l ^^^ _
    have e : inByte (u ^^^ v) x = inByte u x ^^^ shN 8 v := by
      unfold inByte
      rw [← shN_xor]
      congr 1
      ac_rfl
    rw [e, add_shift l, ← shN_add]
    rfl
theorem add_flip : ∀ (l : List UInt8) (k : Nat) (s : W16), k < 8 * l.length → add s (flip l k) = add s l ^^^ shN (8 * l.length - k) top
  | [], k, s, h => by simp at h
  | x :: l, k, s, h => by
    by_cases hk : k < 8
    · have e : flip (x :: l) k = (x ^^^ UInt8.ofNat (128 / 2 ^ k)) :: l := by
        unfold flip
        rw [show k / 8 = 0 by omega, show k % 8 = k by omega]
        rfl
      rw [e]
      show add (inByte s (x ^^^ UInt8.ofNat (128 / 2 ^ k))) l = add (inByte s x) l ^^^ _
      have h1 : inByte s (x ^^^ UInt8.ofNat (128 / 2 ^ k)) = inByte s x ^^^ shN (8 - k) top := by
        have := one_bit ⟨k, hk⟩
        simp only at this
        rw [← this]
        unfold inByte
        rw [byte_xor, ← shN_xor]
        congr 1
        ac_rfl
      rw [h1, add_shift, ← shN_add]
      congr 2
      simp; omega
    · have e : flip (x :: l) k = x :: flip l (k - 8) := by
        unfold flip
        rw [show k / 8 = (k - 8) / 8 + 1 by omega, show (k - 8) % 8 = k % 8 by omega]
        rfl
      rw [e]
      show add (inByte s x) (flip l (k - 8)) = add (inByte s x) l ^^^ _
      rw [add_flip l (k - 8) _ (by simp at h; omega)]
      congr 2
      simp; omega
/-- bits from a place on are turned over, as a test says -/
def turnTo (l : List UInt8) (p : Nat) (t : Nat → Bool) : Nat → List UInt8
  | 0 => l
  | i + 1 => if t i then flip (turnTo l p t i) (p + i) else turnTo l p t i
def mark (t : Nat → Bool) : Nat → W16
  | 0 => 0#16
  | i + 1 => if t i then mark t i ^^^ (top >>> i) else mark t i
theorem turnTo_length (l : List UInt8) (p : Nat) (t : Nat → Bool) : ∀ i, (turnTo l p t i).length = l.length
  | 0 => rfl
  | i + 1 => by
    unfold turnTo
    split
    · rw [flip_length, turnTo_length l p t i]
    · exact turnTo_length l p t i
theorem shr_shl : ∀ i : Fin 16, shN i.val (top >>> i.val) = top := by decide +kernel
theorem add_turn (l : List UInt8) (p : Nat) (t : Nat → Bool) (ht : ∀ i, t i = true → i < 16 ∧ p + i < 8 * l.length) : ∀ i, add 0#16 (turnTo l p t i) = add 0#16 l ^^^ shN (8 * l.length - p) (mark t i)
  | 0 => by simp [turnTo, mark, shN_zero]
  | i + 1 => by
    unfold turnTo mark
    cases h : t i with
    | false => simpa using add_turn l p t ht i
    | true =>
      obtain ⟨h1, h2⟩ := ht i h
      simp only [if_true]
      rw [add_flip _ _ _ (by rw [turnTo_length]; exact h2), turnTo_length, add_turn l p t ht i, shN_xor, BitVec.xor_assoc]
      congr 2
      have e := shr_shl ⟨i, h1⟩
      simp only at e
      conv => lhs; rw [← e, ← shN_add]
      congr 1
      omega
theorem mark_bit (t : Nat → Bool) : ∀ (i j : Nat), j < 16 → (mark t i).getLsbD (15 - j) = (decide (j < i) && t j)
  | 0, j, hj => by simp [mark]
  | i + 1, j, hj => by
    have ih := mark_bit t i j hj
    have hb : (top >>> i).getLsbD (15 - j) = decide (i = j) := by
      rw [BitVec.getLsbD_ushiftRight]
      unfold top
      by_cases h : i = j
      · subst h
        rw [show i + (15 - i) = 15 by omega]
        simp
      · have : (32768#16).getLsbD (i + (15 - j)) = false := by
          show (32768#16).toNat.testBit _ = false
          rw [show (32768#16).toNat = 2 ^ 15 from rfl, Nat.testBit_two_pow]
          simp; omega
        rw [this]; simp [h]
    unfold mark
    cases h : t i with
    | false =>
      simp only [Bool.false_eq_true, if_false, ih]
      by_cases hji : j = i
      · subst hji; simp [h]
      · rw [show (decide (j < i + 1)) = decide (j < i) by simp; omega]
    | true =>
      simp only [if_true]
      rw [BitVec.getLsbD_xor, ih, hb]
      by_cases hji : j = i
      · subst hji; simp [h]
      · rw [show (decide (j < i + 1)) = decide (j < i) by simp; omega, show decide (i = j) = false by simp; omega]; simp
/-- THE LAW: bytes that differ within 16 bits have unlike sums -/
theorem burst (l : List UInt8) (p n : Nat) (t : Nat → Bool) (ht : ∀ i, t i = true → i < 16 ∧ p + i < 8 * l.length) (h : add 0#16 l = add 0#16 (turnTo l p t n)) : turnTo l p t n = l := by
  rw [add_turn l p t ht n] at h
  have h0 : shN (8 * l.length - p) (mark t n) = 0#16 := by
    have := congrArg (add 0#16 l ^^^ ·) h
    simp only [BitVec.xor_self, ← BitVec.xor_assoc, BitVec.zero_xor] at this
    exact this.symm
  have hm := shN_inj _ h0
  have hno : ∀ j, j < n → t j = false := fun j hj => by
    cases hj' : t j with
    | false => rfl
    | true =>
      have := mark_bit t n j (ht j hj').1
      rw [hm] at this
      simp [hj, hj'] at this
  clear hm h0 h
  induction n with
  | zero => rfl
  | succ n ih =>
    unfold turnTo
    rw [hno n (by omega)]
    simp only [Bool.false_eq_true, if_false]
    exact ih fun j hj => hno j (by omega)
end Go.Proofs.Ytmbboljkppoohaa.Crc
