/- The plain mathematics of the sum of 16 bits: linear in what is taken in; no Go here. -/
namespace Go.Proofs.YtdfgcenbkclpbaaDoor.Crc
abbrev W16 := BitVec 16
/-- one bit -/
def sh (s : W16) : W16 := if s.msb then (s <<< 1) ^^^ 4129#16 else s <<< 1
def shN : Nat → W16 → W16
  | 0, s => s
  | n + 1, s => sh (shN n s)
theorem shN_succ' (n : Nat) (s : W16) : shN (n + 1) s = shN n (sh s) := by
  induction n with
  | zero => rfl
  | succ n ih => rw [shN, ih]; rfl
theorem shN_add (a b : Nat) (s : W16) : shN (a + b) s = shN a (shN b s) := by
  induction a with
  | zero => simp [shN]
  | succ a ih => rw [Nat.succ_add, shN, ih, shN]
theorem xor_pair (x y k : W16) : (x ^^^ k) ^^^ (y ^^^ k) = x ^^^ y := by
  rw [show (x ^^^ k) ^^^ (y ^^^ k) = (x ^^^ y) ^^^ (k ^^^ k) by ac_rfl, BitVec.xor_self, BitVec.xor_zero]
theorem sh_xor (a b : W16) : sh (a ^^^ b) = sh a ^^^ sh b := by
  unfold sh
  rw [BitVec.msb_xor, BitVec.shiftLeft_xor_distrib]
  cases a.msb <;> cases b.msb <;> simp only [Bool.xor_true, Bool.xor_false, Bool.not_true, Bool.not_false, Bool.false_eq_true, if_true, if_false]
  · ac_rfl
  · ac_rfl
  · rw [xor_pair]
theorem sh_zero : sh 0#16 = 0#16 := by decide
theorem shN_xor (n : Nat) (a b : W16) : shN n (a ^^^ b) = shN n a ^^^ shN n b := by
  induction n with
  | zero => rfl
  | succ n ih => simp only [shN, ih, sh_xor]
theorem shN_zero (n : Nat) : shN n 0#16 = 0#16 := by
  induction n with
  | zero => rfl
  | succ n ih => simp only [shN, ih, sh_zero]
theorem sh_small (s : W16) (h : s.toNat < 32768) : sh s = s <<< 1 := by
  unfold sh
  rw [if_neg]
  rw [BitVec.msb_eq_decide]
  simp; omega
/-- a sum whose upper bits are 0 is shifted alone -/
theorem shN_low (n : Nat) (s : W16) (h : s.toNat * 2 ^ n < 65536) : (shN n s).toNat = s.toNat * 2 ^ n := by
  induction n with
  | zero => simp [shN]
  | succ n ih =>
    have e : s.toNat * 2 ^ (n + 1) = s.toNat * 2 ^ n * 2 := by rw [Nat.pow_succ, Nat.mul_assoc]
    rw [e] at h ⊢
    have ih := ih (by omega)
    rw [shN, sh_small _ (by omega), BitVec.toNat_shiftLeft, Nat.shiftLeft_eq, ih]
    omega
def inByte (s : W16) (x : UInt8) : W16 := shN 8 (s ^^^ (BitVec.ofNat 16 x.toNat <<< 8))
def add (s : W16) (l : List UInt8) : W16 := l.foldl inByte s
/-- by half bytes -/
def tab (k : Nat) : W16 := shN 4 (BitVec.ofNat 16 k <<< 12)
def nib (s : W16) : W16 := (s <<< 4) ^^^ tab (s.toNat / 4096)
theorem xor_parts (i a b : Nat) (hb : b < 2 ^ i) : 2 ^ i * a ^^^ b = 2 ^ i * a + b := by
  have h := Nat.two_pow_add_eq_or_of_lt hb a
  rw [h]
  apply Nat.eq_of_testBit_eq
  intro j
  rw [Nat.testBit_xor, Nat.testBit_or, Nat.testBit_two_pow_mul]
  by_cases hj : i ≤ j
  · rw [Nat.testBit_lt_two_pow (x := b) (Nat.lt_of_lt_of_le hb (Nat.pow_le_pow_right (by omega) hj))]; simp
  · simp [hj]
theorem split4 (s : W16) : s = (BitVec.ofNat 16 (s.toNat / 4096) <<< 12) ^^^ BitVec.ofNat 16 (s.toNat % 4096) := by
  apply BitVec.eq_of_toNat_eq
  have hs := s.isLt
  have e1 : (BitVec.ofNat 16 (s.toNat / 4096) <<< 12).toNat = 2 ^ 12 * (s.toNat / 4096) := by
    simp [Nat.shiftLeft_eq]; omega
  have e2 : (BitVec.ofNat 16 (s.toNat % 4096)).toNat = s.toNat % 4096 := by simp; omega
  rw [BitVec.toNat_xor, e1, e2, xor_parts _ _ _ (by omega)]
  omega
theorem nib_eq (s : W16) : nib s = shN 4 s := by
  have h := split4 s
  have hl : shN 4 (BitVec.ofNat 16 (s.toNat % 4096)) = s <<< 4 := by
    apply BitVec.eq_of_toNat_eq
    have e2 : (BitVec.ofNat 16 (s.toNat % 4096)).toNat = s.toNat % 4096 := by simp; omega
    rw [shN_low _ _ (by omega), e2, BitVec.toNat_shiftLeft, Nat.shiftLeft_eq]
    omega
  conv => rhs; rw [h, shN_xor, hl]
  unfold nib tab
  ac_rfl
theorem nib_nib (s : W16) : nib (nib s) = shN 8 s := by
  rw [nib_eq, nib_eq, ← shN_add]
theorem add_snoc (s : W16) (l : List UInt8) (x : UInt8) : add s (l ++ [x]) = inByte (add s l) x := by simp [add]
theorem add_append (s : W16) (l r : List UInt8) : add s (l ++ r) = add (add s l) r := by simp [add]
theorem residue (s : W16) (hi lo : UInt8) (h1 : s.toNat / 256 = hi.toNat) (h2 : s.toNat % 256 = lo.toNat) : add s [hi, lo] = 0#16 := by
  have hs := s.isLt
  have hlo := lo.toNat_lt
  have hhi := hi.toNat_lt
  have e1 : s ^^^ (BitVec.ofNat 16 hi.toNat <<< 8) = BitVec.ofNat 16 lo.toNat := by
    apply BitVec.eq_of_toNat_eq
    have e : (BitVec.ofNat 16 hi.toNat <<< 8).toNat = 2 ^ 8 * hi.toNat := by simp [Nat.shiftLeft_eq]; omega
    have e' : s.toNat = 2 ^ 8 * hi.toNat ^^^ lo.toNat := by rw [xor_parts _ _ _ (by omega)]; omega
    rw [BitVec.toNat_xor, e, e', Nat.xor_comm (2 ^ 8 * hi.toNat), Nat.xor_assoc, Nat.xor_self, Nat.xor_zero]
    simp
  have e2 : shN 8 (BitVec.ofNat 16 lo.toNat) = BitVec.ofNat 16 lo.toNat <<< 8 := by
    apply BitVec.eq_of_toNat_eq
    have e : (BitVec.ofNat 16 lo.toNat).toNat = lo.toNat := by simp
    rw [shN_low _ _ (by omega), e, BitVec.toNat_shiftLeft, Nat.shiftLeft_eq, e]; omega
  simp only [add, List.foldl_cons, List.foldl_nil, inByte, e1, e2, BitVec.xor_self, shN_zero]
theorem byte_xor (x y : UInt8) : BitVec.ofNat 16 (x ^^^ y).toNat <<< 8 = (BitVec.ofNat 16 x.toNat <<< 8) ^^^ (BitVec.ofNat 16 y.toNat <<< 8) := by
  rw [← BitVec.shiftLeft_xor_distrib]
  congr 1
  apply BitVec.eq_of_toNat_eq
  have hx := x.toNat_lt
  have hy := y.toNat_lt
  have hxy := (x ^^^ y).toNat_lt
  rw [UInt8.toNat_xor] at hxy
  rw [BitVec.toNat_xor, BitVec.toNat_ofNat, BitVec.toNat_ofNat, BitVec.toNat_ofNat, UInt8.toNat_xor, Nat.mod_eq_of_lt (by omega), Nat.mod_eq_of_lt (by omega), Nat.mod_eq_of_lt (by omega)]
theorem inByte_xor (s t : W16) (x y : UInt8) : inByte (s ^^^ t) (x ^^^ y) = inByte s x ^^^ inByte t y := by
  unfold inByte
  rw [byte_xor, ← shN_xor]
  congr 1
  ac_rfl
/-- of as many bytes each: the sum is linear -/
theorem add_xor (s t : W16) : ∀ (a b : List UInt8), a.length = b.length → add (s ^^^ t) (List.zipWith (· ^^^ ·) a b) = add s a ^^^ add t b
  | [], [], _ => rfl
  | x :: a, y :: b, h => by
    simp only [List.zipWith_cons_cons, add, List.foldl_cons, inByte_xor]
    exact add_xor (inByte s x) (inByte t y) a b (by simpa using h)
end Go.Proofs.YtdfgcenbkclpbaaDoor.Crc
