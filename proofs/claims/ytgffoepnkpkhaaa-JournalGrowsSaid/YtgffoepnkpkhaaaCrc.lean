/- The plain mathematics of the check sum (a reflected CRC-32 register, bit by bit): the half-byte table gives the same register; the register's step is linear and injective; so a text with one byte changed has another sum. -/
import Derived.Laws.BitsLemmas
namespace Go.Proofs.Ytgffoepnkpkhaaa.Crc

/-- one bit of the register -/
def bit (c : Nat) : Nat := if c % 2 = 1 then (c / 2) ^^^ 3988292384 else c / 2
def four (c : Nat) : Nat := bit (bit (bit (bit c)))
def eight (c : Nat) : Nat := four (four c)
def iter (n c : Nat) : Nat := match n with | 0 => c | n + 1 => bit (iter n c)
def run (c : Nat) (l : List UInt8) : Nat := l.foldl (fun c b => eight (c ^^^ b.toNat)) c
/-- the sum from a sum on -/
def on (n : Nat) (l : List UInt8) : Nat := 4294967295 - run (4294967295 - n) l

theorem xor_half (a b : Nat) : (a ^^^ b) / 2 = a / 2 ^^^ b / 2 := by
  have := Nat.xor_div_two_pow (a := a) (b := b) (n := 1)
  simpa using this
theorem xor_mod (a b : Nat) : (a ^^^ b) % 2 = (a % 2 + b % 2) % 2 := by
  have h0 : (a ^^^ b).testBit 0 = (a.testBit 0 ^^ b.testBit 0) := Nat.testBit_xor ..
  simp only [Nat.testBit_zero] at h0
  rcases Nat.mod_two_eq_zero_or_one a with ha | ha <;> rcases Nat.mod_two_eq_zero_or_one b with hb | hb <;> rcases Nat.mod_two_eq_zero_or_one (a ^^^ b) with hc | hc <;> simp [ha, hb, hc] at h0 ⊢
theorem xor_swap4 (a b p : Nat) : (a ^^^ p) ^^^ (b ^^^ p) = a ^^^ b := by
  rw [Nat.xor_comm b p, ← Nat.xor_assoc, Nat.xor_assoc a p p, Nat.xor_self, Nat.xor_zero]
theorem bit_xor (a b : Nat) : bit (a ^^^ b) = bit a ^^^ bit b := by
  unfold bit
  rw [xor_half, xor_mod]
  rcases Nat.mod_two_eq_zero_or_one a with ha | ha <;> rcases Nat.mod_two_eq_zero_or_one b with hb | hb <;> simp only [ha, hb]
  · simp
  · simp [Nat.xor_assoc]
  · simp only [if_true, Nat.zero_ne_one, if_false]
    rw [Nat.xor_assoc, Nat.xor_comm (b / 2), ← Nat.xor_assoc]
  · simp only [Nat.reduceAdd, Nat.reduceMod, if_true, Nat.zero_ne_one, if_false]
    rw [xor_swap4]
theorem bit_double (k : Nat) : bit (2 * k) = k := by
  unfold bit
  rw [if_neg (by omega)]; omega
theorem four_xor (a b : Nat) : four (a ^^^ b) = four a ^^^ four b := by
  unfold four; rw [bit_xor, bit_xor, bit_xor, bit_xor]
theorem four_16 (k : Nat) : four (16 * k) = k := by
  unfold four
  rw [show 16 * k = 2 * (2 * (2 * (2 * k))) from by omega, bit_double, bit_double, bit_double, bit_double]
theorem split16 (c : Nat) : c = (16 * (c / 16)) ^^^ (c % 16) := by
  apply Nat.eq_of_testBit_eq
  intro i
  rw [Nat.testBit_xor]
  have h1 := Nat.testBit_two_pow_mul (i := 4) (a := c / 16) (j := i)
  have h2 := Nat.testBit_mod_two_pow c 4 i
  have h3 := Nat.testBit_div_two_pow (n := 4) c (i - 4)
  rw [show (2 : Nat) ^ 4 = 16 from rfl] at h1 h2 h3
  rw [h1, h2]
  by_cases h : i < 4
  · have : ¬ 4 ≤ i := by omega
    simp [h, this]
  · have : 4 ≤ i := by omega
    rw [h3, show i - 4 + 4 = i from by omega]
    simp [h, this]
theorem four_eq (c : Nat) : four c = (c / 16) ^^^ four (c % 16) := by
  have h := split16 c
  calc four c = four ((16 * (c / 16)) ^^^ (c % 16)) := by rw [← h]
    _ = _ := by rw [four_xor, four_16]

theorem half_lt (c : Nat) (h : c < 4294967296) : c / 2 < 2147483648 := by omega
theorem bit_lt (c : Nat) (h : c < 4294967296) : bit c < 4294967296 := by
  unfold bit
  split
  · exact Nat.xor_lt_two_pow (n := 32) (by omega) (by omega)
  · omega
theorem bit_top (c : Nat) (h : c < 4294967296) : (bit c).testBit 31 = decide (c % 2 = 1) := by
  unfold bit
  have h0 : (c / 2).testBit 31 = false := Nat.testBit_lt_two_pow (by omega)
  split
  · rename_i h1
    rw [Nat.testBit_xor, h0, h1]; decide +kernel
  · rename_i h1
    rw [h0]; simp [h1]
theorem bit_zero (c : Nat) (h : c < 4294967296) (hz : bit c = 0) : c = 0 := by
  have ht := bit_top c h
  rw [hz] at ht
  simp at ht
  unfold bit at hz
  rw [if_neg (by omega)] at hz
  omega
theorem xor_eq_zero' (a b : Nat) (h : a ^^^ b = 0) : a = b := by
  have : a ^^^ b ^^^ b = 0 ^^^ b := by rw [h]
  simpa [Nat.xor_assoc] using this
theorem xor_lt (a b : Nat) (ha : a < 4294967296) (hb : b < 4294967296) : a ^^^ b < 4294967296 :=
  Nat.xor_lt_two_pow (n := 32) ha hb
theorem bit_inj (a b : Nat) (ha : a < 4294967296) (hb : b < 4294967296) (h : bit a = bit b) : a = b := by
  apply xor_eq_zero'
  apply bit_zero _ (xor_lt a b ha hb)
  rw [bit_xor, h, Nat.xor_self]
theorem four_lt (c : Nat) (h : c < 4294967296) : four c < 4294967296 := bit_lt _ (bit_lt _ (bit_lt _ (bit_lt _ h)))
theorem eight_lt (c : Nat) (h : c < 4294967296) : eight c < 4294967296 := four_lt _ (four_lt _ h)
theorem four_inj (a b : Nat) (ha : a < 4294967296) (hb : b < 4294967296) (h : four a = four b) : a = b :=
  bit_inj _ _ ha hb (bit_inj _ _ (bit_lt _ ha) (bit_lt _ hb) (bit_inj _ _ (bit_lt _ (bit_lt _ ha)) (bit_lt _ (bit_lt _ hb)) (bit_inj _ _ (bit_lt _ (bit_lt _ (bit_lt _ ha))) (bit_lt _ (bit_lt _ (bit_lt _ hb))) h)))
theorem eight_inj (a b : Nat) (ha : a < 4294967296) (hb : b < 4294967296) (h : eight a = eight b) : a = b :=
  four_inj _ _ ha hb (four_inj _ _ (four_lt _ ha) (four_lt _ hb) h)
theorem iter_eight (c : Nat) : iter 8 c = eight c := rfl
theorem iter_four (c : Nat) : iter 4 c = four c := rfl
theorem iter_lt (n c : Nat) (h : c < 4294967296) : iter n c < 4294967296 := by
  induction n with
  | zero => exact h
  | succ n ih => exact bit_lt _ ih
theorem byte_lt (b : UInt8) : b.toNat < 4294967296 := by have := b.toNat_lt; omega
theorem run_lt (l : List UInt8) : ∀ c, c < 4294967296 → run c l < 4294967296 := by
  induction l with
  | nil => intro c h; exact h
  | cons b l ih => intro c h; exact ih _ (eight_lt _ (xor_lt _ _ h (byte_lt b)))
theorem run_inj (l : List UInt8) : ∀ c d, c < 4294967296 → d < 4294967296 → run c l = run d l → c = d := by
  induction l with
  | nil => intro c d _ _ h; exact h
  | cons b l ih =>
    intro c d hc hd h
    have h1 := ih _ _ (eight_lt _ (xor_lt _ _ hc (byte_lt b))) (eight_lt _ (xor_lt _ _ hd (byte_lt b))) h
    have h2 := eight_inj _ _ (xor_lt _ _ hc (byte_lt b)) (xor_lt _ _ hd (byte_lt b)) h1
    have : c ^^^ b.toNat ^^^ b.toNat = d ^^^ b.toNat ^^^ b.toNat := by rw [h2]
    simpa [Nat.xor_assoc] using this
theorem run_append (c : Nat) (l m : List UInt8) : run c (l ++ m) = run (run c l) m := by simp [run]
theorem run_snoc (c : Nat) (l : List UInt8) (b : UInt8) : run c (l ++ [b]) = eight (run c l ^^^ b.toNat) := by simp [run]
theorem on_lt (n : Nat) (l : List UInt8) : on n l < 4294967296 := by unfold on; omega
theorem on_append (n : Nat) (l m : List UInt8) (h : n < 4294967296) : on n (l ++ m) = on (on n l) m := by
  unfold on
  have := run_lt l (4294967295 - n) (by omega)
  rw [run_append, show 4294967295 - (4294967295 - run (4294967295 - n) l) = run (4294967295 - n) l from by omega]
/-- what one changed byte does -/
theorem on_turned (l m : List UInt8) (a b : UInt8) (h : a ≠ b) : on 0 (l ++ a :: m) ≠ on 0 (l ++ b :: m) := by
  intro e
  unfold on at e
  have h0 : (4294967295 - 0 : Nat) < 4294967296 := by decide
  have e1 := run_lt (l ++ a :: m) _ h0
  have e2 := run_lt (l ++ b :: m) _ h0
  have e3 : run (4294967295 - 0) (l ++ a :: m) = run (4294967295 - 0) (l ++ b :: m) := by omega
  rw [run_append, run_append] at e3
  have hl := run_lt l _ h0
  have e4 := eight_inj _ _ (xor_lt _ _ hl (byte_lt a)) (xor_lt _ _ hl (byte_lt b)) (run_inj m _ _ (eight_lt _ (xor_lt _ _ hl (byte_lt a))) (eight_lt _ (xor_lt _ _ hl (byte_lt b))) e3)
  rw [Nat.xor_comm _ a.toNat, Nat.xor_comm _ b.toNat] at e4
  have : a.toNat ^^^ run (4294967295 - 0) l ^^^ run (4294967295 - 0) l = b.toNat ^^^ run (4294967295 - 0) l ^^^ run (4294967295 - 0) l := by rw [e4]
  rw [Nat.xor_assoc, Nat.xor_assoc, Nat.xor_self, Nat.xor_zero, Nat.xor_zero] at this
  exact h (UInt8.toNat_inj.1 this)

/-! Go's operations on uint32, as natural numbers -/
theorem wraps_u32 (n : Int) (h₀ : 0 ≤ n) (h₁ : n < 2 ^ 32) : IntKind.u32.wrap n = n := by rw [IntKind.wrap_u32]; omega
theorem xor_u32 (a b : Nat) (ha : a < 4294967296) (hb : b < 4294967296) : bits .xor .u32 a b = ((a ^^^ b : Nat) : Int) := by
  have h := xor_lt a b ha hb
  have e : (BitVec.ofInt 32 (a : Int) ^^^ BitVec.ofInt 32 (b : Int)).toNat = a ^^^ b := by
    simp only [BitVec.ofInt_natCast, BitVec.toNat_xor, BitVec.toNat_ofNat, Nat.mod_eq_of_lt (show a < 2 ^ 32 from ha), Nat.mod_eq_of_lt (show b < 2 ^ 32 from hb)]
  show IntKind.u32.wrap ((BitVec.ofInt 32 (a : Int) ^^^ BitVec.ofInt 32 (b : Int)).toNat : Int) = _
  rw [e]
  exact wraps_u32 _ (by omega) (by omega)
theorem and_u32_15 (a : Nat) (ha : a < 4294967296) : bits .and .u32 a 15 = ((a % 16 : Nat) : Int) := by
  have := bits_mask .u32 32 (by decide) wraps_u32 4 (by decide) (a : Int) (by omega) (by omega)
  simpa using this
theorem and_u32_1 (a : Nat) (ha : a < 4294967296) : bits .and .u32 a 1 = ((a % 2 : Nat) : Int) := by
  have := bits_mask .u32 32 (by decide) wraps_u32 1 (by decide) (a : Int) (by omega) (by omega)
  simpa using this
theorem not_u32 (a : Nat) (ha : a < 4294967296) : bits .xor .u32 4294967295 a = ((4294967295 - a : Nat) : Int) := by
  have h := xor_u32 4294967295 a (by decide) ha
  rw [show ((4294967295 : Nat) : Int) = 4294967295 from rfl] at h
  rw [h]
  congr 1
  apply Nat.eq_of_testBit_eq
  intro i
  have e : (4294967295 - a : Nat) = 2 ^ 32 - (a + 1) := by omega
  rw [e, Nat.testBit_two_pow_sub_succ (by omega), Nat.testBit_xor, show (4294967295 : Nat) = 2 ^ 32 - 1 from rfl, Nat.testBit_two_pow_sub_one]
  by_cases hi : i < 32
  · simp [hi]
  · have : a.testBit i = false := Nat.testBit_lt_two_pow (Nat.lt_of_lt_of_le (show a < 2 ^ 32 from ha) (Nat.pow_le_pow_right (by decide) (by omega)))
    simp [hi, this]
end Go.Proofs.Ytgffoepnkpkhaaa.Crc
