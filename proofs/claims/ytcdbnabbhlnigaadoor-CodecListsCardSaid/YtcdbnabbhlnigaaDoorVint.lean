/- The plain mathematics of numbers as bytes: the bytes of a number, the number at the front of bytes; each undoes the other. -/
import Derived.Laws.BitsLemmas
import Derived.IntWalk
namespace Go.Proofs.YtcdbnabbhlnigaaDoor.Vint

/-- the number without its sign, the sign in the lowest bit -/
def zig (n : Int) : Nat := if 0 ≤ n then 2 * n.toNat else 2 * (-(n + 1)).toNat + 1
def zag (z : Nat) : Int := if z % 2 = 0 then (z / 2 : Nat) else -((z / 2 : Nat) : Int) - 1
/-- seven bits a byte, the lowest first; at most k bytes with the mark -/
def enc (k z : Nat) : List UInt8 := match k with
  | 0 => [UInt8.ofNat z]
  | k + 1 => if z < 128 then [UInt8.ofNat z] else UInt8.ofNat (128 + z % 128) :: enc k (z / 128)
def put (n : Int) : List UInt8 := enc 9 (zig n)
/-- how many bytes at the front bear the mark, at most k -/
def lead (k : Nat) (l : List UInt8) : Nat := match k, l with
  | 0, _ => 0
  | _ + 1, [] => 0
  | k + 1, b :: l => if 127 < b.toNat then lead k l + 1 else 0
/-- the value of the first k bytes -/
def val (k : Nat) (l : List UInt8) : Nat := match k, l with
  | 0, _ => 0
  | _ + 1, [] => 0
  | k + 1, b :: l => b.toNat % 128 + 128 * val k l
/-- the number at the front, how many bytes it has, the error (4: too short; 3: no form) -/
def get (l : List UInt8) : Int × Nat × Int :=
  if lead 9 l = l.length then (0, 0, 4)
  else if (lead 9 l = 9 ∧ 1 < (l.getD 9 0).toNat) ∨ (0 < lead 9 l ∧ (l.getD (lead 9 l) 0).toNat = 0) then (0, 0, 3)
  else (zag (val (lead 9 l + 1) l), lead 9 l + 1, 0)

theorem zag_zig (n : Int) : zag (zig n) = n := by
  unfold zag zig
  split
  · rw [if_pos (by omega)]; omega
  · rw [if_neg (by omega)]; omega
theorem zig_zag (z : Nat) : zig (zag z) = z := by
  unfold zag zig
  split
  · rw [if_pos (by omega)]; omega
  · rw [if_neg (by omega)]; omega
theorem zig_lt (n : Int) (h1 : -9223372036854775808 ≤ n) (h2 : n ≤ 9223372036854775807) : zig n < 18446744073709551616 := by
  unfold zig; split <;> omega
theorem zag_lo (z : Nat) (h : z < 18446744073709551616) : -9223372036854775808 ≤ zag z ∧ zag z ≤ 9223372036854775807 := by
  unfold zag; split <;> omega

theorem byte_of (n : Nat) (h : n < 256) : (UInt8.ofNat n).toNat = n := by rw [UInt8.toNat_ofNat', Nat.mod_eq_of_lt h]
theorem enc_len (k : Nat) : ∀ z, 1 ≤ (enc k z).length ∧ (enc k z).length ≤ k + 1 := by
  induction k with
  | zero => intro z; simp [enc]
  | succ k ih => intro z; unfold enc; split <;> simp; exact (ih _).2
theorem lead_le (k : Nat) : ∀ l, lead k l ≤ k ∧ lead k l ≤ l.length := by
  induction k with
  | zero => intro l; simp [lead]
  | succ k ih =>
    intro l
    cases l with
    | nil => simp [lead]
    | cons b l => unfold lead; split <;> simp [ih l]
/-- what 'lead' is: all bytes ahead of it bear the mark; the one at it does not, or it is at the end, or the k-th -/
theorem lead_mark (k : Nat) : ∀ l j, j < lead k l → 127 < (l.getD j 0).toNat := by
  induction k with
  | zero => intro l j h; simp [lead] at h
  | succ k ih =>
    intro l j h
    cases l with
    | nil => simp [lead] at h
    | cons b l =>
      unfold lead at h
      split at h
      · cases j with
        | zero => simpa using ‹127 < b.toNat›
        | succ j => simpa using ih l j (by omega)
      · omega
theorem lead_end (k : Nat) : ∀ l, lead k l = l.length ∨ lead k l = k ∨ (l.getD (lead k l) 0).toNat ≤ 127 := by
  induction k with
  | zero => intro l; right; left; simp [lead]
  | succ k ih =>
    intro l
    cases l with
    | nil => left; simp [lead]
    | cons b l =>
      unfold lead
      split
      · rcases ih l with h | h | h
        · left; simp [h]
        · right; left; omega
        · right; right; simpa using h
      · right; right; simp; omega
theorem lead_is (k : Nat) : ∀ l n, n ≤ k → n ≤ l.length → (∀ j, j < n → 127 < (l.getD j 0).toNat) → (n = l.length ∨ n = k ∨ (l.getD n 0).toNat ≤ 127) → lead k l = n := by
  induction k with
  | zero => intro l n h _ _ _; simp [lead]; omega
  | succ k ih =>
    intro l n hk hl hm he
    cases l with
    | nil => simp [lead] at hl ⊢; omega
    | cons b l =>
      unfold lead
      cases n with
      | zero =>
        have : ¬ 127 < b.toNat := by
          rcases he with h | h | h
          · simp at h
          · omega
          · simp at h; omega
        rw [if_neg this]
      | succ n =>
        have h0 : 127 < b.toNat := by simpa using hm 0 (by omega)
        rw [if_pos h0]
        congr 1
        refine ih l n (by omega) (by simpa using hl) (fun j hj => by simpa using hm (j + 1) (by omega)) ?_
        rcases he with h | h | h
        · left; simpa using h
        · right; left; omega
        · right; right; simpa using h
theorem val_succ (k : Nat) : ∀ l, k < l.length → val (k + 1) l = val k l + (l.getD k 0).toNat % 128 * 128 ^ k := by
  induction k with
  | zero => intro l h; cases l with
    | nil => simp at h
    | cons b l => simp [val]
  | succ k ih =>
    intro l h
    cases l with
    | nil => simp at h
    | cons b l =>
      have := ih l (by simpa using h)
      rw [val, this, val]
      simp only [List.getD_cons_succ]
      rw [Nat.pow_succ, Nat.mul_add, ← Nat.mul_assoc]
      have e : 128 * ((l.getD k 0).toNat % 128) * 128 ^ k = (l.getD k 0).toNat % 128 * (128 ^ k * 128) := by
        rw [Nat.mul_comm 128, Nat.mul_assoc, Nat.mul_comm 128]
      omega
theorem val_lt (k : Nat) : ∀ l, val k l < 128 ^ k := by
  induction k with
  | zero => intro l; simp [val]
  | succ k ih =>
    intro l
    cases l with
    | nil => simp [val]; exact Nat.pow_pos (by decide)
    | cons b l =>
      have := ih l
      rw [val, Nat.pow_succ]
      omega
/-- what the bytes of a number are, read -/
theorem enc_read (k : Nat) : ∀ z more, z < 128 ^ k * 256 → lead k (enc k z ++ more) + 1 = (enc k z).length ∧ (z < 128 ^ k * 128 → val ((enc k z).length) (enc k z ++ more) = z) := by
  induction k with
  | zero =>
    intro z more hz
    refine ⟨by simp [enc, lead], fun h => ?_⟩
    simp at h
    simp [enc, val]
    omega
  | succ k ih =>
    intro z more hz
    rw [Nat.pow_succ] at hz
    unfold enc
    by_cases h : z < 128
    · rw [if_pos h]
      have hb := byte_of z (by omega)
      refine ⟨?_, fun _ => ?_⟩
      · simp only [List.singleton_append, List.length_singleton, lead, hb]
        rw [if_neg (by omega)]
      · simp only [List.singleton_append, List.length_singleton, val, hb]
        omega
    · rw [if_neg h]
      have hb := byte_of (128 + z % 128) (by omega)
      obtain ⟨i1, i2⟩ := ih (z / 128) more (by omega)
      refine ⟨?_, fun hz2 => ?_⟩
      · simp only [List.cons_append, List.length_cons, lead, hb]
        rw [if_pos (by omega)]
        omega
      · rw [Nat.pow_succ] at hz2
        have := i2 (by omega)
        simp only [List.cons_append, List.length_cons, val, hb]
        rw [this]
        omega
theorem enc_last (k : Nat) : ∀ z more, z < 128 ^ k * 256 → ((enc k z ++ more).getD ((enc k z).length - 1) 0).toNat = z / 128 ^ ((enc k z).length - 1) ∧ (1 < (enc k z).length → 1 ≤ z / 128 ^ ((enc k z).length - 1)) := by
  induction k with
  | zero =>
    intro z more hz
    simp only [Nat.pow_zero, Nat.one_mul] at hz
    simp [enc]
    omega
  | succ k ih =>
    intro z more hz
    rw [Nat.pow_succ] at hz
    unfold enc
    by_cases h : z < 128
    · rw [if_pos h]
      have hb := byte_of z (by omega)
      simp [hb]
    · rw [if_neg h]
      obtain ⟨i1, i2⟩ := ih (z / 128) more (by omega)
      have hl := (enc_len k (z / 128)).1
      have e : (enc k (z / 128)).length + 1 - 1 = ((enc k (z / 128)).length - 1) + 1 := by omega
      have e2 : z / 128 ^ ((enc k (z / 128)).length - 1 + 1) = z / 128 / 128 ^ ((enc k (z / 128)).length - 1) := by
        rw [Nat.pow_succ, Nat.mul_comm, Nat.div_div_eq_div_mul]
      simp only [List.cons_append, List.length_cons]
      rw [e, e2, List.getD_cons_succ]
      refine ⟨i1, fun _ => ?_⟩
      by_cases h1 : 1 < (enc k (z / 128)).length
      · exact i2 h1
      · have : (enc k (z / 128)).length = 1 := by omega
        rw [this]
        simp
        omega
theorem pow9 : (128 : Nat) ^ 9 = 9223372036854775808 := by decide
theorem get_put (n : Int) (more : List UInt8) (h1 : -9223372036854775808 ≤ n) (h2 : n ≤ 9223372036854775807) : get (put n ++ more) = (n, (put n).length, 0) := by
  have hz := zig_lt n h1 h2
  have hp := pow9
  have hzz : zig n < 128 ^ 9 * 2 := by rw [hp]; exact hz
  obtain ⟨r1, r2⟩ := enc_read 9 (zig n) more (by omega)
  obtain ⟨l1, l2⟩ := enc_last 9 (zig n) more (by omega)
  have r3 := r2 (by omega)
  have hl := enc_len 9 (zig n)
  have hle : lead 9 (enc 9 (zig n) ++ more) = (enc 9 (zig n)).length - 1 := by omega
  unfold get put
  rw [hle]
  rw [if_neg (by simp; omega), if_neg, show (enc 9 (zig n)).length - 1 + 1 = (enc 9 (zig n)).length by omega, r3, zag_zig]
  rintro (⟨ha, hb⟩ | ⟨ha, hb⟩)
  · rw [ha] at l1
    rw [l1] at hb
    have : zig n / 128 ^ 9 < 2 := (Nat.div_lt_iff_lt_mul (Nat.pow_pos (by decide))).2 (by omega)
    omega
  · rw [l1] at hb
    have := l2 (by omega)
    omega
theorem val_pos (p : Nat) (l : List UInt8) (h : p < l.length) (hb : (l.getD p 0).toNat % 128 ≠ 0) : 1 ≤ val (p + 1) l := by
  rw [val_succ p l h]
  have : 0 < (l.getD p 0).toNat % 128 * 128 ^ p := Nat.mul_pos (by omega) (Nat.pow_pos (by decide))
  omega
theorem enc_take (k : Nat) : ∀ l, lead k l < l.length → (lead k l = k → (l.getD k 0).toNat < 128) → (0 < lead k l → (l.getD (lead k l) 0).toNat ≠ 0) → enc k (val (lead k l + 1) l) = l.take (lead k l + 1) := by
  induction k with
  | zero =>
    intro l hl hc _
    cases l with
    | nil => simp at hl
    | cons b l =>
      have : b.toNat < 128 := by simpa using hc rfl
      simp [lead, val, enc, Nat.mod_eq_of_lt this]
  | succ k ih =>
    intro l hl hc hz
    cases l with
    | nil => simp at hl
    | cons b l =>
      have hb := b.toNat_lt
      by_cases h : 127 < b.toNat
      · have hle : lead (k + 1) (b :: l) = lead k l + 1 := by rw [lead, if_pos h]
        rw [hle] at hl hc hz ⊢
        have hl' : lead k l < l.length := by simpa using hl
        have hz' : (l.getD (lead k l) 0).toNat ≠ 0 := by simpa using hz (by omega)
        have hcap : (l.getD (lead k l) 0).toNat < 128 := by
          rcases lead_end k l with e | e | e
          · omega
          · have := hc (by omega); rw [e]; simpa using this
          · omega
        have hv := val_pos (lead k l) l hl' (by omega)
        have hi := ih l hl' (fun e => by have := hc (by omega); simpa using this) (fun _ => hz')
        rw [val, enc, if_neg (by omega), List.take_succ_cons]
        have e1 : 128 + (b.toNat % 128 + 128 * val (lead k l + 1) l) % 128 = b.toNat := by omega
        have e2 : (b.toNat % 128 + 128 * val (lead k l + 1) l) / 128 = val (lead k l + 1) l := by omega
        rw [e1, e2, hi]
        simp
      · have hle : lead (k + 1) (b :: l) = 0 := by rw [lead, if_neg h]
        rw [hle]
        have e : b.toNat % 128 = b.toNat := Nat.mod_eq_of_lt (by omega)
        simp only [val, Nat.mul_zero, Nat.add_zero, Nat.zero_add, List.take_succ_cons, List.take_zero, e]
        rw [enc, if_pos (by omega)]
        simp
theorem put_get (l : List UInt8) (n : Int) (m : Nat) (h : get l = (n, m, 0)) : put n = l.take m ∧ m ≤ l.length ∧ 1 ≤ m ∧ -9223372036854775808 ≤ n ∧ n ≤ 9223372036854775807 := by
  unfold get at h
  split at h
  · simp at h
  · rename_i h1
    split at h
    · simp at h
    · rename_i h2
      simp only [Prod.mk.injEq, and_true] at h
      obtain ⟨rfl, rfl⟩ := h
      have hle := lead_le 9 l
      have hlt : lead 9 l < l.length := by omega
      have hcap : lead 9 l = 9 → (l.getD 9 0).toNat ≤ 1 := fun e => by
        rcases Nat.lt_or_ge 1 (l.getD 9 0).toNat with h' | h'
        · exact absurd (Or.inl ⟨e, h'⟩) h2
        · exact h'
      have hz : 0 < lead 9 l → (l.getD (lead 9 l) 0).toNat ≠ 0 := fun e e' => h2 (Or.inr ⟨e, e'⟩)
      have ht := enc_take 9 l hlt (fun e => by have := hcap e; omega) hz
      have hv : val (lead 9 l + 1) l < 18446744073709551616 := by
        have hp := pow9
        by_cases e : lead 9 l = 9
        · rw [e, val_succ 9 l (by omega)]
          have := val_lt 9 l
          have h3 := hcap e
          have h4 : (l.getD 9 0).toNat % 128 * 128 ^ 9 ≤ 1 * 128 ^ 9 := Nat.mul_le_mul_right _ (by omega)
          omega
        · have := val_lt (lead 9 l + 1) l
          have h5 : 128 ^ (lead 9 l + 1) ≤ 128 ^ 9 := Nat.pow_le_pow_right (by decide) (by omega)
          omega
      have hr := zag_lo _ hv
      refine ⟨?_, by omega, by omega, hr.1, hr.2⟩
      unfold put
      rw [zig_zag]
      exact ht
theorem get_err (l : List UInt8) (h : (get l).2.2 ≠ 0) : get l = (0, 0, 4) ∨ get l = (0, 0, 3) := by
  unfold get at h ⊢
  split
  · left; rfl
  · split
    · right; rfl
    · rename_i h1 h2
      rw [if_neg h1, if_neg h2] at h
      simp at h
/-- the first k bytes bear the mark -/
def Marks (k : Nat) (l : List UInt8) : Prop := ∀ j, j < k → 127 < (l.getD j 0).toNat
theorem Marks.next {k : Nat} {l : List UInt8} (h : Marks k l) (hk : 127 < (l.getD k 0).toNat) : Marks (k + 1) l := fun j hj => by
  by_cases e : j = k
  · subst e; exact hk
  · exact h j (by omega)
theorem Marks.lead {k : Nat} {l : List UInt8} (h : Marks k l) (h9 : k ≤ 9) (hl : k ≤ l.length) (he : k = l.length ∨ k = 9 ∨ (l.getD k 0).toNat ≤ 127) : lead 9 l = k :=
  lead_is 9 l k h9 hl h he
theorem get_a {k : Nat} {l : List UInt8} (h : Marks k l) (h9 : k ≤ 9) (hl : k = l.length) : get l = (0, 0, 4) := by
  unfold get
  rw [h.lead h9 (by omega) (Or.inl hl), if_pos hl]
theorem get_b {k : Nat} {l : List UInt8} (h : Marks k l) (h9 : k = 9) (hl : k < l.length) (hc : 1 < (l.getD k 0).toNat) : get l = (0, 0, 3) := by
  subst h9
  unfold get
  rw [h.lead (by omega) (by omega) (Or.inr (Or.inl rfl)), if_neg (by omega), if_pos (Or.inl ⟨rfl, hc⟩)]
theorem get_c {k : Nat} {l : List UInt8} (h : Marks k l) (h9 : k ≤ 9) (hl : k < l.length) (hc : (l.getD k 0).toNat = 0) (h0 : 0 < k) : get l = (0, 0, 3) := by
  unfold get
  rw [h.lead h9 (by omega) (Or.inr (Or.inr (by omega))), if_neg (by omega), if_pos (Or.inr ⟨h0, hc⟩)]
theorem get_d {k : Nat} {l : List UInt8} (h : Marks k l) (h9 : k ≤ 9) (hl : k < l.length) (hc : (l.getD k 0).toNat ≤ 127) (hb : k = 9 → (l.getD k 0).toNat ≤ 1) (h0 : 0 < k → (l.getD k 0).toNat ≠ 0) : get l = (zag (val (k + 1) l), k + 1, 0) := by
  unfold get
  rw [h.lead h9 (by omega) (Or.inr (Or.inr hc)), if_neg (by omega), if_neg]
  rintro (⟨rfl, h2⟩ | ⟨h1, h2⟩)
  · have := hb rfl; omega
  · exact h0 h1 h2
/-! Go's operations on bytes and uint64 -/
theorem wraps_u64 (n : Int) (h₀ : 0 ≤ n) (h₁ : n < 18446744073709551616) : IntKind.u64.wrap n = n := by
  simp only [IntKind.wrap, IntKind.bits, IntKind.signed]
  simp
  omega
theorem clear_mark (c : Nat) (h : c < 256) : bits .andNot .u8 (c : Int) 128 = ((c % 128 : Nat) : Int) := by
  have : ∀ c : Fin 256, bits .andNot .u8 ((c.val : Nat) : Int) 128 = ((c.val % 128 : Nat) : Int) := by decide +kernel
  exact this ⟨c, h⟩
theorem set_mark (c : Nat) (h : c < 256) : bits .or .u8 (c : Int) 128 = ((128 + c % 128 : Nat) : Int) := by
  have : ∀ c : Fin 256, bits .or .u8 ((c.val : Nat) : Int) 128 = ((128 + c.val % 128 : Nat) : Int) := by decide +kernel
  exact this ⟨c, h⟩
theorem pow_le9 (k : Nat) (h : k ≤ 9) : (128 : Nat) ^ k ≤ 9223372036854775808 := by
  rw [← pow9]; exact Nat.pow_le_pow_right (by decide) h
theorem pow_le8 (k : Nat) (h : k < 9) : (128 : Nat) ^ k ≤ 72057594037927936 := by
  have : (128 : Nat) ^ k ≤ 128 ^ 8 := Nat.pow_le_pow_right (by decide) (by omega)
  have e : (128 : Nat) ^ 8 = 72057594037927936 := by decide
  omega
theorem or_step (z c k : Nat) (hk : k ≤ 9) (hz : z < 128 ^ k) (hc : c < 256) (h9 : k = 9 → c % 128 ≤ 1) :
    bits .or .u64 (z : Int) (IntKind.u64.wrap (IntKind.u64.wrap (bits .andNot .u8 (c : Int) 128) * 2 ^ (7 * k))) = ((z + c % 128 * 128 ^ k : Nat) : Int) := by
  have hp := pow_le9 k hk
  have hm : c % 128 * 128 ^ k ≤ 9223372036854775808 := by
    by_cases e : k = 9
    · have := Nat.mul_le_mul_right (128 ^ k) (h9 e)
      omega
    · have h8 := pow_le8 k (by omega)
      have := Nat.mul_le_mul (show c % 128 ≤ 127 by omega) h8
      omega
  have e7 : (2 : Nat) ^ (7 * k) = 128 ^ k := by rw [Nat.pow_mul]
  have e7i : ((2 : Int) ^ (7 * k)) = ((128 ^ k : Nat) : Int) := by rw [← e7]; push_cast; rfl
  rw [clear_mark c hc, wraps_u64 ((c % 128 : Nat) : Int) (by omega) (by omega), e7i, ← Int.natCast_mul, wraps_u64 _ (by omega) (by omega)]
  have hb : z < 2 ^ 64 := by omega
  have hb2 : c % 128 * 128 ^ k < 2 ^ 64 := by omega
  have hor := Nat.two_pow_add_eq_or_of_lt (i := 7 * k) (b := z) (by rw [e7]; exact hz) (c % 128)
  rw [e7] at hor
  have hor2 : z ||| (c % 128 * 128 ^ k) = z + c % 128 * 128 ^ k := by
    rw [Nat.or_comm, Nat.mul_comm, ← hor, Nat.add_comm]
  have := (bits_nat .u64 64 (by decide) (fun n h0 h1 => wraps_u64 n h0 (by omega)) z (c % 128 * 128 ^ k) hb hb2).2
  rw [this, hor2]
theorem xor_i64_0 (a : Nat) (h : a < 9223372036854775808) : bits .xor .i64 (a : Int) 0 = (a : Int) := by
  show IntKind.i64.wrap ((BitVec.ofInt 64 (a : Int) ^^^ BitVec.ofInt 64 0).toNat : Int) = _
  have e : (BitVec.ofInt 64 (a : Int) ^^^ BitVec.ofInt 64 0).toNat = a := by
    simp only [BitVec.ofInt_natCast]
    simp
    omega
  rw [e, IntKind.wrap_i64]
  omega
theorem xor_i64_1 (a : Nat) (h : a < 9223372036854775808) : bits .xor .i64 (a : Int) (-1) = -(a : Int) - 1 := by
  show IntKind.i64.wrap ((BitVec.ofInt 64 (a : Int) ^^^ BitVec.ofInt 64 (-1)).toNat : Int) = _
  have e : (BitVec.ofInt 64 (a : Int) ^^^ BitVec.ofInt 64 (-1)).toNat = 18446744073709551615 - a := by
    rw [show BitVec.ofInt 64 (-1) = BitVec.allOnes 64 from by decide, BitVec.xor_allOnes, BitVec.toNat_not, BitVec.ofInt_natCast, BitVec.toNat_ofNat, Nat.mod_eq_of_lt (by omega)]
  rw [e, IntKind.wrap_i64]
  omega
theorem and_u64_1 (z : Nat) (h : z < 18446744073709551616) : bits .and .u64 (z : Int) 1 = ((z % 2 : Nat) : Int) := by
  have := bits_mask .u64 64 (by decide) (fun n h0 h1 => wraps_u64 n h0 (by omega)) 1 (by decide) (z : Int) (by omega) (by omega)
  simpa using this
/-- 'int64(z>>1) ^ -int64(z&1)' -/
theorem zag_bits (z : Nat) (h : z < 18446744073709551616) : bits .xor .i64 (RowKit.wrap64 ((z : Int) / 2)) (RowKit.wrap64 (-RowKit.wrap64 (bits .and .u64 (z : Int) 1))) = zag z := by
  rw [and_u64_1 z h, IntWalk.wrap64_in ((z : Int) / 2) (by omega), IntWalk.wrap64_in ((z % 2 : Nat) : Int) (by omega), IntWalk.wrap64_in (-((z % 2 : Nat) : Int)) (by omega)]
  rw [show (z : Int) / 2 = ((z / 2 : Nat) : Int) by omega]
  unfold zag
  rcases Nat.mod_two_eq_zero_or_one z with e | e
  · rw [if_pos e, e]
    exact xor_i64_0 _ (by omega)
  · rw [if_neg (by omega), e]
    exact xor_i64_1 _ (by omega)
theorem val_lt64 (k : Nat) (l : List UInt8) (hk : k ≤ 9) (hl : k < l.length) (h9 : k = 9 → (l.getD k 0).toNat % 128 ≤ 1) : val (k + 1) l < 18446744073709551616 := by
  have hp := pow9
  by_cases e : k = 9
  · have h3 := h9 e
    subst e
    rw [val_succ 9 l hl]
    have := val_lt 9 l
    have h4 : (l.getD 9 0).toNat % 128 * 128 ^ 9 ≤ 1 * 128 ^ 9 := Nat.mul_le_mul_right _ h3
    omega
  · have := val_lt (k + 1) l
    have h5 : 128 ^ (k + 1) ≤ 128 ^ 9 := Nat.pow_le_pow_right (by decide) (by omega)
    omega
theorem val_drop (m q : Nat) (l : List UInt8) (h : q < l.length) : val (m + 1) (l.drop q) = (l.getD q 0).toNat % 128 + 128 * val m (l.drop (q + 1)) := by
  rw [List.drop_eq_getElem_cons h, val]
  simp [List.getD, h]
theorem val_part (m : Nat) : ∀ q l, val m (l.drop q) ≤ val (m + q) l := by
  intro q
  induction q with
  | zero => intro l; simp
  | succ q ih =>
    intro l
    cases l with
    | nil => cases m <;> simp [val]
    | cons b l =>
      have := ih l
      rw [List.drop_succ_cons, show m + (q + 1) = (m + q) + 1 by omega, val]
      omega
theorem mul_u64 (z : Nat) (h : z * 128 < 18446744073709551616) : IntKind.u64.wrap ((z : Int) * 128) = ((z * 128 : Nat) : Int) := by
  rw [wraps_u64 _ (by omega) (by omega)]; omega
theorem add_u64 (a b : Nat) (h : a + b < 18446744073709551616) : IntKind.u64.wrap ((a : Int) + (b : Int)) = ((a + b : Nat) : Int) := by
  rw [wraps_u64 _ (by omega) (by omega)]; omega
theorem wrap_u64 (n : Int) : IntKind.u64.wrap n = n % 18446744073709551616 := by simp [IntKind.wrap, IntKind.bits, IntKind.signed]
theorem xor_u64_0 (a : Nat) (h : a < 18446744073709551616) : bits .xor .u64 (a : Int) 0 = (a : Int) := by
  show IntKind.u64.wrap ((BitVec.ofInt 64 (a : Int) ^^^ BitVec.ofInt 64 0).toNat : Int) = _
  have e : (BitVec.ofInt 64 (a : Int) ^^^ BitVec.ofInt 64 0).toNat = a := by
    simp only [BitVec.ofInt_natCast]
    simp
    omega
  rw [e, wrap_u64]
  omega
theorem xor_u64_1 (a : Nat) (h : a < 18446744073709551616) : bits .xor .u64 (a : Int) 18446744073709551615 = ((18446744073709551615 - a : Nat) : Int) := by
  show IntKind.u64.wrap ((BitVec.ofInt 64 (a : Int) ^^^ BitVec.ofInt 64 18446744073709551615).toNat : Int) = _
  have e : (BitVec.ofInt 64 (a : Int) ^^^ BitVec.ofInt 64 18446744073709551615).toNat = 18446744073709551615 - a := by
    rw [show BitVec.ofInt 64 18446744073709551615 = BitVec.allOnes 64 from by decide, BitVec.xor_allOnes, BitVec.toNat_not, BitVec.ofInt_natCast, BitVec.toNat_ofNat, Nat.mod_eq_of_lt (by omega)]
  rw [e, wrap_u64]
  omega
/-- 'uint64(n)<<1 ^ uint64(n>>63)' -/
theorem zig_bits (n : Int) (h1 : -9223372036854775808 ≤ n) (h2 : n ≤ 9223372036854775807) : bits .xor .u64 (IntKind.u64.wrap (IntKind.u64.wrap n * 2)) (IntKind.u64.wrap (n / 9223372036854775808)) = ((zig n : Nat) : Int) := by
  rw [wrap_u64 n, wrap_u64, wrap_u64]
  by_cases h : 0 ≤ n
  · have e1 : n % 18446744073709551616 * 2 % 18446744073709551616 = ((2 * n.toNat : Nat) : Int) := by omega
    have e2 : n / 9223372036854775808 % 18446744073709551616 = 0 := by omega
    rw [e1, e2, xor_u64_0 _ (by omega)]
    unfold zig
    rw [if_pos h]
  · have e1 : n % 18446744073709551616 * 2 % 18446744073709551616 = ((2 * n + 18446744073709551616).toNat : Int) := by omega
    have e2 : n / 9223372036854775808 % 18446744073709551616 = 18446744073709551615 := by omega
    rw [e1, e2, xor_u64_1 _ (by omega)]
    unfold zig
    rw [if_neg h]
    omega
theorem enc_next (k z : Nat) (h : ¬ z < 128) : enc (k + 1) z = UInt8.ofNat (128 + z % 128) :: enc k (z / 128) := by rw [enc, if_neg h]
theorem enc_stop (k z : Nat) (h : z < 128) : enc k z = [UInt8.ofNat z] := by cases k <;> simp [enc, h]
end Go.Proofs.YtcdbnabbhlnigaaDoor.Vint
