/- The plain mathematics of commands: what each kind has, the form, the bytes. -/
import Derived.Test.YtcdbnabbhlnigaaDoorVint
namespace Go.Proofs.YtcdbnabbhlnigaaDoor

/-- a command -/
structure Cm where
  kd : Int
  id : Int
  mb : Int
  ot : Int
  sc : Int
  qt : Int
  pr : Int
deriving DecidableEq
/-- every value is an int64 -/
def In64 (n : Int) : Prop := -9223372036854775808 ≤ n ∧ n ≤ 9223372036854775807
structure Cm.Fit (c : Cm) : Prop where
  kd : In64 c.kd
  id : In64 c.id
  mb : In64 c.mb
  ot : In64 c.ot
  sc : In64 c.sc
  qt : In64 c.qt
  pr : In64 c.pr
/-- what a kind has -/
def hasOf (k : Int) : Nat × Bool :=
  if k = 2 then (63, true) else if k = 7 then (58, true) else if k = 5 then (26, true) else if k = 6 then (26, true) else
  if k = 4 then (18, true) else if k = 8 then (18, true) else if k = 9 then (18, true) else if k = 1 then (0, true) else if k = 10 then (0, true) else
  if k = 3 then (1, true) else (0, false)
/-- the values that a command may have, in order -/
def Cm.at (c : Cm) (j : Nat) : Int := match j with
  | 0 => c.id
  | 1 => c.mb
  | 2 => c.ot
  | 3 => c.sc
  | 4 => c.qt
  | _ => c.pr
def bitOf (j : Nat) : Nat := 2 ^ j
def hasF (b j : Nat) : Bool := b.testBit j
theorem hasOf_lt (k : Int) : (hasOf k).1 < 64 := by
  unfold hasOf
  repeat' (first | decide | split)
theorem Cm.Fit.at {c : Cm} (h : c.Fit) (j : Nat) : In64 (c.at j) := by
  unfold Cm.at
  split
  · exact h.id
  · exact h.mb
  · exact h.ot
  · exact h.sc
  · exact h.qt
  · exact h.pr
/-- the first j values are as they must be -/
def fine (b : Nat) (c : Cm) (j : Nat) : Bool := match j with
  | 0 => true
  | j + 1 => fine b c j && (hasF b j || decide (c.at j = 0))
/-- has a command its form -/
def Cm.right (c : Cm) : Bool := (hasOf c.kd).2 && fine (hasOf c.kd).1 c 6
/-- the bytes of the first j values that a command has -/
def vals (b : Nat) (c : Cm) (j : Nat) : List UInt8 := match j with
  | 0 => []
  | j + 1 => vals b c j ++ if hasF b j then Vint.put (c.at j) else []
def Cm.bytes (c : Cm) : List UInt8 := Vint.put c.kd ++ vals (hasOf c.kd).1 c 6
theorem fine_succ (b : Nat) (c : Cm) (j : Nat) : fine b c (j + 1) = (fine b c j && (hasF b j || decide (c.at j = 0))) := rfl
theorem vals_succ (b : Nat) (c : Cm) (j : Nat) : vals b c (j + 1) = vals b c j ++ if hasF b j then Vint.put (c.at j) else [] := rfl
theorem fine_false (b : Nat) (c : Cm) (j : Nat) (h : fine b c j = false) : ∀ k, j ≤ k → fine b c k = false := by
  intro k hk
  induction k with
  | zero => obtain rfl : j = 0 := by omega
            exact h
  | succ k ih =>
    by_cases e : j = k + 1
    · subst e; exact h
    · rw [fine_succ, ih (by omega)]; rfl
theorem and_bit : ∀ b, b < 64 → ∀ j, j < 6 → b &&& (2 ^ j) = if b.testBit j then 2 ^ j else 0 := by decide
end Go.Proofs.YtcdbnabbhlnigaaDoor
