/- The plain law of frames that are cut off: just those records are told that are there whole. -/
import Derived.Test.YtgffoepnkpkhaaaFrame7
namespace Go.Proofs.Ytgffoepnkpkhaaa.Fr

/-- the frames of some records, one behind the other -/
def cat (l : List (List UInt8)) : List UInt8 := match l with
  | [] => []
  | x :: l => put x ++ cat l
/-- how many bytes the first frames have -/
def off (l : List (List UInt8)) (j : Nat) : Nat := match l, j with
  | x :: l, j + 1 => 8 + x.length + off l j
  | _, _ => 0
theorem cat_snoc (l : List (List UInt8)) (x : List UInt8) : cat (l ++ [x]) = cat l ++ put x := by
  induction l with
  | nil => simp [cat]
  | cons y l ih => simp [cat, ih]
theorem cat_append (l m : List (List UInt8)) : cat (l ++ m) = cat l ++ cat m := by
  induction l with
  | nil => simp [cat]
  | cons y l ih => simp [cat, ih]
theorem off_zero (l : List (List UInt8)) : off l 0 = 0 := by cases l <;> rfl
theorem off_succ (l : List (List UInt8)) : ∀ j (h : j < l.length), off l (j + 1) = off l j + 8 + l[j].length := by
  induction l with
  | nil => intro j h; simp at h
  | cons x l ih =>
    intro j h
    cases j with
    | zero => simp [off, off_zero]
    | succ j => simp only [off, List.getElem_cons_succ, ih j (by simpa using h)]; omega
theorem off_len (l : List (List UInt8)) : off l l.length = (cat l).length := by
  induction l with
  | nil => rfl
  | cons x l ih => simp only [off, cat, List.length_cons, List.length_append, put_len, ih]
theorem getD_take (l : List UInt8) (k i : Nat) : (l.take k).getD i 0 = if i < k then l.getD i 0 else 0 := by
  simp only [List.getD_eq_getElem?_getD, List.getElem?_take]
  split <;> simp
theorem num_take_le (l : List UInt8) (k : Nat) : num (l.take k) ≤ num l := by
  simp only [num, getD_take]
  have h0 : (if 0 < k then l.getD 0 0 else 0).toNat ≤ (l.getD 0 0).toNat := by split <;> simp
  have h1 : (if 1 < k then l.getD 1 0 else 0).toNat ≤ (l.getD 1 0).toNat := by split <;> simp
  have h2 : (if 2 < k then l.getD 2 0 else 0).toNat ≤ (l.getD 2 0).toNat := by split <;> simp
  have h3 : (if 3 < k then l.getD 3 0 else 0).toNat ≤ (l.getD 3 0).toNat := by split <;> simp
  omega
theorem num_take (l : List UInt8) (k : Nat) (h : 4 ≤ k) : num (l.take k) = num l := by
  simp only [num, getD_take]
  rw [if_pos (by omega), if_pos (by omega), if_pos (by omega), if_pos (by omega)]
theorem err_torn (x m : List UInt8) (hx : x.length ≤ 1024) (k : Nat) (hk : k < 8 + x.length) : err ((put x ++ m).take k) = 4 := by
  have h1 := num_take_le (put x ++ m) k
  rw [put_num x m (by omega)] at h1
  have hl : ((put x ++ m).take k).length = k := by rw [List.length_take, List.length_append, put_len]; omega
  unfold err
  rw [if_neg (by omega), if_pos]
  rw [hl]
  by_cases h8 : k < 8
  · exact Or.inl h8
  · refine Or.inr ?_
    rw [num_take _ _ (by omega), put_num x m (by omega)]
    exact hk
theorem torn (j : Nat) : ∀ (l : List (List UInt8)) (k : Nat), (∀ x ∈ l, x.length ≤ 1024) → j ≤ l.length → off l j ≤ k → k ≤ (cat l).length →
    (j = l.length ∨ k < off l (j + 1)) → all ((cat l).take k) = (l.take j, off l j, if off l j < k then 4 else 0) := by
  induction j with
  | zero =>
    intro l k hx _ _ hk hor
    rw [off_zero, List.take_zero]
    by_cases h0 : k = 0
    · rw [if_neg (by omega), h0, List.take_zero]
      exact all_nil _ rfl
    · rw [if_pos (by omega)]
      cases l with
      | nil => simp [cat] at hk; omega
      | cons x l =>
        have hk2 : k < 8 + x.length := by
          rcases hor with h | h
          · simp at h
          · simpa [off, off_zero] using h
        have he := err_torn x (cat l) (hx x (by simp)) k hk2
        show all ((put x ++ cat l).take k) = _
        rw [all_err _ (by rw [List.length_take, List.length_append, put_len]; omega) (by rw [he]; decide), he]
  | succ j ih =>
    intro l k hx hj hoff hk hor
    cases l with
    | nil => simp at hj
    | cons x l =>
      have hxl := hx x (by simp)
      simp only [off] at hoff
      simp only [cat, List.length_append, put_len] at hk
      have ht : (cat (x :: l)).take k = put x ++ (cat l).take (k - (8 + x.length)) := by
        rw [cat, List.take_append, put_len, List.take_of_length_le (by rw [put_len]; omega)]
      have ihh := ih l (k - (8 + x.length)) (fun y hy => hx y (by simp [hy])) (by simpa using hj) (by omega) (by omega) (by
        rcases hor with h | h
        · left; simpa using h
        · right; simp only [off] at h; cases l with
          | nil => simp [off] at h ⊢; omega
          | cons y l => simp only [off] at h ⊢; omega)
      rw [ht, all_ok _ (by rw [List.length_append, put_len]; omega) (put_err _ _ hxl), put_rec _ _ hxl, put_rest _ _ hxl, put_num _ _ (by omega), ihh]
      have ho : off (x :: l) (j + 1) = 8 + x.length + off l j := rfl
      have hi : (if off l j < k - (8 + x.length) then (4 : Int) else 0) = if off (x :: l) (j + 1) < k then 4 else 0 := by
        by_cases h : off l j < k - (8 + x.length)
        · rw [if_pos h, if_pos (by omega)]
        · rw [if_neg h, if_neg (by omega)]
      rw [← hi, ho, List.take_succ_cons]
/-- frames that are whole -/
theorem all_cat (l : List (List UInt8)) (hx : ∀ x ∈ l, x.length ≤ 1024) : all (cat l) = (l, (cat l).length, 0) := by
  have h := torn l.length l (cat l).length hx (Nat.le_refl _) (by rw [off_len]; exact Nat.le_refl _) (Nat.le_refl _) (Or.inl rfl)
  rw [List.take_of_length_le (Nat.le_refl _), List.take_of_length_le (Nat.le_refl _), off_len, if_neg (by omega)] at h
  exact h
end Go.Proofs.Ytgffoepnkpkhaaa.Fr
