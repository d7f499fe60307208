/- The plain mathematics of frames: four bytes of a number, a record's frame, the record at the front, all records. -/
import Derived.Test.YtgffoepnkpkhaaaCrc
namespace Go.Proofs.Ytgffoepnkpkhaaa.Fr

/-- byte i of four -/
def bt (n i : Nat) : Nat := n / 2 ^ (8 * (3 - i)) % 256
def be (n : Nat) : List UInt8 := [UInt8.ofNat (bt n 0), UInt8.ofNat (bt n 1), UInt8.ofNat (bt n 2), UInt8.ofNat (bt n 3)]
/-- the number of four bytes; bytes that are not there count 0 -/
def num (l : List UInt8) : Nat := 16777216 * (l.getD 0 0).toNat + 65536 * (l.getD 1 0).toNat + 256 * (l.getD 2 0).toNat + (l.getD 3 0).toNat
def put (r : List UInt8) : List UInt8 := be r.length ++ (be (Crc.on 0 r) ++ r)
/-- the error of the record at the front -/
def err (l : List UInt8) : Int :=
  if 1024 < num l then 3 else if l.length < 8 ∨ l.length < 8 + num l then 4 else
  if Crc.on 0 ((l.drop 8).take (num l)) ≠ num (l.drop 4) then 5 else 0
def rec (l : List UInt8) : List UInt8 := (l.drop 8).take (num l)
/-- all records from the front on, how many bytes they have, the error -/
def scan (k : Nat) (l : List UInt8) : List (List UInt8) × Nat × Int := match k with
  | 0 => ([], 0, 0)
  | k + 1 => if l.length = 0 then ([], 0, 0) else if err l ≠ 0 then ([], 0, err l) else
    (rec l :: (scan k (l.drop (8 + num l))).1, 8 + num l + (scan k (l.drop (8 + num l))).2.1, (scan k (l.drop (8 + num l))).2.2)
def all (l : List UInt8) : List (List UInt8) × Nat × Int := scan (l.length + 1) l

theorem bt_lt (n i : Nat) : bt n i < 256 := Nat.mod_lt _ (by decide)
theorem byte_of (n : Nat) (h : n < 256) : (UInt8.ofNat n).toNat = n := by rw [UInt8.toNat_ofNat', Nat.mod_eq_of_lt h]
theorem be_len (n : Nat) : (be n).length = 4 := rfl
theorem num_be (n : Nat) (r : List UInt8) (h : n < 4294967296) : num (be n ++ r) = n := by
  simp only [num, be, List.cons_append, List.nil_append, List.getD_cons_zero, List.getD_cons_succ, byte_of _ (bt_lt _ _)]
  simp only [bt]
  simp
  omega
theorem put_len (r : List UInt8) : (put r).length = 8 + r.length := by simp [put, be_len]; omega
theorem put_num (r m : List UInt8) (h : r.length < 4294967296) : num (put r ++ m) = r.length := by
  rw [put, List.append_assoc]; exact num_be _ _ h
theorem put_drop4 (r m : List UInt8) : (put r ++ m).drop 4 = be (Crc.on 0 r) ++ (r ++ m) := by
  simp [put, be]
theorem put_drop8 (r m : List UInt8) : (put r ++ m).drop 8 = r ++ m := by
  simp [put, be]
theorem put_err (r m : List UInt8) (h : r.length ≤ 1024) : err (put r ++ m) = 0 := by
  unfold err
  rw [put_num r m (by omega), if_neg (by omega), if_neg (by simp [put_len]; omega), put_drop8, put_drop4, num_be _ _ (Crc.on_lt _ _), List.take_left, if_neg (by simp)]
theorem put_rec (r m : List UInt8) (h : r.length ≤ 1024) : rec (put r ++ m) = r := by
  unfold rec
  rw [put_num r m (by omega), put_drop8, List.take_left]
theorem put_rest (r m : List UInt8) (h : r.length ≤ 1024) : (put r ++ m).drop (8 + num (put r ++ m)) = m := by
  rw [put_num r m (by omega), ← put_len r, List.drop_left]
theorem err_ok {l : List UInt8} (h : err l = 0) : num l ≤ 1024 ∧ 8 + num l ≤ l.length ∧ Crc.on 0 (rec l) = num (l.drop 4) := by
  unfold err at h
  split at h
  · simp at h
  · split at h
    · simp at h
    · split at h
      · simp at h
      · rename_i h1 h2 h3
        refine ⟨by omega, by omega, ?_⟩
        unfold rec
        exact Classical.not_not.1 h3
theorem rec_len {l : List UInt8} (h : err l = 0) : (rec l).length = num l := by
  obtain ⟨h1, h2, _⟩ := err_ok h
  simp [rec]; omega
/-- one step of the scan -/
theorem scan_nil (k : Nat) (l : List UInt8) (h : l.length = 0) : scan k l = ([], 0, 0) := by
  cases k <;> simp [scan, h]
theorem scan_more (k : Nat) : ∀ l j, l.length < k → k ≤ j → scan j l = scan k l := by
  induction k with
  | zero => intro l j h; omega
  | succ k ih =>
    intro l j h hj
    obtain ⟨j, rfl⟩ : ∃ i, j = i + 1 := ⟨j - 1, by omega⟩
    rw [scan, scan]
    by_cases h0 : l.length = 0
    · rw [if_pos h0, if_pos h0]
    · rw [if_neg h0, if_neg h0]
      by_cases he : err l ≠ 0
      · rw [if_pos he, if_pos he]
      · rw [if_neg he, if_neg he]
        have hd : (l.drop (8 + num l)).length < k := by rw [List.length_drop]; omega
        rw [ih _ j hd (by omega)]
theorem all_nil (l : List UInt8) (h : l.length = 0) : all l = ([], 0, 0) := scan_nil _ _ h
theorem all_err (l : List UInt8) (h : l.length ≠ 0) (he : err l ≠ 0) : all l = ([], 0, err l) := by
  unfold all; rw [scan, if_neg h, if_pos he]
theorem all_ok (l : List UInt8) (h : l.length ≠ 0) (he : err l = 0) : all l = (rec l :: (all (l.drop (8 + num l))).1, 8 + num l + (all (l.drop (8 + num l))).2.1, (all (l.drop (8 + num l))).2.2) := by
  have hd : (l.drop (8 + num l)).length < l.length := by rw [List.length_drop]; omega
  have e : scan l.length (l.drop (8 + num l)) = all (l.drop (8 + num l)) := by
    unfold all
    exact scan_more ((l.drop (8 + num l)).length + 1) _ _ (by omega) (by omega)
  conv => lhs; rw [all, scan, if_neg h, if_neg (by simpa using he), e]
end Go.Proofs.Ytgffoepnkpkhaaa.Fr
