/- The plain law of disks that are written, synced and lost: what was synced stays. -/
import Derived.Test.YtgffoepnkpkhaaaHeld
import Derived.Test.YtgffoepnkpkhaaaDisk6
namespace Go.Proofs.Ytgffoepnkpkhaaa
open Go.RowKit

structure Kp (d : Dk) (sure all : ByteArray) (i : Nat) : Prop where
  cat : d.s ++ d.u = all
  le : sure.size ≤ d.s.size
  pre : d.s.extract 0 sure.size = sure
  size : all.size ≤ 50 * i
  lo : -1 ≤ d.f
  hi : d.f ≤ 255
theorem ba_list {a b : ByteArray} (h : a.data.toList = b.data.toList) : a = b := ByteArray.ext (Array.toList_inj.mp h)
theorem ba_extract (s : ByteArray) (a b : Nat) : (s.extract a b).data.toList = (s.data.toList.drop a).take (b - a) := by
  rw [ByteArray.data_extract, Array.toList_extract, List.extract]
theorem ba_cat (a b : ByteArray) : (a ++ b).data.toList = a.data.toList ++ b.data.toList := by simp [ByteArray.data_append]
theorem ba_len (a : ByteArray) : a.data.toList.length = a.size := by simp
theorem ba_cut (s u : ByteArray) (m : Nat) (h : m ≤ u.size) : (s ++ u).extract 0 (s ++ u.extract 0 m).size = s ++ u.extract 0 m := by
  apply ba_list
  rw [ba_extract, ba_cat, ba_cat, ba_extract, ByteArray.size_append, ByteArray.size_extract]
  simp only [List.drop_zero, Nat.sub_zero, Nat.min_eq_left h]
  rw [List.take_append, ba_len, List.take_of_length_le (by rw [ba_len]; omega), Nat.add_sub_cancel_left]
theorem ba_pre (s u : ByteArray) (n : Nat) (h : n ≤ s.size) : (s ++ u).extract 0 n = s.extract 0 n := by
  apply ba_list
  rw [ba_extract, ba_extract, ba_cat]
  simp only [List.drop_zero, Nat.sub_zero]
  rw [List.take_append_of_le_length (by rw [ba_len]; omega)]
theorem ba_whole (s : ByteArray) : s.extract 0 s.size = s := by
  apply ba_list
  rw [ba_extract, List.drop_zero, Nat.sub_zero, List.take_of_length_le (by rw [ba_len]; omega)]
theorem ba_nil (s : ByteArray) : s ++ ByteArray.empty = s := by
  apply ba_list; rw [ba_cat]; simp
theorem Kp.small {d : Dk} {sure all : ByteArray} {i : Nat} (h : Kp d sure all i) (hi : i ≤ 40) : ¬ (1048576 < d.s.size + d.u.size ∨ d.f < -1) ∧ d.s.size + d.u.size ≤ 2000 := by
  have h1 := h.cat
  have h2 := h.size
  have h3 := h.lo
  have : (d.s ++ d.u).size = all.size := by rw [h1]
  rw [ByteArray.size_append] at this
  omega
theorem Kp.ok {d : Dk} {sure all : ByteArray} {i : Nat} (h : Kp d sure all i) (hi : i ≤ 40) : d.Ok := by
  have := (h.small hi).2
  have := h.lo
  have := h.hi
  exact ⟨by omega, by omega, by omega, by omega⟩
theorem Kp.less {f : Int} (h1 : -1 ≤ f) (h2 : f ≤ 255) : -1 ≤ Dk.less f ∧ Dk.less f ≤ 255 := by unfold Dk.less; split <;> omega
theorem Kp.down {d : Dk} {sure all t : ByteArray} {i : Nat} (h : Kp d sure all i) (hi : i < 40) (hd : d.d = true) : Kp (d.write t).1 sure all (i + 1) := by
  have := (h.small (by omega)).1
  have e : (d.write t).1 = d := by simp [Dk.write, this, hd]
  rw [e]
  exact ⟨h.cat, h.le, h.pre, by have := h.size; omega, h.lo, h.hi⟩
theorem Kp.up {d : Dk} {sure all t : ByteArray} {i : Nat} (h : Kp d sure all i) (hi : i < 40) (hd : d.d = false) (ht : t.size ≤ 50) : Kp (d.write t).1 sure (all ++ t) (i + 1) := by
  have h1 := (h.small (by omega)).1
  have h2 := (h.small (by omega)).2
  have h3 := h.size
  have hl := Kp.less h.lo h.hi
  have hc : d.s ++ (d.u ++ t) = all ++ t := by rw [← h.cat, ByteArray.append_assoc]
  have hz : (all ++ t).size ≤ 50 * (i + 1) := by rw [ByteArray.size_append]; omega
  unfold Dk.write
  rw [if_neg h1, hd, if_neg (by simp), if_neg (by omega)]
  split
  · exact ⟨hc, h.le, h.pre, hz, by simp, by simp⟩
  · exact ⟨hc, h.le, h.pre, hz, hl.1, hl.2⟩
theorem Kp.sync {d : Dk} {sure all : ByteArray} {i : Nat} (h : Kp d sure all i) (hi : i < 40) : (d.sync.2 = 0 ∧ Kp d.sync.1 all all (i + 1)) ∨ (d.sync.2 ≠ 0 ∧ Kp d.sync.1 sure all (i + 1)) := by
  have h1 := (h.small (by omega)).1
  have h3 := h.size
  have hl := Kp.less h.lo h.hi
  unfold Dk.sync
  rw [if_neg h1]
  split
  · exact Or.inr ⟨by simp, h.cat, h.le, h.pre, by omega, h.lo, h.hi⟩
  · split
    · exact Or.inr ⟨by simp, h.cat, h.le, h.pre, by omega, by simp, by simp⟩
    · refine Or.inl ⟨rfl, by rw [ba_nil]; exact h.cat, ?_, ?_, by omega, hl.1, hl.2⟩
      · rw [h.cat]; exact Nat.le_refl _
      · rw [h.cat]; exact ba_whole _
theorem Kp.crash {d : Dk} {sure all : ByteArray} {i : Nat} (n : Int) (h : Kp d sure all i) (hi : i < 40) :
    (d.crash n).2 = 0 ∧ (d.crash n).1.s.size ≤ all.size ∧ Kp (d.crash n).1 (all.extract 0 (d.crash n).1.s.size) (all.extract 0 (d.crash n).1.s.size) (i + 1) := by
  have h1 := (h.small (by omega)).1
  have h3 := h.size
  have hc := h.cat
  have e : d.crash n = (⟨d.s ++ d.u.extract 0 (min n.toNat d.u.size), ByteArray.empty, -1, false⟩, 0) := by unfold Dk.crash; rw [if_neg h1]
  rw [e]
  dsimp only
  have hz : (d.s ++ d.u.extract 0 (min n.toNat d.u.size)).size ≤ all.size := by
    rw [← hc, ByteArray.size_append, ByteArray.size_append, ByteArray.size_extract]; omega
  have hcut : all.extract 0 (d.s ++ d.u.extract 0 (min n.toNat d.u.size)).size = d.s ++ d.u.extract 0 (min n.toNat d.u.size) := by
    rw [← hc]; exact ba_cut _ _ _ (by omega)
  rw [hcut]
  refine ⟨rfl, hz, ba_nil _, Nat.le_refl _, ba_whole _, by omega, by simp, by simp⟩
end Go.Proofs.Ytgffoepnkpkhaaa
