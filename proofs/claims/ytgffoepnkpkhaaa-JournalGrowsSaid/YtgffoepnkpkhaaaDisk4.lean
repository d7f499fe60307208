/- The walks of the reference of layer 9: the same plain functions on a disk. -/
import Derived.Test.YtgffoepnkpkhaaaDisk3
namespace Go.Proofs.Ytgffoepnkpkhaaa
open Go.RowKit

set_option maxHeartbeats 400000 in
theorem wrong_at (s u : ByteArray) (f : Int) (d : Bool) (h1 : s.size ≤ 1000000000000) (h2 : u.size ≤ 1000000000000) (w : World) :
    Calls Try.prog 47 #[.agg #[.string s, .string u, .int .i64 f, .bool d]] w fun e w' => e = .returned (.int .i64 (Dk.wrong ⟨s, u, f, d⟩)) ∧ w' = w.alloc (.cells #[.string s, .string u, .int .i64 f, .bool d] 32) := by
  by_cases hc : 1048576 < s.size + u.size ∨ f < -1
  · rw [Dk.wrong_arg (x := ⟨s, u, f, d⟩) hc]
    have hc' : 1048576 < s.size + u.size ∨ (s.size + u.size ≤ 1048576 ∧ f < -1) := by omega
    clear hc
    rcases hc' with hc | ⟨hc, hd⟩
    all_goals
      go_enter Try.func47, Try.ntmps47
      go_wp2
      go_ret
      exact ⟨rfl, rfl⟩
  · cases d
    · rw [Dk.wrong_ok (x := ⟨s, u, f, false⟩) hc rfl]
      have hc1 : s.size + u.size ≤ 1048576 := by omega
      have hc2 : -1 ≤ f := by omega
      clear hc
      go_enter Try.func47, Try.ntmps47
      go_wp2
      go_ret
      exact ⟨rfl, rfl⟩
    · rw [Dk.wrong_down (x := ⟨s, u, f, true⟩) hc rfl]
      have hc1 : s.size + u.size ≤ 1048576 := by omega
      have hc2 : -1 ≤ f := by omega
      clear hc
      go_enter Try.func47, Try.ntmps47
      go_wp2
      go_ret
      exact ⟨rfl, rfl⟩
set_option maxHeartbeats 400000 in
theorem goes_lost (s u : ByteArray)  (d : Bool)  (w : World) :
    Calls Try.prog 53 #[.agg #[.string s, .string u, .int .i64 0, .bool d]] w fun e w' => e = .returned (.tuple #[.agg #[.string s, .string u, .int .i64 0, .bool true], .bool true]) ∧ w' = (w.alloc (.cells #[.string s, .string u, .int .i64 0, .bool true] 32)).alloc (.cells #[.string s, .string u, .int .i64 0, .bool true] 32) := by
  go_enter Try.func53, Try.ntmps53
  go_wp2
  exact bodyPost_ret (v := .tuple #[.agg #[.string s, .string u, .int .i64 0, .bool true], .bool true]) (by simp [results, Try.results53, go_sem]) rfl ⟨rfl, rfl⟩
set_option maxHeartbeats 400000 in
theorem goes_more (s u : ByteArray) (f : Int) (d : Bool) (hf : 0 < f) (hf2 : f ≤ 9223372036854775807) (w : World) :
    Calls Try.prog 53 #[.agg #[.string s, .string u, .int .i64 f, .bool d]] w fun e w' => e = .returned (.tuple #[.agg #[.string s, .string u, .int .i64 (f - 1), .bool d], .bool false]) ∧ w' = (w.alloc (.cells #[.string s, .string u, .int .i64 (f - 1), .bool d] 32)).alloc (.cells #[.string s, .string u, .int .i64 (f - 1), .bool d] 32) := by
  have hfz : (f == 0) = false := by simp; omega
  go_enter Try.func53, Try.ntmps53
  go_wp2
  exact bodyPost_ret (v := .tuple #[.agg #[.string s, .string u, .int .i64 (f - 1), .bool d], .bool false]) (by simp [results, Try.results53, go_sem]) rfl ⟨rfl, rfl⟩
set_option maxHeartbeats 400000 in
theorem goes_never (s u : ByteArray) (f : Int) (d : Bool) (hf : f < 0) (w : World) :
    Calls Try.prog 53 #[.agg #[.string s, .string u, .int .i64 f, .bool d]] w fun e w' => e = .returned (.tuple #[.agg #[.string s, .string u, .int .i64 f, .bool d], .bool false]) ∧ w' = (w.alloc (.cells #[.string s, .string u, .int .i64 f, .bool d] 32)).alloc (.cells #[.string s, .string u, .int .i64 f, .bool d] 32) := by
  have hfz : (f == 0) = false := by simp; omega
  go_enter Try.func53, Try.ntmps53
  go_wp2
  exact bodyPost_ret (v := .tuple #[.agg #[.string s, .string u, .int .i64 f, .bool d], .bool false]) (by simp [results, Try.results53, go_sem]) rfl ⟨rfl, rfl⟩
set_option maxHeartbeats 1000000 in
theorem refwrite_more (s u : ByteArray) (t : ByteArray) (f : Int) (d : Bool) (h1 : s.size ≤ 1000000000000) (h2 : u.size ≤ 1000000000000) (he : Dk.wrong ⟨s, u, f, d⟩ = 0) (hf : 0 < f) (hf2 : f ≤ 9223372036854775807) (hn : s.size + u.size + t.size ≤ 1048576) (w : World) :
    Calls Try.prog 27 #[.agg #[.string s, .string u, .int .i64 f, .bool d], .string t] w fun e w' => e = .returned (.tuple #[.agg #[.string s, .string (u ++ t), .int .i64 (f - 1), .bool d], .int .i64 0]) ∧ Below w.heap.size w w' := by
  have HE := Lib.hid he
  clear he
  go_enter Try.func27, Try.ntmps27
  go_wp2_with fail
  refine (wrong_at s u f d h1 h2 _).mono ?_
  rintro e w1 ⟨rfl, rfl⟩
  rw [HE.out]
  go_wp2_with fail
  refine (goes_more s u f d hf hf2 _).mono ?_
  rintro e w1 ⟨rfl, rfl⟩
  go_wp2
  refine bodyPost_ret (v := .tuple #[.agg #[.string s, .string (u ++ t), .int .i64 (f - 1), .bool d], .int .i64 0]) (by simp [results, Try.results27, go_sem]) rfl ⟨rfl, ?_⟩
  repeat (first | exact Below.refl _ _ | refine Below.alloc ?_ (by first | exact Nat.le_refl _ | (simp; done) | (simp; omega)) _)
set_option maxHeartbeats 1000000 in
theorem refsync_more (s u : ByteArray) (f : Int) (d : Bool) (h1 : s.size ≤ 1000000000000) (h2 : u.size ≤ 1000000000000) (he : Dk.wrong ⟨s, u, f, d⟩ = 0) (hf : 0 < f) (hf2 : f ≤ 9223372036854775807) (w : World) :
    Calls Try.prog 28 #[.agg #[.string s, .string u, .int .i64 f, .bool d]] w fun e w' => e = .returned (.tuple #[.agg #[.string (s ++ u), .string ByteArray.empty, .int .i64 (f - 1), .bool d], .int .i64 0]) ∧ Below w.heap.size w w' := by
  have HE := Lib.hid he
  clear he
  go_enter Try.func28, Try.ntmps28
  go_wp2_with fail
  refine (wrong_at s u f d h1 h2 _).mono ?_
  rintro e w1 ⟨rfl, rfl⟩
  rw [HE.out]
  go_wp2_with fail
  refine (goes_more s u f d hf hf2 _).mono ?_
  rintro e w1 ⟨rfl, rfl⟩
  go_wp2
  refine bodyPost_ret (v := .tuple #[.agg #[.string (s ++ u), .string ByteArray.empty, .int .i64 (f - 1), .bool d], .int .i64 0]) (by simp [results, Try.results28, go_sem]; rfl) rfl ⟨rfl, ?_⟩
  repeat (first | exact Below.refl _ _ | refine Below.alloc ?_ (by first | exact Nat.le_refl _ | (simp; done) | (simp; omega)) _)
set_option maxHeartbeats 1000000 in
theorem refcut_more (s u : ByteArray) (f : Int) (d : Bool) (n : Nat) (h1 : s.size ≤ 1000000000000) (h2 : u.size ≤ 1000000000000) (he : Dk.wrong ⟨s, u, f, d⟩ = 0) (hf : 0 < f) (hf2 : f ≤ 9223372036854775807) (hu : u.size = 0) (hn : n ≤ s.size) (w : World) :
    Calls Try.prog 30 #[.agg #[.string s, .string u, .int .i64 f, .bool d], .int .i64 n] w fun e w' => e = .returned (.tuple #[.agg #[.string (s.extract 0 n), .string u, .int .i64 (f - 1), .bool d], .int .i64 0]) ∧ Below w.heap.size w w' := by
  have HE := Lib.hid he
  clear he
  have hul : (u.toList == ([] : List UInt8)) = true := by rw [ByteArray.toList_eq]; have : u.data.toList = [] := List.eq_nil_of_length_eq_zero (by simpa using hu); rw [this]; rfl
  have hul2 : u.toList.isEmpty = true := by rw [ByteArray.toList_eq]; have : u.data.toList = [] := List.eq_nil_of_length_eq_zero (by simpa using hu); rw [this]; rfl
  clear hu
  go_enter Try.func30, Try.ntmps30
  go_wp2_with fail
  refine (wrong_at s u f d h1 h2 _).mono ?_
  rintro e w1 ⟨rfl, rfl⟩
  rw [HE.out]
  go_wp2_with fail
  refine (goes_more s u f d hf hf2 _).mono ?_
  rintro e w1 ⟨rfl, rfl⟩
  go_wp2
  refine bodyPost_ret (v := .tuple #[.agg #[.string (s.extract 0 n), .string u, .int .i64 (f - 1), .bool d], .int .i64 0]) (by simp [results, Try.results30, go_sem]) rfl ⟨rfl, ?_⟩
  repeat (first | exact Below.refl _ _ | refine Below.alloc ?_ (by first | exact Nat.le_refl _ | (simp; done) | (simp; omega)) _)
set_option maxHeartbeats 1000000 in
theorem refwrite_never (s u : ByteArray) (t : ByteArray) (f : Int) (d : Bool) (h1 : s.size ≤ 1000000000000) (h2 : u.size ≤ 1000000000000) (he : Dk.wrong ⟨s, u, f, d⟩ = 0) (hf : f < 0) (hn : s.size + u.size + t.size ≤ 1048576) (w : World) :
    Calls Try.prog 27 #[.agg #[.string s, .string u, .int .i64 f, .bool d], .string t] w fun e w' => e = .returned (.tuple #[.agg #[.string s, .string (u ++ t), .int .i64 f, .bool d], .int .i64 0]) ∧ Below w.heap.size w w' := by
  have HE := Lib.hid he
  clear he
  go_enter Try.func27, Try.ntmps27
  go_wp2_with fail
  refine (wrong_at s u f d h1 h2 _).mono ?_
  rintro e w1 ⟨rfl, rfl⟩
  rw [HE.out]
  go_wp2_with fail
  refine (goes_never s u f d hf _).mono ?_
  rintro e w1 ⟨rfl, rfl⟩
  go_wp2
  refine bodyPost_ret (v := .tuple #[.agg #[.string s, .string (u ++ t), .int .i64 f, .bool d], .int .i64 0]) (by simp [results, Try.results27, go_sem]) rfl ⟨rfl, ?_⟩
  repeat (first | exact Below.refl _ _ | refine Below.alloc ?_ (by first | exact Nat.le_refl _ | (simp; done) | (simp; omega)) _)
set_option maxHeartbeats 1000000 in
theorem refsync_never (s u : ByteArray) (f : Int) (d : Bool) (h1 : s.size ≤ 1000000000000) (h2 : u.size ≤ 1000000000000) (he : Dk.wrong ⟨s, u, f, d⟩ = 0) (hf : f < 0) (w : World) :
    Calls Try.prog 28 #[.agg #[.string s, .string u, .int .i64 f, .bool d]] w fun e w' => e = .returned (.tuple #[.agg #[.string (s ++ u), .string ByteArray.empty, .int .i64 f, .bool d], .int .i64 0]) ∧ Below w.heap.size w w' := by
  have HE := Lib.hid he
  clear he
  go_enter Try.func28, Try.ntmps28
  go_wp2_with fail
  refine (wrong_at s u f d h1 h2 _).mono ?_
  rintro e w1 ⟨rfl, rfl⟩
  rw [HE.out]
  go_wp2_with fail
  refine (goes_never s u f d hf _).mono ?_
  rintro e w1 ⟨rfl, rfl⟩
  go_wp2
  refine bodyPost_ret (v := .tuple #[.agg #[.string (s ++ u), .string ByteArray.empty, .int .i64 f, .bool d], .int .i64 0]) (by simp [results, Try.results28, go_sem]; rfl) rfl ⟨rfl, ?_⟩
  repeat (first | exact Below.refl _ _ | refine Below.alloc ?_ (by first | exact Nat.le_refl _ | (simp; done) | (simp; omega)) _)
set_option maxHeartbeats 1000000 in
theorem refcut_never (s u : ByteArray) (f : Int) (d : Bool) (n : Nat) (h1 : s.size ≤ 1000000000000) (h2 : u.size ≤ 1000000000000) (he : Dk.wrong ⟨s, u, f, d⟩ = 0) (hf : f < 0) (hu : u.size = 0) (hn : n ≤ s.size) (w : World) :
    Calls Try.prog 30 #[.agg #[.string s, .string u, .int .i64 f, .bool d], .int .i64 n] w fun e w' => e = .returned (.tuple #[.agg #[.string (s.extract 0 n), .string u, .int .i64 f, .bool d], .int .i64 0]) ∧ Below w.heap.size w w' := by
  have HE := Lib.hid he
  clear he
  have hul : (u.toList == ([] : List UInt8)) = true := by rw [ByteArray.toList_eq]; have : u.data.toList = [] := List.eq_nil_of_length_eq_zero (by simpa using hu); rw [this]; rfl
  have hul2 : u.toList.isEmpty = true := by rw [ByteArray.toList_eq]; have : u.data.toList = [] := List.eq_nil_of_length_eq_zero (by simpa using hu); rw [this]; rfl
  clear hu
  go_enter Try.func30, Try.ntmps30
  go_wp2_with fail
  refine (wrong_at s u f d h1 h2 _).mono ?_
  rintro e w1 ⟨rfl, rfl⟩
  rw [HE.out]
  go_wp2_with fail
  refine (goes_never s u f d hf _).mono ?_
  rintro e w1 ⟨rfl, rfl⟩
  go_wp2
  refine bodyPost_ret (v := .tuple #[.agg #[.string (s.extract 0 n), .string u, .int .i64 f, .bool d], .int .i64 0]) (by simp [results, Try.results30, go_sem]) rfl ⟨rfl, ?_⟩
  repeat (first | exact Below.refl _ _ | refine Below.alloc ?_ (by first | exact Nat.le_refl _ | (simp; done) | (simp; omega)) _)
set_option maxHeartbeats 1000000 in
theorem refwrite_lost (s u : ByteArray) (t : ByteArray) (d : Bool) (h1 : s.size ≤ 1000000000000) (h2 : u.size ≤ 1000000000000) (he : Dk.wrong ⟨s, u, 0, d⟩ = 0) (hn : s.size + u.size + t.size ≤ 1048576) (w : World) :
    Calls Try.prog 27 #[.agg #[.string s, .string u, .int .i64 0, .bool d], .string t] w fun e w' => e = .returned (.tuple #[.agg #[.string s, .string (u ++ t), .int .i64 0, .bool true], .int .i64 16]) ∧ Below w.heap.size w w' := by
  have HE := Lib.hid he
  clear he
  go_enter Try.func27, Try.ntmps27
  go_wp2_with fail
  refine (wrong_at s u 0 d h1 h2 _).mono ?_
  rintro e w1 ⟨rfl, rfl⟩
  rw [HE.out]
  go_wp2_with fail
  refine (goes_lost s u d _).mono ?_
  rintro e w1 ⟨rfl, rfl⟩
  go_wp2
  refine bodyPost_ret (v := .tuple #[.agg #[.string s, .string (u ++ t), .int .i64 0, .bool true], .int .i64 16]) (by simp [results, Try.results27, go_sem]) rfl ⟨rfl, ?_⟩
  repeat (first | exact Below.refl _ _ | refine Below.alloc ?_ (by first | exact Nat.le_refl _ | (simp; done) | (simp; omega)) _)
set_option maxHeartbeats 1000000 in
theorem refsync_lost (s u : ByteArray) (d : Bool) (h1 : s.size ≤ 1000000000000) (h2 : u.size ≤ 1000000000000) (he : Dk.wrong ⟨s, u, 0, d⟩ = 0)  (w : World) :
    Calls Try.prog 28 #[.agg #[.string s, .string u, .int .i64 0, .bool d]] w fun e w' => e = .returned (.tuple #[.agg #[.string s, .string u, .int .i64 0, .bool true], .int .i64 16]) ∧ Below w.heap.size w w' := by
  have HE := Lib.hid he
  clear he
  go_enter Try.func28, Try.ntmps28
  go_wp2_with fail
  refine (wrong_at s u 0 d h1 h2 _).mono ?_
  rintro e w1 ⟨rfl, rfl⟩
  rw [HE.out]
  go_wp2_with fail
  refine (goes_lost s u d _).mono ?_
  rintro e w1 ⟨rfl, rfl⟩
  go_wp2
  refine bodyPost_ret (v := .tuple #[.agg #[.string s, .string u, .int .i64 0, .bool true], .int .i64 16]) (by simp [results, Try.results28, go_sem]) rfl ⟨rfl, ?_⟩
  repeat (first | exact Below.refl _ _ | refine Below.alloc ?_ (by first | exact Nat.le_refl _ | (simp; done) | (simp; omega)) _)
set_option maxHeartbeats 1000000 in
theorem refcut_lost (s u : ByteArray) (d : Bool) (n : Nat) (h1 : s.size ≤ 1000000000000) (h2 : u.size ≤ 1000000000000) (he : Dk.wrong ⟨s, u, 0, d⟩ = 0) (hu : u.size = 0) (hn : n ≤ s.size) (w : World) :
    Calls Try.prog 30 #[.agg #[.string s, .string u, .int .i64 0, .bool d], .int .i64 n] w fun e w' => e = .returned (.tuple #[.agg #[.string s, .string u, .int .i64 0, .bool true], .int .i64 16]) ∧ Below w.heap.size w w' := by
  have HE := Lib.hid he
  clear he
  have hul : (u.toList == ([] : List UInt8)) = true := by rw [ByteArray.toList_eq]; have : u.data.toList = [] := List.eq_nil_of_length_eq_zero (by simpa using hu); rw [this]; rfl
  have hul2 : u.toList.isEmpty = true := by rw [ByteArray.toList_eq]; have : u.data.toList = [] := List.eq_nil_of_length_eq_zero (by simpa using hu); rw [this]; rfl
  clear hu
  go_enter Try.func30, Try.ntmps30
  go_wp2_with fail
  refine (wrong_at s u 0 d h1 h2 _).mono ?_
  rintro e w1 ⟨rfl, rfl⟩
  rw [HE.out]
  go_wp2_with fail
  refine (goes_lost s u d _).mono ?_
  rintro e w1 ⟨rfl, rfl⟩
  go_wp2
  refine bodyPost_ret (v := .tuple #[.agg #[.string s, .string u, .int .i64 0, .bool true], .int .i64 16]) (by simp [results, Try.results30, go_sem]) rfl ⟨rfl, ?_⟩
  repeat (first | exact Below.refl _ _ | refine Below.alloc ?_ (by first | exact Nat.le_refl _ | (simp; done) | (simp; omega)) _)
set_option maxHeartbeats 1000000 in
theorem refwrite_wrong (s u : ByteArray) (f : Int) (d : Bool) (e0 : Int) (t : ByteArray) (h1 : s.size ≤ 1000000000000) (h2 : u.size ≤ 1000000000000) (he : Dk.wrong ⟨s, u, f, d⟩ = e0) (hn : (e0 != 0) = true) (w : World) :
    Calls Try.prog 27 #[.agg #[.string s, .string u, .int .i64 f, .bool d], .string t] w fun e w' => e = .returned (.tuple #[.agg #[.string s, .string u, .int .i64 f, .bool d], .int .i64 e0]) ∧ Below w.heap.size w w' := by
  have HE := Lib.hid he
  clear he
  go_enter Try.func27, Try.ntmps27
  go_wp2_with fail
  refine (wrong_at s u f d h1 h2 _).mono ?_
  rintro e w1 ⟨rfl, rfl⟩
  rw [HE.out]
  go_wp2
  refine bodyPost_ret (v := .tuple #[.agg #[.string s, .string u, .int .i64 f, .bool d], .int .i64 e0]) (by simp [results, Try.results27, go_sem]) rfl ⟨rfl, ?_⟩
  repeat (first | exact Below.refl _ _ | refine Below.alloc ?_ (by first | exact Nat.le_refl _ | (simp; done) | (simp; omega)) _)
set_option maxHeartbeats 1000000 in
theorem refsync_wrong (s u : ByteArray) (f : Int) (d : Bool) (e0 : Int)  (h1 : s.size ≤ 1000000000000) (h2 : u.size ≤ 1000000000000) (he : Dk.wrong ⟨s, u, f, d⟩ = e0) (hn : (e0 != 0) = true) (w : World) :
    Calls Try.prog 28 #[.agg #[.string s, .string u, .int .i64 f, .bool d]] w fun e w' => e = .returned (.tuple #[.agg #[.string s, .string u, .int .i64 f, .bool d], .int .i64 e0]) ∧ Below w.heap.size w w' := by
  have HE := Lib.hid he
  clear he
  go_enter Try.func28, Try.ntmps28
  go_wp2_with fail
  refine (wrong_at s u f d h1 h2 _).mono ?_
  rintro e w1 ⟨rfl, rfl⟩
  rw [HE.out]
  go_wp2
  refine bodyPost_ret (v := .tuple #[.agg #[.string s, .string u, .int .i64 f, .bool d], .int .i64 e0]) (by simp [results, Try.results28, go_sem]) rfl ⟨rfl, ?_⟩
  repeat (first | exact Below.refl _ _ | refine Below.alloc ?_ (by first | exact Nat.le_refl _ | (simp; done) | (simp; omega)) _)
set_option maxHeartbeats 1000000 in
theorem refcut_wrong (s u : ByteArray) (f : Int) (d : Bool) (e0 : Int) (n : Int) (h1 : s.size ≤ 1000000000000) (h2 : u.size ≤ 1000000000000) (he : Dk.wrong ⟨s, u, f, d⟩ = e0) (hn : (e0 != 0) = true) (w : World) :
    Calls Try.prog 30 #[.agg #[.string s, .string u, .int .i64 f, .bool d], .int .i64 n] w fun e w' => e = .returned (.tuple #[.agg #[.string s, .string u, .int .i64 f, .bool d], .int .i64 e0]) ∧ Below w.heap.size w w' := by
  have HE := Lib.hid he
  clear he
  go_enter Try.func30, Try.ntmps30
  go_wp2_with fail
  refine (wrong_at s u f d h1 h2 _).mono ?_
  rintro e w1 ⟨rfl, rfl⟩
  rw [HE.out]
  go_wp2
  refine bodyPost_ret (v := .tuple #[.agg #[.string s, .string u, .int .i64 f, .bool d], .int .i64 e0]) (by simp [results, Try.results30, go_sem]) rfl ⟨rfl, ?_⟩
  repeat (first | exact Below.refl _ _ | refine Below.alloc ?_ (by first | exact Nat.le_refl _ | (simp; done) | (simp; omega)) _)
set_option maxHeartbeats 1000000 in
theorem refwrite_full (s u : ByteArray) (t : ByteArray) (f : Int) (d : Bool) (h1 : s.size ≤ 1000000000000) (h2 : u.size ≤ 1000000000000) (he : Dk.wrong ⟨s, u, f, d⟩ = 0) (hn : 1048576 < s.size + u.size + t.size) (h3 : t.size ≤ 1000000000000) (w : World) :
    Calls Try.prog 27 #[.agg #[.string s, .string u, .int .i64 f, .bool d], .string t] w fun e w' => e = .returned (.tuple #[.agg #[.string s, .string u, .int .i64 f, .bool d], .int .i64 6]) ∧ Below w.heap.size w w' := by
  have HE := Lib.hid he
  clear he
  go_enter Try.func27, Try.ntmps27
  go_wp2_with fail
  refine (wrong_at s u f d h1 h2 _).mono ?_
  rintro e w1 ⟨rfl, rfl⟩
  rw [HE.out]
  go_wp2
  refine bodyPost_ret (v := .tuple #[.agg #[.string s, .string u, .int .i64 f, .bool d], .int .i64 6]) (by simp [results, Try.results27, go_sem]) rfl ⟨rfl, ?_⟩
  repeat (first | exact Below.refl _ _ | refine Below.alloc ?_ (by first | exact Nat.le_refl _ | (simp; done) | (simp; omega)) _)
set_option maxHeartbeats 1000000 in
theorem refcut_bad1 (s u : ByteArray) (f : Int) (d : Bool) (n : Int) (h1 : s.size ≤ 1000000000000) (h2 : u.size ≤ 1000000000000) (he : Dk.wrong ⟨s, u, f, d⟩ = 0) (hu : u.size ≠ 0) (w : World) :
    Calls Try.prog 30 #[.agg #[.string s, .string u, .int .i64 f, .bool d], .int .i64 n] w fun e w' => e = .returned (.tuple #[.agg #[.string s, .string u, .int .i64 f, .bool d], .int .i64 1]) ∧ Below w.heap.size w w' := by
  have HE := Lib.hid he
  clear he
  have hul : (u.toList == ([] : List UInt8)) = false := by rw [ByteArray.toList_eq]; have : u.data.toList ≠ [] := fun e => hu (by have := congrArg List.length e; simpa using this); simpa using this
  have hul2 : u.toList.isEmpty = false := by rw [ByteArray.toList_eq]; have : u.data.toList ≠ [] := fun e => hu (by have := congrArg List.length e; simpa using this); simpa using this
  clear hu
  go_enter Try.func30, Try.ntmps30
  go_wp2_with fail
  refine (wrong_at s u f d h1 h2 _).mono ?_
  rintro e w1 ⟨rfl, rfl⟩
  rw [HE.out]
  go_wp2
  refine bodyPost_ret (v := .tuple #[.agg #[.string s, .string u, .int .i64 f, .bool d], .int .i64 1]) (by simp [results, Try.results30, go_sem]) rfl ⟨rfl, ?_⟩
  repeat (first | exact Below.refl _ _ | refine Below.alloc ?_ (by first | exact Nat.le_refl _ | (simp; done) | (simp; omega)) _)
set_option maxHeartbeats 1000000 in
theorem refcut_bad2 (s u : ByteArray) (f : Int) (d : Bool) (n : Int) (h1 : s.size ≤ 1000000000000) (h2 : u.size ≤ 1000000000000) (he : Dk.wrong ⟨s, u, f, d⟩ = 0) (hu : u.size = 0) (hn : n < 0) (w : World) :
    Calls Try.prog 30 #[.agg #[.string s, .string u, .int .i64 f, .bool d], .int .i64 n] w fun e w' => e = .returned (.tuple #[.agg #[.string s, .string u, .int .i64 f, .bool d], .int .i64 1]) ∧ Below w.heap.size w w' := by
  have HE := Lib.hid he
  clear he
  have hul : (u.toList == ([] : List UInt8)) = true := by rw [ByteArray.toList_eq]; have : u.data.toList = [] := List.eq_nil_of_length_eq_zero (by simpa using hu); rw [this]; rfl
  have hul2 : u.toList.isEmpty = true := by rw [ByteArray.toList_eq]; have : u.data.toList = [] := List.eq_nil_of_length_eq_zero (by simpa using hu); rw [this]; rfl
  clear hu
  go_enter Try.func30, Try.ntmps30
  go_wp2_with fail
  refine (wrong_at s u f d h1 h2 _).mono ?_
  rintro e w1 ⟨rfl, rfl⟩
  rw [HE.out]
  go_wp2
  refine bodyPost_ret (v := .tuple #[.agg #[.string s, .string u, .int .i64 f, .bool d], .int .i64 1]) (by simp [results, Try.results30, go_sem]) rfl ⟨rfl, ?_⟩
  repeat (first | exact Below.refl _ _ | refine Below.alloc ?_ (by first | exact Nat.le_refl _ | (simp; done) | (simp; omega)) _)
set_option maxHeartbeats 1000000 in
theorem refcut_bad3 (s u : ByteArray) (f : Int) (d : Bool) (n : Int) (h1 : s.size ≤ 1000000000000) (h2 : u.size ≤ 1000000000000) (he : Dk.wrong ⟨s, u, f, d⟩ = 0) (hu : u.size = 0) (hn0 : 0 ≤ n) (hn : (s.size : Int) < n) (w : World) :
    Calls Try.prog 30 #[.agg #[.string s, .string u, .int .i64 f, .bool d], .int .i64 n] w fun e w' => e = .returned (.tuple #[.agg #[.string s, .string u, .int .i64 f, .bool d], .int .i64 1]) ∧ Below w.heap.size w w' := by
  have HE := Lib.hid he
  clear he
  have hul : (u.toList == ([] : List UInt8)) = true := by rw [ByteArray.toList_eq]; have : u.data.toList = [] := List.eq_nil_of_length_eq_zero (by simpa using hu); rw [this]; rfl
  have hul2 : u.toList.isEmpty = true := by rw [ByteArray.toList_eq]; have : u.data.toList = [] := List.eq_nil_of_length_eq_zero (by simpa using hu); rw [this]; rfl
  clear hu
  go_enter Try.func30, Try.ntmps30
  go_wp2_with fail
  refine (wrong_at s u f d h1 h2 _).mono ?_
  rintro e w1 ⟨rfl, rfl⟩
  rw [HE.out]
  go_wp2
  refine bodyPost_ret (v := .tuple #[.agg #[.string s, .string u, .int .i64 f, .bool d], .int .i64 1]) (by simp [results, Try.results30, go_sem]) rfl ⟨rfl, ?_⟩
  repeat (first | exact Below.refl _ _ | refine Below.alloc ?_ (by first | exact Nat.le_refl _ | (simp; done) | (simp; omega)) _)
end Go.Proofs.Ytgffoepnkpkhaaa
