/- The walks of disk.Write, Sync, Cut, Crash, Bytes: what they return, as plain functions on a disk; nothing that was there is written. -/
import Derived.Test.YtgffoepnkpkhaaaDisk
namespace Go.Proofs.Ytgffoepnkpkhaaa
open Go.RowKit

def Dk.sync (x : Dk) : Dk × Int :=
  if 1048576 < x.s.size + x.u.size ∨ x.f < -1 then (x, 1) else if x.d then (x, 16) else
  if x.f = 0 then (⟨x.s, x.u, 0, true⟩, 16) else (⟨x.s ++ x.u, ByteArray.empty, Dk.less x.f, false⟩, 0)
def Dk.cut (x : Dk) (n : Int) : Dk × Int :=
  if 1048576 < x.s.size + x.u.size ∨ x.f < -1 then (x, 1) else if x.d then (x, 16) else
  if x.u.size ≠ 0 ∨ n < 0 ∨ (x.s.size : Int) < n then (x, 1) else
  if x.f = 0 then (⟨x.s, x.u, 0, true⟩, 16) else (⟨x.s.extract 0 n.toNat, x.u, Dk.less x.f, false⟩, 0)
def Dk.crash (x : Dk) (n : Int) : Dk × Int :=
  if 1048576 < x.s.size + x.u.size ∨ x.f < -1 then (x, 1) else (⟨x.s ++ x.u.extract 0 (min n.toNat x.u.size), ByteArray.empty, -1, false⟩, 0)

set_option maxHeartbeats 1000000 in
theorem write_wrong (s u t : ByteArray) (f : Int) (d : Bool) (e0 : Int) (h1 : s.size ≤ 1000000000000) (h2 : u.size ≤ 1000000000000) (he : Dk.wrong ⟨s, u, f, d⟩ = e0) (hn : (e0 != 0) = true) (w : World) :
    Calls Try.prog 25 #[.agg #[.string s, .string u, .int .i64 f, .bool d], .string t] w fun e w' => e = .returned (.tuple #[.agg #[.string s, .string u, .int .i64 f, .bool d], .int .i64 e0]) ∧ Below w.heap.size w w' := by
  have HE := Lib.hid he
  clear he
  go_enter Try.func25, Try.ntmps25
  go_wp2_with fail
  refine (ready_at s u f d h1 h2 _).mono ?_
  rintro e w1 ⟨rfl, rfl⟩
  rw [HE.out]
  go_wp2
  refine bodyPost_ret (v := .tuple #[.agg #[.string s, .string u, .int .i64 f, .bool d], .int .i64 e0]) (by simp [results, Try.results25, go_sem]) rfl ⟨rfl, ?_⟩
  exact (((((Below.refl _ _).alloc (Nat.le_refl _) _).alloc (by simp) _).alloc (by simp; omega) _).alloc (by simp; omega) _).alloc (by simp; omega) _
set_option maxHeartbeats 1000000 in
theorem write_full (s u t : ByteArray) (f : Int) (d : Bool) (h1 : s.size ≤ 1000000000000) (h2 : u.size ≤ 1000000000000) (he : Dk.wrong ⟨s, u, f, d⟩ = 0) (hn : 1048576 < s.size + u.size + t.size) (h3 : t.size ≤ 1000000000000) (w : World) :
    Calls Try.prog 25 #[.agg #[.string s, .string u, .int .i64 f, .bool d], .string t] w fun e w' => e = .returned (.tuple #[.agg #[.string s, .string u, .int .i64 f, .bool d], .int .i64 6]) ∧ Below w.heap.size w w' := by
  have HE := Lib.hid he
  clear he
  go_enter Try.func25, Try.ntmps25
  go_wp2_with fail
  refine (ready_at s u f d h1 h2 _).mono ?_
  rintro e w1 ⟨rfl, rfl⟩
  rw [HE.out]
  go_wp2
  refine bodyPost_ret (v := .tuple #[.agg #[.string s, .string u, .int .i64 f, .bool d], .int .i64 6]) (by simp [results, Try.results25, go_sem]) rfl ⟨rfl, ?_⟩
  exact (((((Below.refl _ _).alloc (Nat.le_refl _) _).alloc (by simp) _).alloc (by simp; omega) _).alloc (by simp; omega) _).alloc (by simp; omega) _
set_option maxHeartbeats 1000000 in
theorem write_lost (s u t : ByteArray) (d : Bool) (h1 : s.size ≤ 1000000000000) (h2 : u.size ≤ 1000000000000) (he : Dk.wrong ⟨s, u, 0, d⟩ = 0) (hn : s.size + u.size + t.size ≤ 1048576) (w : World) :
    Calls Try.prog 25 #[.agg #[.string s, .string u, .int .i64 0, .bool d], .string t] w fun e w' => e = .returned (.tuple #[.agg #[.string s, .string (u ++ t), .int .i64 0, .bool true], .int .i64 16]) ∧ Below w.heap.size w w' := by
  have HE := Lib.hid he
  clear he
  go_enter Try.func25, Try.ntmps25
  go_wp2_with fail
  refine (ready_at s u 0 d h1 h2 _).mono ?_
  rintro e w1 ⟨rfl, rfl⟩
  rw [HE.out]
  go_wp2_with fail
  refine (operate_put_lost s u d t _ _ (by omega) ?_ ?_).mono ?_
  · simp
  · go_simp
  rintro e w1 ⟨rfl, rfl⟩
  go_wp2
  refine bodyPost_ret (v := .tuple #[.agg #[.string s, .string (u ++ t), .int .i64 0, .bool true], .int .i64 16]) (by simp [results, Try.results25, go_sem]) rfl ⟨rfl, ?_⟩
  exact (((((((((Below.refl _ _).alloc (Nat.le_refl _) _).alloc (by simp) _).alloc (by simp; omega) _).alloc (by simp; omega) _).alloc (by simp; omega) _).alloc (by simp; omega) _).alloc (by simp; omega) _).alloc (by simp; omega) _).alloc (by simp; omega) _
set_option maxHeartbeats 1000000 in
theorem write_more (s u : ByteArray) (t : ByteArray) (f : Int) (d : Bool) (h1 : s.size ≤ 1000000000000) (h2 : u.size ≤ 1000000000000) (he : Dk.wrong ⟨s, u, f, d⟩ = 0) (hf : 0 < f) (hf2 : f ≤ 9223372036854775807) (hn : s.size + u.size + t.size ≤ 1048576) (w : World) :
    Calls Try.prog 25 #[.agg #[.string s, .string u, .int .i64 f, .bool d], .string t] w fun e w' => e = .returned (.tuple #[.agg #[.string s, .string (u ++ t), .int .i64 (f - 1), .bool d], .int .i64 0]) ∧ Below w.heap.size w w' := by
  have HE := Lib.hid he
  clear he
  go_enter Try.func25, Try.ntmps25
  go_wp2_with fail
  refine (ready_at s u f d h1 h2 _).mono ?_
  rintro e w1 ⟨rfl, rfl⟩
  rw [HE.out]
  go_wp2_with fail
  refine (operate_put_more s u f d t _ _ hf hf2 (by omega) ?_ ?_).mono ?_
  · simp
  · go_simp
  rintro e w1 ⟨rfl, rfl⟩
  go_wp2
  refine bodyPost_ret (v := .tuple #[.agg #[.string s, .string (u ++ t), .int .i64 (f - 1), .bool d], .int .i64 0]) (by simp [results, Try.results25, go_sem]) rfl ⟨rfl, ?_⟩
  repeat (first | exact Below.refl _ _ | refine Below.alloc ?_ (by first | exact Nat.le_refl _ | (simp; done) | (simp; omega)) _)
set_option maxHeartbeats 1000000 in
theorem sync_more (s u : ByteArray) (f : Int) (d : Bool) (h1 : s.size ≤ 1000000000000) (h2 : u.size ≤ 1000000000000) (he : Dk.wrong ⟨s, u, f, d⟩ = 0) (hf : 0 < f) (hf2 : f ≤ 9223372036854775807) (w : World) :
    Calls Try.prog 26 #[.agg #[.string s, .string u, .int .i64 f, .bool d]] w fun e w' => e = .returned (.tuple #[.agg #[.string (s ++ u), .string ByteArray.empty, .int .i64 (f - 1), .bool d], .int .i64 0]) ∧ Below w.heap.size w w' := by
  have HE := Lib.hid he
  clear he
  go_enter Try.func26, Try.ntmps26
  go_wp2_with fail
  refine (ready_at s u f d h1 h2 _).mono ?_
  rintro e w1 ⟨rfl, rfl⟩
  rw [HE.out]
  go_wp2_with fail
  refine (operate_sure_more s u f d _ hf hf2 (by omega)).mono ?_
  rintro e w1 ⟨rfl, rfl⟩
  go_wp2
  refine bodyPost_ret (v := .tuple #[.agg #[.string (s ++ u), .string ByteArray.empty, .int .i64 (f - 1), .bool d], .int .i64 0]) (by simp [results, Try.results26, go_sem]) rfl ⟨rfl, ?_⟩
  repeat (first | exact Below.refl _ _ | refine Below.alloc ?_ (by first | exact Nat.le_refl _ | (simp; done) | (simp; omega)) _)
set_option maxHeartbeats 1000000 in
theorem cut_more (s u : ByteArray) (f : Int) (d : Bool) (n : Nat) (h1 : s.size ≤ 1000000000000) (h2 : u.size ≤ 1000000000000) (he : Dk.wrong ⟨s, u, f, d⟩ = 0) (hf : 0 < f) (hf2 : f ≤ 9223372036854775807) (hu : u.size = 0) (hn : n ≤ s.size) (w : World) :
    Calls Try.prog 29 #[.agg #[.string s, .string u, .int .i64 f, .bool d], .int .i64 n] w fun e w' => e = .returned (.tuple #[.agg #[.string (s.extract 0 n), .string u, .int .i64 (f - 1), .bool d], .int .i64 0]) ∧ Below w.heap.size w w' := by
  have HE := Lib.hid he
  clear he
  have hul : (u.toList == ([] : List UInt8)) = true := by rw [ByteArray.toList_eq]; have : u.data.toList = [] := List.eq_nil_of_length_eq_zero (by simpa using hu); rw [this]; rfl
  have hul2 : u.toList.isEmpty = true := by rw [ByteArray.toList_eq]; have : u.data.toList = [] := List.eq_nil_of_length_eq_zero (by simpa using hu); rw [this]; rfl
  clear hu
  go_enter Try.func29, Try.ntmps29
  go_wp2_with fail
  refine (ready_at s u f d h1 h2 _).mono ?_
  rintro e w1 ⟨rfl, rfl⟩
  rw [HE.out]
  go_wp2_with fail
  refine (operate_cut_more s u f d n _ _ hf hf2 h1 hn ?_ ?_).mono ?_
  · simp
  · go_simp
  rintro e w1 ⟨rfl, rfl⟩
  go_wp2
  refine bodyPost_ret (v := .tuple #[.agg #[.string (s.extract 0 n), .string u, .int .i64 (f - 1), .bool d], .int .i64 0]) (by simp [results, Try.results29, go_sem]) rfl ⟨rfl, ?_⟩
  repeat (first | exact Below.refl _ _ | refine Below.alloc ?_ (by first | exact Nat.le_refl _ | (simp; done) | (simp; omega)) _)
set_option maxHeartbeats 1000000 in
theorem write_never (s u : ByteArray) (t : ByteArray) (f : Int) (d : Bool) (h1 : s.size ≤ 1000000000000) (h2 : u.size ≤ 1000000000000) (he : Dk.wrong ⟨s, u, f, d⟩ = 0) (hf : f < 0) (hn : s.size + u.size + t.size ≤ 1048576) (w : World) :
    Calls Try.prog 25 #[.agg #[.string s, .string u, .int .i64 f, .bool d], .string t] w fun e w' => e = .returned (.tuple #[.agg #[.string s, .string (u ++ t), .int .i64 f, .bool d], .int .i64 0]) ∧ Below w.heap.size w w' := by
  have HE := Lib.hid he
  clear he
  go_enter Try.func25, Try.ntmps25
  go_wp2_with fail
  refine (ready_at s u f d h1 h2 _).mono ?_
  rintro e w1 ⟨rfl, rfl⟩
  rw [HE.out]
  go_wp2_with fail
  refine (operate_put_never s u f d t _ _ hf (by omega) ?_ ?_).mono ?_
  · simp
  · go_simp
  rintro e w1 ⟨rfl, rfl⟩
  go_wp2
  refine bodyPost_ret (v := .tuple #[.agg #[.string s, .string (u ++ t), .int .i64 f, .bool d], .int .i64 0]) (by simp [results, Try.results25, go_sem]) rfl ⟨rfl, ?_⟩
  repeat (first | exact Below.refl _ _ | refine Below.alloc ?_ (by first | exact Nat.le_refl _ | (simp; done) | (simp; omega)) _)
set_option maxHeartbeats 1000000 in
theorem sync_never (s u : ByteArray) (f : Int) (d : Bool) (h1 : s.size ≤ 1000000000000) (h2 : u.size ≤ 1000000000000) (he : Dk.wrong ⟨s, u, f, d⟩ = 0) (hf : f < 0) (w : World) :
    Calls Try.prog 26 #[.agg #[.string s, .string u, .int .i64 f, .bool d]] w fun e w' => e = .returned (.tuple #[.agg #[.string (s ++ u), .string ByteArray.empty, .int .i64 f, .bool d], .int .i64 0]) ∧ Below w.heap.size w w' := by
  have HE := Lib.hid he
  clear he
  go_enter Try.func26, Try.ntmps26
  go_wp2_with fail
  refine (ready_at s u f d h1 h2 _).mono ?_
  rintro e w1 ⟨rfl, rfl⟩
  rw [HE.out]
  go_wp2_with fail
  refine (operate_sure_never s u f d _ hf (by omega)).mono ?_
  rintro e w1 ⟨rfl, rfl⟩
  go_wp2
  refine bodyPost_ret (v := .tuple #[.agg #[.string (s ++ u), .string ByteArray.empty, .int .i64 f, .bool d], .int .i64 0]) (by simp [results, Try.results26, go_sem]) rfl ⟨rfl, ?_⟩
  repeat (first | exact Below.refl _ _ | refine Below.alloc ?_ (by first | exact Nat.le_refl _ | (simp; done) | (simp; omega)) _)
set_option maxHeartbeats 1000000 in
theorem cut_never (s u : ByteArray) (f : Int) (d : Bool) (n : Nat) (h1 : s.size ≤ 1000000000000) (h2 : u.size ≤ 1000000000000) (he : Dk.wrong ⟨s, u, f, d⟩ = 0) (hf : f < 0) (hu : u.size = 0) (hn : n ≤ s.size) (w : World) :
    Calls Try.prog 29 #[.agg #[.string s, .string u, .int .i64 f, .bool d], .int .i64 n] w fun e w' => e = .returned (.tuple #[.agg #[.string (s.extract 0 n), .string u, .int .i64 f, .bool d], .int .i64 0]) ∧ Below w.heap.size w w' := by
  have HE := Lib.hid he
  clear he
  have hul : (u.toList == ([] : List UInt8)) = true := by rw [ByteArray.toList_eq]; have : u.data.toList = [] := List.eq_nil_of_length_eq_zero (by simpa using hu); rw [this]; rfl
  have hul2 : u.toList.isEmpty = true := by rw [ByteArray.toList_eq]; have : u.data.toList = [] := List.eq_nil_of_length_eq_zero (by simpa using hu); rw [this]; rfl
  clear hu
  go_enter Try.func29, Try.ntmps29
  go_wp2_with fail
  refine (ready_at s u f d h1 h2 _).mono ?_
  rintro e w1 ⟨rfl, rfl⟩
  rw [HE.out]
  go_wp2_with fail
  refine (operate_cut_never s u f d n _ _ hf h1 hn ?_ ?_).mono ?_
  · simp
  · go_simp
  rintro e w1 ⟨rfl, rfl⟩
  go_wp2
  refine bodyPost_ret (v := .tuple #[.agg #[.string (s.extract 0 n), .string u, .int .i64 f, .bool d], .int .i64 0]) (by simp [results, Try.results29, go_sem]) rfl ⟨rfl, ?_⟩
  repeat (first | exact Below.refl _ _ | refine Below.alloc ?_ (by first | exact Nat.le_refl _ | (simp; done) | (simp; omega)) _)
set_option maxHeartbeats 1000000 in
theorem sync_lost (s u : ByteArray) (d : Bool) (h1 : s.size ≤ 1000000000000) (h2 : u.size ≤ 1000000000000) (he : Dk.wrong ⟨s, u, 0, d⟩ = 0)  (w : World) :
    Calls Try.prog 26 #[.agg #[.string s, .string u, .int .i64 0, .bool d]] w fun e w' => e = .returned (.tuple #[.agg #[.string s, .string u, .int .i64 0, .bool true], .int .i64 16]) ∧ Below w.heap.size w w' := by
  have HE := Lib.hid he
  clear he
  go_enter Try.func26, Try.ntmps26
  go_wp2_with fail
  refine (ready_at s u 0 d h1 h2 _).mono ?_
  rintro e w1 ⟨rfl, rfl⟩
  rw [HE.out]
  go_wp2_with fail
  refine (operate_sure_lost s u d _ (by omega)).mono ?_
  rintro e w1 ⟨rfl, rfl⟩
  go_wp2
  refine bodyPost_ret (v := .tuple #[.agg #[.string s, .string u, .int .i64 0, .bool true], .int .i64 16]) (by simp [results, Try.results26, go_sem]) rfl ⟨rfl, ?_⟩
  repeat (first | exact Below.refl _ _ | refine Below.alloc ?_ (by first | exact Nat.le_refl _ | (simp; done) | (simp; omega)) _)
set_option maxHeartbeats 1000000 in
theorem cut_lost (s u : ByteArray) (d : Bool) (n : Nat) (h1 : s.size ≤ 1000000000000) (h2 : u.size ≤ 1000000000000) (he : Dk.wrong ⟨s, u, 0, d⟩ = 0) (hu : u.size = 0) (hn : n ≤ s.size) (w : World) :
    Calls Try.prog 29 #[.agg #[.string s, .string u, .int .i64 0, .bool d], .int .i64 n] w fun e w' => e = .returned (.tuple #[.agg #[.string s, .string u, .int .i64 0, .bool true], .int .i64 16]) ∧ Below w.heap.size w w' := by
  have HE := Lib.hid he
  clear he
  have hul : (u.toList == ([] : List UInt8)) = true := by rw [ByteArray.toList_eq]; have : u.data.toList = [] := List.eq_nil_of_length_eq_zero (by simpa using hu); rw [this]; rfl
  have hul2 : u.toList.isEmpty = true := by rw [ByteArray.toList_eq]; have : u.data.toList = [] := List.eq_nil_of_length_eq_zero (by simpa using hu); rw [this]; rfl
  clear hu
  go_enter Try.func29, Try.ntmps29
  go_wp2_with fail
  refine (ready_at s u 0 d h1 h2 _).mono ?_
  rintro e w1 ⟨rfl, rfl⟩
  rw [HE.out]
  go_wp2_with fail
  refine (operate_cut_lost s u d n _ _ h1 hn ?_ ?_).mono ?_
  · simp
  · go_simp
  rintro e w1 ⟨rfl, rfl⟩
  go_wp2
  refine bodyPost_ret (v := .tuple #[.agg #[.string s, .string u, .int .i64 0, .bool true], .int .i64 16]) (by simp [results, Try.results29, go_sem]) rfl ⟨rfl, ?_⟩
  repeat (first | exact Below.refl _ _ | refine Below.alloc ?_ (by first | exact Nat.le_refl _ | (simp; done) | (simp; omega)) _)
set_option maxHeartbeats 1000000 in
theorem sync_wrong (s u : ByteArray) (f : Int) (d : Bool) (e0 : Int)  (h1 : s.size ≤ 1000000000000) (h2 : u.size ≤ 1000000000000) (he : Dk.wrong ⟨s, u, f, d⟩ = e0) (hn : (e0 != 0) = true) (w : World) :
    Calls Try.prog 26 #[.agg #[.string s, .string u, .int .i64 f, .bool d]] w fun e w' => e = .returned (.tuple #[.agg #[.string s, .string u, .int .i64 f, .bool d], .int .i64 e0]) ∧ Below w.heap.size w w' := by
  have HE := Lib.hid he
  clear he
  go_enter Try.func26, Try.ntmps26
  go_wp2_with fail
  refine (ready_at s u f d h1 h2 _).mono ?_
  rintro e w1 ⟨rfl, rfl⟩
  rw [HE.out]
  go_wp2
  refine bodyPost_ret (v := .tuple #[.agg #[.string s, .string u, .int .i64 f, .bool d], .int .i64 e0]) (by simp [results, Try.results26, go_sem]) rfl ⟨rfl, ?_⟩
  repeat (first | exact Below.refl _ _ | refine Below.alloc ?_ (by first | exact Nat.le_refl _ | (simp; done) | (simp; omega)) _)
set_option maxHeartbeats 1000000 in
theorem cut_wrong (s u : ByteArray) (f : Int) (d : Bool) (e0 : Int) (n : Int) (h1 : s.size ≤ 1000000000000) (h2 : u.size ≤ 1000000000000) (he : Dk.wrong ⟨s, u, f, d⟩ = e0) (hn : (e0 != 0) = true) (w : World) :
    Calls Try.prog 29 #[.agg #[.string s, .string u, .int .i64 f, .bool d], .int .i64 n] w fun e w' => e = .returned (.tuple #[.agg #[.string s, .string u, .int .i64 f, .bool d], .int .i64 e0]) ∧ Below w.heap.size w w' := by
  have HE := Lib.hid he
  clear he
  go_enter Try.func29, Try.ntmps29
  go_wp2_with fail
  refine (ready_at s u f d h1 h2 _).mono ?_
  rintro e w1 ⟨rfl, rfl⟩
  rw [HE.out]
  go_wp2
  refine bodyPost_ret (v := .tuple #[.agg #[.string s, .string u, .int .i64 f, .bool d], .int .i64 e0]) (by simp [results, Try.results29, go_sem]) rfl ⟨rfl, ?_⟩
  repeat (first | exact Below.refl _ _ | refine Below.alloc ?_ (by first | exact Nat.le_refl _ | (simp; done) | (simp; omega)) _)
set_option maxHeartbeats 1000000 in
theorem cut_bad1 (s u : ByteArray) (f : Int) (d : Bool) (n : Int) (h1 : s.size ≤ 1000000000000) (h2 : u.size ≤ 1000000000000) (he : Dk.wrong ⟨s, u, f, d⟩ = 0) (hu : u.size ≠ 0) (w : World) :
    Calls Try.prog 29 #[.agg #[.string s, .string u, .int .i64 f, .bool d], .int .i64 n] w fun e w' => e = .returned (.tuple #[.agg #[.string s, .string u, .int .i64 f, .bool d], .int .i64 1]) ∧ Below w.heap.size w w' := by
  have HE := Lib.hid he
  clear he
  have hul : (u.toList == ([] : List UInt8)) = false := by rw [ByteArray.toList_eq]; have : u.data.toList ≠ [] := fun e => hu (by have := congrArg List.length e; simpa using this); simpa using this
  have hul2 : u.toList.isEmpty = false := by rw [ByteArray.toList_eq]; have : u.data.toList ≠ [] := fun e => hu (by have := congrArg List.length e; simpa using this); simpa using this
  clear hu
  go_enter Try.func29, Try.ntmps29
  go_wp2_with fail
  refine (ready_at s u f d h1 h2 _).mono ?_
  rintro e w1 ⟨rfl, rfl⟩
  rw [HE.out]
  go_wp2
  refine bodyPost_ret (v := .tuple #[.agg #[.string s, .string u, .int .i64 f, .bool d], .int .i64 1]) (by simp [results, Try.results29, go_sem]) rfl ⟨rfl, ?_⟩
  repeat (first | exact Below.refl _ _ | refine Below.alloc ?_ (by first | exact Nat.le_refl _ | (simp; done) | (simp; omega)) _)
set_option maxHeartbeats 1000000 in
theorem cut_bad2 (s u : ByteArray) (f : Int) (d : Bool) (n : Int) (h1 : s.size ≤ 1000000000000) (h2 : u.size ≤ 1000000000000) (he : Dk.wrong ⟨s, u, f, d⟩ = 0) (hu : u.size = 0) (hn : n < 0) (w : World) :
    Calls Try.prog 29 #[.agg #[.string s, .string u, .int .i64 f, .bool d], .int .i64 n] w fun e w' => e = .returned (.tuple #[.agg #[.string s, .string u, .int .i64 f, .bool d], .int .i64 1]) ∧ Below w.heap.size w w' := by
  have HE := Lib.hid he
  clear he
  have hul : (u.toList == ([] : List UInt8)) = true := by rw [ByteArray.toList_eq]; have : u.data.toList = [] := List.eq_nil_of_length_eq_zero (by simpa using hu); rw [this]; rfl
  have hul2 : u.toList.isEmpty = true := by rw [ByteArray.toList_eq]; have : u.data.toList = [] := List.eq_nil_of_length_eq_zero (by simpa using hu); rw [this]; rfl
  clear hu
  go_enter Try.func29, Try.ntmps29
  go_wp2_with fail
  refine (ready_at s u f d h1 h2 _).mono ?_
  rintro e w1 ⟨rfl, rfl⟩
  rw [HE.out]
  go_wp2
  refine bodyPost_ret (v := .tuple #[.agg #[.string s, .string u, .int .i64 f, .bool d], .int .i64 1]) (by simp [results, Try.results29, go_sem]) rfl ⟨rfl, ?_⟩
  repeat (first | exact Below.refl _ _ | refine Below.alloc ?_ (by first | exact Nat.le_refl _ | (simp; done) | (simp; omega)) _)
set_option maxHeartbeats 1000000 in
theorem cut_bad3 (s u : ByteArray) (f : Int) (d : Bool) (n : Int) (h1 : s.size ≤ 1000000000000) (h2 : u.size ≤ 1000000000000) (he : Dk.wrong ⟨s, u, f, d⟩ = 0) (hu : u.size = 0) (hn0 : 0 ≤ n) (hn : (s.size : Int) < n) (w : World) :
    Calls Try.prog 29 #[.agg #[.string s, .string u, .int .i64 f, .bool d], .int .i64 n] w fun e w' => e = .returned (.tuple #[.agg #[.string s, .string u, .int .i64 f, .bool d], .int .i64 1]) ∧ Below w.heap.size w w' := by
  have HE := Lib.hid he
  clear he
  have hul : (u.toList == ([] : List UInt8)) = true := by rw [ByteArray.toList_eq]; have : u.data.toList = [] := List.eq_nil_of_length_eq_zero (by simpa using hu); rw [this]; rfl
  have hul2 : u.toList.isEmpty = true := by rw [ByteArray.toList_eq]; have : u.data.toList = [] := List.eq_nil_of_length_eq_zero (by simpa using hu); rw [this]; rfl
  clear hu
  go_enter Try.func29, Try.ntmps29
  go_wp2_with fail
  refine (ready_at s u f d h1 h2 _).mono ?_
  rintro e w1 ⟨rfl, rfl⟩
  rw [HE.out]
  go_wp2
  refine bodyPost_ret (v := .tuple #[.agg #[.string s, .string u, .int .i64 f, .bool d], .int .i64 1]) (by simp [results, Try.results29, go_sem]) rfl ⟨rfl, ?_⟩
  repeat (first | exact Below.refl _ _ | refine Below.alloc ?_ (by first | exact Nat.le_refl _ | (simp; done) | (simp; omega)) _)
set_option maxHeartbeats 1000000 in
theorem bytes_at (s u : ByteArray) (f : Int) (d : Bool) (h1 : s.size ≤ 1000000000000) (h2 : u.size ≤ 1000000000000) (w : World) :
    Calls Try.prog 23 #[.agg #[.string s, .string u, .int .i64 f, .bool d]] w fun e w' => e = .returned (.string (s ++ u)) ∧ w' = w.alloc (.cells #[.string s, .string u, .int .i64 f, .bool d] 32) := by
  go_enter Try.func23, Try.ntmps23
  go_wp2
  go_ret
  exact ⟨rfl, rfl⟩
set_option maxHeartbeats 1000000 in
theorem crash_wrong (s u : ByteArray) (f : Int) (d : Bool) (n : Int) (h1 : s.size ≤ 1000000000000) (h2 : u.size ≤ 1000000000000) (he : Dk.arg ⟨s, u, f, d⟩ = 1) (w : World) :
    Calls Try.prog 21 #[.agg #[.string s, .string u, .int .i64 f, .bool d], .int .i64 n] w fun e w' => e = .returned (.tuple #[.agg #[.string s, .string u, .int .i64 f, .bool d], .int .i64 1]) ∧ Below w.heap.size w w' := by
  have HE := Lib.hid he
  clear he
  go_enter Try.func21, Try.ntmps21
  go_wp2_with fail
  refine (check_at s u f d h1 h2 _).mono ?_
  rintro e w1 ⟨rfl, rfl⟩
  rw [HE.out]
  go_wp2
  refine bodyPost_ret (v := .tuple #[.agg #[.string s, .string u, .int .i64 f, .bool d], .int .i64 1]) (by simp [results, Try.results21, go_sem]) rfl ⟨rfl, ?_⟩
  repeat (first | exact Below.refl _ _ | refine Below.alloc ?_ (by first | exact Nat.le_refl _ | (simp; done) | (simp; omega)) _)
end Go.Proofs.Ytgffoepnkpkhaaa
