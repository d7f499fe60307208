/- The walks of package disk and of its reference: what each operation returns, as plain functions on a disk; nothing that was there is written. -/
import Derived.Test.YtgffoepnkpkhaaaProg
import Derived.WalkKit
import Derived.WalkSpells
import Derived.Outline
import Derived.Lib.Hide
import Derived.RegionTactic
import Derived.Deep.QuietTactic
import Derived.BigQuiet
import Derived.Deep.RegionHeld3
namespace Go.Proofs.Ytgffoepnkpkhaaa
open Go.RowKit

/-- a disk -/
structure Dk where
  s : ByteArray
  u : ByteArray
  f : Int
  d : Bool
@[reducible] def dval (x : Dk) : Value := .agg #[.string x.s, .string x.u, .int .i64 x.f, .bool x.d]
structure Dk.Ok (x : Dk) : Prop where
  s : x.s.size ≤ 1000000000000
  u : x.u.size ≤ 1000000000000
  lo : -9223372036854775808 ≤ x.f
  hi : x.f ≤ 9223372036854775807
def Dk.arg (x : Dk) : Int := if 1048576 < x.s.size + x.u.size ∨ x.f < -1 then 1 else 0
def Dk.wrong (x : Dk) : Int := if 1048576 < x.s.size + x.u.size ∨ x.f < -1 then 1 else if x.d then 16 else 0
def Dk.less (f : Int) : Int := if 0 < f then f - 1 else f
def Dk.write (x : Dk) (t : ByteArray) : Dk × Int :=
  if 1048576 < x.s.size + x.u.size ∨ x.f < -1 then (x, 1) else if x.d then (x, 16) else
  if 1048576 < x.s.size + x.u.size + t.size then (x, 6) else
  if x.f = 0 then (⟨x.s, x.u ++ t, 0, true⟩, 16) else (⟨x.s, x.u ++ t, Dk.less x.f, false⟩, 0)

set_option maxHeartbeats 400000 in
theorem check_at (s u : ByteArray) (f : Int) (d : Bool) (h1 : s.size ≤ 1000000000000) (h2 : u.size ≤ 1000000000000) (w : World) :
    Calls Try.prog 24 #[.agg #[.string s, .string u, .int .i64 f, .bool d]] w fun e w' => e = .returned (.int .i64 (Dk.arg ⟨s, u, f, d⟩)) ∧ w' = w.alloc (.cells #[.string s, .string u, .int .i64 f, .bool d] 32) := by
  by_cases hc : 1048576 < s.size + u.size ∨ f < -1
  · have e : Dk.arg ⟨s, u, f, d⟩ = 1 := by simp [Dk.arg, hc]
    rw [e]
    clear e
    have hc' : 1048576 < s.size ∨ (s.size ≤ 1048576 ∧ 1048576 < s.size + u.size) ∨ (s.size ≤ 1048576 ∧ s.size + u.size ≤ 1048576 ∧ f < -1) := by omega
    clear hc
    rcases hc' with hc | ⟨hc, hd⟩ | ⟨hc, hd, hf⟩
    all_goals
      go_enter Try.func24, Try.ntmps24
      go_wp2
      go_ret
      exact ⟨rfl, rfl⟩
  · have e : Dk.arg ⟨s, u, f, d⟩ = 0 := by simp [Dk.arg, hc]
    rw [e]
    clear e
    have hc1 : s.size + u.size ≤ 1048576 := by omega
    have hc2 : -1 ≤ f := by omega
    clear hc
    go_enter Try.func24, Try.ntmps24
    go_wp2
    go_ret
    exact ⟨rfl, rfl⟩
set_option maxHeartbeats 400000 in
theorem ready_at (s u : ByteArray) (f : Int) (d : Bool) (h1 : s.size ≤ 1000000000000) (h2 : u.size ≤ 1000000000000) (w : World) :
    Calls Try.prog 48 #[.agg #[.string s, .string u, .int .i64 f, .bool d]] w fun e w' => e = .returned (.int .i64 (Dk.wrong ⟨s, u, f, d⟩)) ∧ w' = (w.alloc (.cells #[.string s, .string u, .int .i64 f, .bool d] 32)).alloc (.cells #[.string s, .string u, .int .i64 f, .bool d] 32) := by
  by_cases hc : 1048576 < s.size + u.size ∨ f < -1
  · have e : Dk.wrong ⟨s, u, f, d⟩ = 1 := by simp [Dk.wrong, hc]
    have e1 : Dk.arg ⟨s, u, f, d⟩ = 1 := by simp [Dk.arg, hc]
    rw [e]
    have E1 := Lib.hid e1
    clear e e1 hc
    go_enter Try.func48, Try.ntmps48
    go_wp2_with fail
    refine (check_at s u f d h1 h2 _).mono ?_
    rintro e w1 ⟨rfl, rfl⟩
    rw [E1.out]
    go_wp2
    go_ret
    exact ⟨rfl, rfl⟩
  · have e1 : Dk.arg ⟨s, u, f, d⟩ = 0 := by simp [Dk.arg, hc]
    have E1 := Lib.hid e1
    cases d
    · have e : Dk.wrong ⟨s, u, f, false⟩ = 0 := by simp [Dk.wrong, hc]
      rw [e]
      clear e e1 hc
      go_enter Try.func48, Try.ntmps48
      go_wp2_with fail
      refine (check_at s u f false h1 h2 _).mono ?_
      rintro e w1 ⟨rfl, rfl⟩
      rw [E1.out]
      go_wp2
      go_ret
      exact ⟨rfl, rfl⟩
    · have e : Dk.wrong ⟨s, u, f, true⟩ = 16 := by simp [Dk.wrong, hc]
      rw [e]
      clear e e1 hc
      go_enter Try.func48, Try.ntmps48
      go_wp2_with fail
      refine (check_at s u f true h1 h2 _).mono ?_
      rintro e w1 ⟨rfl, rfl⟩
      rw [E1.out]
      go_wp2
      go_ret
      exact ⟨rfl, rfl⟩
theorem bcell9 {W w1 : World} (hb : Below W.heap.size W w1) : (∀ b o, b < W.heap.size → w1.cell? ⟨b, o, none⟩ = W.cell? ⟨b, o, none⟩) ∧ (∀ b o, b < W.heap.size → w1.frozen? ⟨b, o, none⟩ = W.frozen? ⟨b, o, none⟩) :=
  ⟨fun b o h => hb.cell (p := ⟨b, o, none⟩) h, fun b o h => hb.frozen (p := ⟨b, o, none⟩) h⟩
set_option maxHeartbeats 400000 in
theorem put_any (s u t : ByteArray) (f : Int) (d : Bool) (b : Nat) (w : World) (h : u.size + t.size ≤ 1000000000000) (hb : b < w.heap.size) (hc : w.cell? ⟨b, 0, none⟩ = some (.string t)) :
    Calls Try.prog 49 #[.agg #[.string s, .string u, .int .i64 f, .bool d], .pointer (some ⟨b, 0, none⟩)] w fun e w' => e = .returned (.agg #[.string s, .string (u ++ t), .int .i64 f, .bool d]) ∧ w' = (w.alloc (.cells #[.string s, .string (u ++ t), .int .i64 f, .bool d] 32)).alloc (.cells #[.string s, .string (u ++ t), .int .i64 f, .bool d] 32) := by
  go_enter Try.func49, Try.ntmps49
  go_wp2
  exact bodyPost_ret (v := .agg #[.string s, .string (u ++ t), .int .i64 f, .bool d]) (by simp [results, Try.results49, go_sem]) rfl ⟨rfl, rfl⟩
set_option maxHeartbeats 400000 in
theorem sure_any (s u : ByteArray) (f : Int) (d : Bool) (w : World) (h : s.size + u.size ≤ 2000000000000) :
    Calls Try.prog 51 #[.agg #[.string s, .string u, .int .i64 f, .bool d]] w fun e w' => e = .returned (.agg #[.string (s ++ u), .string ByteArray.empty, .int .i64 f, .bool d]) ∧ w' = (w.alloc (.cells #[.string (s ++ u), .string ByteArray.empty, .int .i64 f, .bool d] 32)).alloc (.cells #[.string (s ++ u), .string ByteArray.empty, .int .i64 f, .bool d] 32) := by
  go_enter Try.func51, Try.ntmps51
  go_wp2
  exact bodyPost_ret (v := .agg #[.string (s ++ u), .string ByteArray.empty, .int .i64 f, .bool d]) (by simp [results, Try.results51, go_sem]; rfl) rfl ⟨rfl, rfl⟩
set_option maxHeartbeats 400000 in
theorem nothing_any (s u : ByteArray) (f : Int) (d : Bool) (w : World) :
    Calls Try.prog 52 #[.agg #[.string s, .string u, .int .i64 f, .bool d]] w fun e w' => e = .returned (.agg #[.string s, .string u, .int .i64 f, .bool d]) ∧ w' = (w.alloc (.cells #[.string s, .string u, .int .i64 f, .bool d] 32)).alloc (.cells #[.string s, .string u, .int .i64 f, .bool d] 32) := by
  go_enter Try.func52, Try.ntmps52
  go_wp2
  exact bodyPost_ret (v := .agg #[.string s, .string u, .int .i64 f, .bool d]) (by simp [results, Try.results52, go_sem]) rfl ⟨rfl, rfl⟩
set_option maxHeartbeats 400000 in
theorem cut_any (s u : ByteArray) (f : Int) (d : Bool) (n b : Nat) (w : World) (hs : s.size ≤ 1000000000000) (hn : n ≤ s.size) (hb : b < w.heap.size) (hc : w.cell? ⟨b, 0, none⟩ = some (.int .i64 n)) :
    Calls Try.prog 54 #[.agg #[.string s, .string u, .int .i64 f, .bool d], .pointer (some ⟨b, 0, none⟩)] w fun e w' => e = .returned (.agg #[.string (s.extract 0 n), .string u, .int .i64 f, .bool d]) ∧ w' = (w.alloc (.cells #[.string (s.extract 0 n), .string u, .int .i64 f, .bool d] 32)).alloc (.cells #[.string (s.extract 0 n), .string u, .int .i64 f, .bool d] 32) := by
  go_enter Try.func54, Try.ntmps54
  go_wp2
  exact bodyPost_ret (v := .agg #[.string (s.extract 0 n), .string u, .int .i64 f, .bool d]) (by simp [results, Try.results54, go_sem]) rfl ⟨rfl, rfl⟩
-- OPERATE
set_option maxHeartbeats 1000000 in
theorem operate_put_lost (s u : ByteArray) (d : Bool) (t : ByteArray) (b : Nat) (w : World) (h : u.size + t.size ≤ 1000000000000) (hb : b < w.heap.size) (hc : w.cell? ⟨b, 0, none⟩ = some (.string t)) :
    Calls Try.prog 50 #[.agg #[.string s, .string u, .int .i64 0, .bool d], .func (.func 49) #[] #[.pointer (some ⟨b, 0, none⟩)], .func (.func 49) #[] #[.pointer (some ⟨b, 0, none⟩)]] w fun e w' => e = .returned (.tuple #[.agg #[.string s, .string (u ++ t), .int .i64 0, .bool true], .int .i64 16]) ∧ w' = (((w.alloc (.cells #[.string s, .string (u ++ t), .int .i64 0, .bool true] 32)).alloc (.cells #[.string s, .string (u ++ t), .int .i64 0, .bool true] 32)).alloc (.cells #[.string s, .string (u ++ t), .int .i64 0, .bool d] 32)).alloc (.cells #[.string s, .string (u ++ t), .int .i64 0, .bool d] 32) := by
  go_enter Try.func50, Try.ntmps50
  go_wp2_with fail
  refine (put_any s u t 0 d b _ h (by simp; omega) (by go_simp)).mono ?_
  rintro e w1 ⟨rfl, rfl⟩
  go_wp2
  exact bodyPost_ret (v := .tuple #[.agg #[.string s, .string (u ++ t), .int .i64 0, .bool true], .int .i64 16]) (by simp [results, Try.results50, go_sem]) rfl ⟨rfl, rfl⟩
set_option maxHeartbeats 1000000 in
theorem operate_put_more (s u : ByteArray) (f : Int) (d : Bool) (t : ByteArray) (b : Nat) (w : World) (hf : 0 < f) (hf2 : f ≤ 9223372036854775807) (h : u.size + t.size ≤ 1000000000000) (hb : b < w.heap.size) (hc : w.cell? ⟨b, 0, none⟩ = some (.string t)) :
    Calls Try.prog 50 #[.agg #[.string s, .string u, .int .i64 f, .bool d], .func (.func 49) #[] #[.pointer (some ⟨b, 0, none⟩)], .func (.func 49) #[] #[.pointer (some ⟨b, 0, none⟩)]] w fun e w' => e = .returned (.tuple #[.agg #[.string s, .string (u ++ t), .int .i64 (f - 1), .bool d], .int .i64 0]) ∧ w' = (((w.alloc (.cells #[.string s, .string u, .int .i64 (f - 1), .bool d] 32)).alloc (.cells #[.string s, .string (u ++ t), .int .i64 (f - 1), .bool d] 32)).alloc (.cells #[.string s, .string (u ++ t), .int .i64 (f - 1), .bool d] 32)).alloc (.cells #[.string s, .string (u ++ t), .int .i64 (f - 1), .bool d] 32) := by
  have hfz : (f == 0) = false := by simp; omega
  go_enter Try.func50, Try.ntmps50
  go_wp2_with fail
  refine (put_any s u t (f - 1) d b _ h (by simp; omega) (by go_simp)).mono ?_
  rintro e w1 ⟨rfl, rfl⟩
  go_wp2
  exact bodyPost_ret (v := .tuple #[.agg #[.string s, .string (u ++ t), .int .i64 (f - 1), .bool d], .int .i64 0]) (by simp [results, Try.results50, go_sem]) rfl ⟨rfl, rfl⟩
set_option maxHeartbeats 1000000 in
theorem operate_put_never (s u : ByteArray) (f : Int) (d : Bool) (t : ByteArray) (b : Nat) (w : World) (hf : f < 0) (h : u.size + t.size ≤ 1000000000000) (hb : b < w.heap.size) (hc : w.cell? ⟨b, 0, none⟩ = some (.string t)) :
    Calls Try.prog 50 #[.agg #[.string s, .string u, .int .i64 f, .bool d], .func (.func 49) #[] #[.pointer (some ⟨b, 0, none⟩)], .func (.func 49) #[] #[.pointer (some ⟨b, 0, none⟩)]] w fun e w' => e = .returned (.tuple #[.agg #[.string s, .string (u ++ t), .int .i64 (f), .bool d], .int .i64 0]) ∧ w' = (((w.alloc (.cells #[.string s, .string u, .int .i64 (f), .bool d] 32)).alloc (.cells #[.string s, .string (u ++ t), .int .i64 (f), .bool d] 32)).alloc (.cells #[.string s, .string (u ++ t), .int .i64 (f), .bool d] 32)).alloc (.cells #[.string s, .string (u ++ t), .int .i64 (f), .bool d] 32) := by
  have hfz : (f == 0) = false := by simp; omega
  go_enter Try.func50, Try.ntmps50
  go_wp2_with fail
  refine (put_any s u t (f) d b _ h (by simp; omega) (by go_simp)).mono ?_
  rintro e w1 ⟨rfl, rfl⟩
  go_wp2
  exact bodyPost_ret (v := .tuple #[.agg #[.string s, .string (u ++ t), .int .i64 (f), .bool d], .int .i64 0]) (by simp [results, Try.results50, go_sem]) rfl ⟨rfl, rfl⟩
set_option maxHeartbeats 1000000 in
theorem operate_sure_lost (s u : ByteArray) (d : Bool)  (w : World) (h : s.size + u.size ≤ 2000000000000) :
    Calls Try.prog 50 #[.agg #[.string s, .string u, .int .i64 0, .bool d], .func (.func 51) #[] #[], .func (.func 52) #[] #[]] w fun e w' => e = .returned (.tuple #[.agg #[.string s, .string u, .int .i64 0, .bool true], .int .i64 16]) ∧ w' = (((w.alloc (.cells #[.string s, .string u, .int .i64 0, .bool true] 32)).alloc (.cells #[.string s, .string u, .int .i64 0, .bool true] 32)).alloc (.cells #[.string s, .string u, .int .i64 0, .bool d] 32)).alloc (.cells #[.string s, .string u, .int .i64 0, .bool d] 32) := by
  go_enter Try.func50, Try.ntmps50
  go_wp2_with fail
  refine (nothing_any s u 0 d _).mono ?_
  rintro e w1 ⟨rfl, rfl⟩
  go_wp2
  exact bodyPost_ret (v := .tuple #[.agg #[.string s, .string u, .int .i64 0, .bool true], .int .i64 16]) (by simp [results, Try.results50, go_sem]) rfl ⟨rfl, rfl⟩
set_option maxHeartbeats 1000000 in
theorem operate_sure_more (s u : ByteArray) (f : Int) (d : Bool)  (w : World) (hf : 0 < f) (hf2 : f ≤ 9223372036854775807) (h : s.size + u.size ≤ 2000000000000) :
    Calls Try.prog 50 #[.agg #[.string s, .string u, .int .i64 f, .bool d], .func (.func 51) #[] #[], .func (.func 52) #[] #[]] w fun e w' => e = .returned (.tuple #[.agg #[.string (s ++ u), .string ByteArray.empty, .int .i64 (f - 1), .bool d], .int .i64 0]) ∧ w' = (((w.alloc (.cells #[.string s, .string u, .int .i64 (f - 1), .bool d] 32)).alloc (.cells #[.string (s ++ u), .string ByteArray.empty, .int .i64 (f - 1), .bool d] 32)).alloc (.cells #[.string (s ++ u), .string ByteArray.empty, .int .i64 (f - 1), .bool d] 32)).alloc (.cells #[.string (s ++ u), .string ByteArray.empty, .int .i64 (f - 1), .bool d] 32) := by
  have hfz : (f == 0) = false := by simp; omega
  go_enter Try.func50, Try.ntmps50
  go_wp2_with fail
  refine (sure_any s u (f - 1) d _ h).mono ?_
  rintro e w1 ⟨rfl, rfl⟩
  go_wp2
  exact bodyPost_ret (v := .tuple #[.agg #[.string (s ++ u), .string ByteArray.empty, .int .i64 (f - 1), .bool d], .int .i64 0]) (by simp [results, Try.results50, go_sem]) rfl ⟨rfl, rfl⟩
set_option maxHeartbeats 1000000 in
theorem operate_sure_never (s u : ByteArray) (f : Int) (d : Bool)  (w : World) (hf : f < 0) (h : s.size + u.size ≤ 2000000000000) :
    Calls Try.prog 50 #[.agg #[.string s, .string u, .int .i64 f, .bool d], .func (.func 51) #[] #[], .func (.func 52) #[] #[]] w fun e w' => e = .returned (.tuple #[.agg #[.string (s ++ u), .string ByteArray.empty, .int .i64 (f), .bool d], .int .i64 0]) ∧ w' = (((w.alloc (.cells #[.string s, .string u, .int .i64 (f), .bool d] 32)).alloc (.cells #[.string (s ++ u), .string ByteArray.empty, .int .i64 (f), .bool d] 32)).alloc (.cells #[.string (s ++ u), .string ByteArray.empty, .int .i64 (f), .bool d] 32)).alloc (.cells #[.string (s ++ u), .string ByteArray.empty, .int .i64 (f), .bool d] 32) := by
  have hfz : (f == 0) = false := by simp; omega
  go_enter Try.func50, Try.ntmps50
  go_wp2_with fail
  refine (sure_any s u (f) d _ h).mono ?_
  rintro e w1 ⟨rfl, rfl⟩
  go_wp2
  exact bodyPost_ret (v := .tuple #[.agg #[.string (s ++ u), .string ByteArray.empty, .int .i64 (f), .bool d], .int .i64 0]) (by simp [results, Try.results50, go_sem]) rfl ⟨rfl, rfl⟩
set_option maxHeartbeats 1000000 in
theorem operate_cut_lost (s u : ByteArray) (d : Bool) (n b : Nat) (w : World) (h : s.size ≤ 1000000000000) (hn : n ≤ s.size) (hb : b < w.heap.size) (hc : w.cell? ⟨b, 0, none⟩ = some (.int .i64 n)) :
    Calls Try.prog 50 #[.agg #[.string s, .string u, .int .i64 0, .bool d], .func (.func 54) #[] #[.pointer (some ⟨b, 0, none⟩)], .func (.func 52) #[] #[]] w fun e w' => e = .returned (.tuple #[.agg #[.string s, .string u, .int .i64 0, .bool true], .int .i64 16]) ∧ w' = (((w.alloc (.cells #[.string s, .string u, .int .i64 0, .bool true] 32)).alloc (.cells #[.string s, .string u, .int .i64 0, .bool true] 32)).alloc (.cells #[.string s, .string u, .int .i64 0, .bool d] 32)).alloc (.cells #[.string s, .string u, .int .i64 0, .bool d] 32) := by
  go_enter Try.func50, Try.ntmps50
  go_wp2_with fail
  refine (nothing_any s u 0 d _).mono ?_
  rintro e w1 ⟨rfl, rfl⟩
  go_wp2
  exact bodyPost_ret (v := .tuple #[.agg #[.string s, .string u, .int .i64 0, .bool true], .int .i64 16]) (by simp [results, Try.results50, go_sem]) rfl ⟨rfl, rfl⟩
set_option maxHeartbeats 1000000 in
theorem operate_cut_more (s u : ByteArray) (f : Int) (d : Bool) (n b : Nat) (w : World) (hf : 0 < f) (hf2 : f ≤ 9223372036854775807) (h : s.size ≤ 1000000000000) (hn : n ≤ s.size) (hb : b < w.heap.size) (hc : w.cell? ⟨b, 0, none⟩ = some (.int .i64 n)) :
    Calls Try.prog 50 #[.agg #[.string s, .string u, .int .i64 f, .bool d], .func (.func 54) #[] #[.pointer (some ⟨b, 0, none⟩)], .func (.func 52) #[] #[]] w fun e w' => e = .returned (.tuple #[.agg #[.string (s.extract 0 n), .string u, .int .i64 (f - 1), .bool d], .int .i64 0]) ∧ w' = (((w.alloc (.cells #[.string s, .string u, .int .i64 (f - 1), .bool d] 32)).alloc (.cells #[.string (s.extract 0 n), .string u, .int .i64 (f - 1), .bool d] 32)).alloc (.cells #[.string (s.extract 0 n), .string u, .int .i64 (f - 1), .bool d] 32)).alloc (.cells #[.string (s.extract 0 n), .string u, .int .i64 (f - 1), .bool d] 32) := by
  have hfz : (f == 0) = false := by simp; omega
  go_enter Try.func50, Try.ntmps50
  go_wp2_with fail
  refine (cut_any s u (f - 1) d n b _ h hn (by simp; omega) (by go_simp)).mono ?_
  rintro e w1 ⟨rfl, rfl⟩
  go_wp2
  exact bodyPost_ret (v := .tuple #[.agg #[.string (s.extract 0 n), .string u, .int .i64 (f - 1), .bool d], .int .i64 0]) (by simp [results, Try.results50, go_sem]) rfl ⟨rfl, rfl⟩
set_option maxHeartbeats 1000000 in
theorem operate_cut_never (s u : ByteArray) (f : Int) (d : Bool) (n b : Nat) (w : World) (hf : f < 0) (h : s.size ≤ 1000000000000) (hn : n ≤ s.size) (hb : b < w.heap.size) (hc : w.cell? ⟨b, 0, none⟩ = some (.int .i64 n)) :
    Calls Try.prog 50 #[.agg #[.string s, .string u, .int .i64 f, .bool d], .func (.func 54) #[] #[.pointer (some ⟨b, 0, none⟩)], .func (.func 52) #[] #[]] w fun e w' => e = .returned (.tuple #[.agg #[.string (s.extract 0 n), .string u, .int .i64 (f), .bool d], .int .i64 0]) ∧ w' = (((w.alloc (.cells #[.string s, .string u, .int .i64 (f), .bool d] 32)).alloc (.cells #[.string (s.extract 0 n), .string u, .int .i64 (f), .bool d] 32)).alloc (.cells #[.string (s.extract 0 n), .string u, .int .i64 (f), .bool d] 32)).alloc (.cells #[.string (s.extract 0 n), .string u, .int .i64 (f), .bool d] 32) := by
  have hfz : (f == 0) = false := by simp; omega
  go_enter Try.func50, Try.ntmps50
  go_wp2_with fail
  refine (cut_any s u (f) d n b _ h hn (by simp; omega) (by go_simp)).mono ?_
  rintro e w1 ⟨rfl, rfl⟩
  go_wp2
  exact bodyPost_ret (v := .tuple #[.agg #[.string (s.extract 0 n), .string u, .int .i64 (f), .bool d], .int .i64 0]) (by simp [results, Try.results50, go_sem]) rfl ⟨rfl, rfl⟩
end Go.Proofs.Ytgffoepnkpkhaaa
