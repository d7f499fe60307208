/- The walk of disk.Crash, and each operation of a disk as one contract over its plain function. -/
import Derived.Test.YtgffoepnkpkhaaaDisk2
namespace Go.Proofs.Ytgffoepnkpkhaaa
open Go.RowKit
set_option maxHeartbeats 1000000 in
theorem crash_some (s u : ByteArray) (f : Int) (d : Bool) (m : Nat) (hm : m ≤ u.size) (h1 : s.size ≤ 1000000000000) (h2 : u.size ≤ 1000000000000) (he : Dk.arg ⟨s, u, f, d⟩ = 0) (w : World) :
    Calls Try.prog 21 #[.agg #[.string s, .string u, .int .i64 f, .bool d], .int .i64 m] w fun e w' => e = .returned (.tuple #[.agg #[.string (s ++ u.extract 0 m), .string ByteArray.empty, .int .i64 (-1), .bool false], .int .i64 0]) ∧ Below w.heap.size w w' := by
  have HE := Lib.hid he
  clear he
  go_enter Try.func21, Try.ntmps21
  go_wp2_with fail
  refine (check_at s u f d h1 h2 _).mono ?_
  rintro e w1 ⟨rfl, rfl⟩
  rw [HE.out]
  go_wp2
  go_region
  all_goals
    go_wp2
    refine bodyPost_ret (v := .tuple #[.agg #[.string (s ++ u.extract 0 m), .string ByteArray.empty, .int .i64 (-1), .bool false], .int .i64 0]) (by simp [results, Try.results21, go_sem]; rfl) rfl ⟨rfl, ?_⟩
    repeat (first | exact Below.refl _ _ | refine Below.drew ?_ | refine Below.alloc ?_ (by first | exact Nat.le_refl _ | (simp; done) | (simp; omega)) _)
set_option maxHeartbeats 1000000 in
theorem crash_none (s u : ByteArray) (f : Int) (d : Bool) (n : Int) (hn : n < 0) (h1 : s.size ≤ 1000000000000) (h2 : u.size ≤ 1000000000000) (he : Dk.arg ⟨s, u, f, d⟩ = 0) (w : World) :
    Calls Try.prog 21 #[.agg #[.string s, .string u, .int .i64 f, .bool d], .int .i64 n] w fun e w' => e = .returned (.tuple #[.agg #[.string (s ++ u.extract 0 0), .string ByteArray.empty, .int .i64 (-1), .bool false], .int .i64 0]) ∧ Below w.heap.size w w' := by
  have HE := Lib.hid he
  clear he
  go_enter Try.func21, Try.ntmps21
  go_wp2_with fail
  refine (check_at s u f d h1 h2 _).mono ?_
  rintro e w1 ⟨rfl, rfl⟩
  rw [HE.out]
  go_wp2
  go_region
  all_goals
    go_wp2
    refine bodyPost_ret (v := .tuple #[.agg #[.string (s ++ u.extract 0 0), .string ByteArray.empty, .int .i64 (-1), .bool false], .int .i64 0]) (by simp [results, Try.results21, go_sem]; rfl) rfl ⟨rfl, ?_⟩
    repeat (first | exact Below.refl _ _ | refine Below.drew ?_ | refine Below.alloc ?_ (by first | exact Nat.le_refl _ | (simp; done) | (simp; omega)) _)
set_option maxHeartbeats 1000000 in
theorem crash_all (s u : ByteArray) (f : Int) (d : Bool) (n : Int) (hn : (u.size : Int) < n) (h1 : s.size ≤ 1000000000000) (h2 : u.size ≤ 1000000000000) (he : Dk.arg ⟨s, u, f, d⟩ = 0) (w : World) :
    Calls Try.prog 21 #[.agg #[.string s, .string u, .int .i64 f, .bool d], .int .i64 n] w fun e w' => e = .returned (.tuple #[.agg #[.string (s ++ u.extract 0 u.size), .string ByteArray.empty, .int .i64 (-1), .bool false], .int .i64 0]) ∧ Below w.heap.size w w' := by
  have HE := Lib.hid he
  clear he
  go_enter Try.func21, Try.ntmps21
  go_wp2_with fail
  refine (check_at s u f d h1 h2 _).mono ?_
  rintro e w1 ⟨rfl, rfl⟩
  rw [HE.out]
  go_wp2
  go_region
  all_goals
    go_wp2
    refine bodyPost_ret (v := .tuple #[.agg #[.string (s ++ u.extract 0 u.size), .string ByteArray.empty, .int .i64 (-1), .bool false], .int .i64 0]) (by simp [results, Try.results21, go_sem]; rfl) rfl ⟨rfl, ?_⟩
    repeat (first | exact Below.refl _ _ | refine Below.drew ?_ | refine Below.alloc ?_ (by first | exact Nat.le_refl _ | (simp; done) | (simp; omega)) _)
theorem Dk.wrong_arg {x : Dk} (h : 1048576 < x.s.size + x.u.size ∨ x.f < -1) : x.wrong = 1 := by simp [Dk.wrong, h]
theorem Dk.wrong_down {x : Dk} (h : ¬ (1048576 < x.s.size + x.u.size ∨ x.f < -1)) (hd : x.d = true) : x.wrong = 16 := by simp [Dk.wrong, h, hd]
theorem Dk.wrong_ok {x : Dk} (h : ¬ (1048576 < x.s.size + x.u.size ∨ x.f < -1)) (hd : x.d = false) : x.wrong = 0 := by simp [Dk.wrong, h, hd]
theorem Dk.less_pos {f : Int} (h : 0 < f) : Dk.less f = f - 1 := by simp [Dk.less, h]
theorem Dk.less_neg {f : Int} (h : f < 0) : Dk.less f = f := by unfold Dk.less; rw [if_neg (by omega)]
theorem write_any (x : Dk) (hx : x.Ok) (t : ByteArray) (ht : t.size ≤ 1000000000000) (w : World) :
    Calls Try.prog 25 #[dval x, .string t] w fun e w' => e = .returned (.tuple #[dval (x.write t).1, .int .i64 (x.write t).2]) ∧ Below w.heap.size w w' := by
  obtain ⟨s, u, f, d⟩ := x
  obtain ⟨h1, h2, h3, h4⟩ := hx
  by_cases hc : 1048576 < s.size + u.size ∨ f < -1
  · rw [show Dk.write ⟨s, u, f, d⟩ t = (⟨s, u, f, d⟩, 1) from by simp [Dk.write, hc]]
    exact write_wrong s u t f d 1 h1 h2 (Dk.wrong_arg hc) rfl w
  · cases d
    · have hw : Dk.wrong ⟨s, u, f, false⟩ = 0 := Dk.wrong_ok hc rfl
      by_cases hm : 1048576 < s.size + u.size + t.size
      · rw [show Dk.write ⟨s, u, f, false⟩ t = (⟨s, u, f, false⟩, 6) from by simp [Dk.write, hc, hm]]
        exact write_full s u t f false h1 h2 hw hm ht w
      · rcases Int.lt_trichotomy f 0 with hf | hf | hf
        · rw [show Dk.write ⟨s, u, f, false⟩ t = (⟨s, u ++ t, f, false⟩, 0) from by simp [Dk.write, hc, hm, Dk.less_neg hf]; omega]
          exact write_never s u t f false h1 h2 hw hf (by omega) w
        · subst hf
          rw [show Dk.write ⟨s, u, 0, false⟩ t = (⟨s, u ++ t, 0, true⟩, 16) from by simp [Dk.write, hm]; omega]
          exact write_lost s u t false h1 h2 hw (by omega) w
        · rw [show Dk.write ⟨s, u, f, false⟩ t = (⟨s, u ++ t, f - 1, false⟩, 0) from by simp [Dk.write, hc, hm, Dk.less_pos hf]; omega]
          exact write_more s u t f false h1 h2 hw hf h4 (by omega) w
    · rw [show Dk.write ⟨s, u, f, true⟩ t = (⟨s, u, f, true⟩, 16) from by simp [Dk.write, hc]]
      exact write_wrong s u t f true 16 h1 h2 (Dk.wrong_down hc rfl) rfl w
theorem sync_any (x : Dk) (hx : x.Ok) (w : World) :
    Calls Try.prog 26 #[dval x] w fun e w' => e = .returned (.tuple #[dval x.sync.1, .int .i64 x.sync.2]) ∧ Below w.heap.size w w' := by
  obtain ⟨s, u, f, d⟩ := x
  obtain ⟨h1, h2, h3, h4⟩ := hx
  by_cases hc : 1048576 < s.size + u.size ∨ f < -1
  · rw [show Dk.sync ⟨s, u, f, d⟩ = (⟨s, u, f, d⟩, 1) from by simp [Dk.sync, hc]]
    exact sync_wrong s u f d 1 h1 h2 (Dk.wrong_arg hc) rfl w
  · cases d
    · have hw : Dk.wrong ⟨s, u, f, false⟩ = 0 := Dk.wrong_ok hc rfl
      rcases Int.lt_trichotomy f 0 with hf | hf | hf
      · rw [show Dk.sync ⟨s, u, f, false⟩ = (⟨s ++ u, ByteArray.empty, f, false⟩, 0) from by simp [Dk.sync, hc, Dk.less_neg hf]; omega]
        exact sync_never s u f false h1 h2 hw hf w
      · subst hf
        rw [show Dk.sync ⟨s, u, 0, false⟩ = (⟨s, u, 0, true⟩, 16) from by simp [Dk.sync]; omega]
        exact sync_lost s u false h1 h2 hw w
      · rw [show Dk.sync ⟨s, u, f, false⟩ = (⟨s ++ u, ByteArray.empty, f - 1, false⟩, 0) from by simp [Dk.sync, hc, Dk.less_pos hf]; omega]
        exact sync_more s u f false h1 h2 hw hf h4 w
    · rw [show Dk.sync ⟨s, u, f, true⟩ = (⟨s, u, f, true⟩, 16) from by simp [Dk.sync, hc]]
      exact sync_wrong s u f true 16 h1 h2 (Dk.wrong_down hc rfl) rfl w
theorem cutd_any (x : Dk) (hx : x.Ok) (n : Int) (w : World) :
    Calls Try.prog 29 #[dval x, .int .i64 n] w fun e w' => e = .returned (.tuple #[dval (x.cut n).1, .int .i64 (x.cut n).2]) ∧ Below w.heap.size w w' := by
  obtain ⟨s, u, f, d⟩ := x
  obtain ⟨h1, h2, h3, h4⟩ := hx
  by_cases hc : 1048576 < s.size + u.size ∨ f < -1
  · rw [show Dk.cut ⟨s, u, f, d⟩ n = (⟨s, u, f, d⟩, 1) from by simp [Dk.cut, hc]]
    exact cut_wrong s u f d 1 n h1 h2 (Dk.wrong_arg hc) rfl w
  · cases d
    · have hw : Dk.wrong ⟨s, u, f, false⟩ = 0 := Dk.wrong_ok hc rfl
      by_cases hb : u.size ≠ 0 ∨ n < 0 ∨ (s.size : Int) < n
      · rw [show Dk.cut ⟨s, u, f, false⟩ n = (⟨s, u, f, false⟩, 1) from by unfold Dk.cut; simp only [if_neg hc, if_pos hb, Bool.false_eq_true, if_false]]
        by_cases hu : u.size = 0
        · by_cases hn : n < 0
          · exact cut_bad2 s u f false n h1 h2 hw hu hn w
          · exact cut_bad3 s u f false n h1 h2 hw hu (by omega) (by omega) w
        · exact cut_bad1 s u f false n h1 h2 hw hu w
      · have hu : u.size = 0 := by omega
        obtain ⟨m, rfl⟩ := Int.eq_ofNat_of_zero_le (show 0 ≤ n by omega)
        have hm : m ≤ s.size := by omega
        rcases Int.lt_trichotomy f 0 with hf | hf | hf
        · rw [show Dk.cut ⟨s, u, f, false⟩ m = (⟨s.extract 0 m, u, f, false⟩, 0) from by unfold Dk.cut; simp only [if_neg hc, if_neg hb, Bool.false_eq_true, if_false, Int.toNat_natCast]; rw [if_neg (by omega), Dk.less_neg hf]]
          exact cut_never s u f false m h1 h2 hw hf hu hm w
        · subst hf
          rw [show Dk.cut ⟨s, u, 0, false⟩ m = (⟨s, u, 0, true⟩, 16) from by unfold Dk.cut; simp only [if_neg hc, if_neg hb, Bool.false_eq_true, if_false, if_true]]
          exact cut_lost s u false m h1 h2 hw hu hm w
        · rw [show Dk.cut ⟨s, u, f, false⟩ m = (⟨s.extract 0 m, u, f - 1, false⟩, 0) from by unfold Dk.cut; simp only [if_neg hc, if_neg hb, Bool.false_eq_true, if_false, Int.toNat_natCast]; rw [if_neg (by omega), Dk.less_pos hf]]
          exact cut_more s u f false m h1 h2 hw hf h4 hu hm w
    · rw [show Dk.cut ⟨s, u, f, true⟩ n = (⟨s, u, f, true⟩, 16) from by simp [Dk.cut, hc]]
      exact cut_wrong s u f true 16 n h1 h2 (Dk.wrong_down hc rfl) rfl w
theorem crashd_any (x : Dk) (hx : x.Ok) (n : Int) (w : World) :
    Calls Try.prog 21 #[dval x, .int .i64 n] w fun e w' => e = .returned (.tuple #[dval (x.crash n).1, .int .i64 (x.crash n).2]) ∧ Below w.heap.size w w' := by
  obtain ⟨s, u, f, d⟩ := x
  obtain ⟨h1, h2, h3, h4⟩ := hx
  by_cases hc : 1048576 < s.size + u.size ∨ f < -1
  · rw [show Dk.crash ⟨s, u, f, d⟩ n = (⟨s, u, f, d⟩, 1) from by simp [Dk.crash, hc]]
    exact crash_wrong s u f d n h1 h2 (by simp [Dk.arg, hc]) w
  · have hw : Dk.arg ⟨s, u, f, d⟩ = 0 := by simp [Dk.arg, hc]
    rw [show Dk.crash ⟨s, u, f, d⟩ n = (⟨s ++ u.extract 0 (min n.toNat u.size), ByteArray.empty, -1, false⟩, 0) from by simp [Dk.crash, hc]]
    by_cases h0 : n < 0
    · rw [show min n.toNat u.size = 0 by omega]
      exact crash_none s u f d n h0 h1 h2 hw w
    · obtain ⟨m, rfl⟩ := Int.eq_ofNat_of_zero_le (show 0 ≤ n by omega)
      by_cases hm : m ≤ u.size
      · rw [show min (m : Int).toNat u.size = m by omega]
        exact crash_some s u f d m hm h1 h2 hw w
      · rw [show min (m : Int).toNat u.size = u.size by omega]
        exact crash_all s u f d m (by omega) h1 h2 hw w
theorem checkd_any (x : Dk) (hx : x.Ok) (w : World) :
    Calls Try.prog 24 #[dval x] w fun e w' => e = .returned (.int .i64 x.arg) ∧ w' = w.alloc (.cells #[.string x.s, .string x.u, .int .i64 x.f, .bool x.d] 32) :=
  check_at x.s x.u x.f x.d hx.s hx.u w
theorem bytesd_any (x : Dk) (hx : x.Ok) (w : World) :
    Calls Try.prog 23 #[dval x] w fun e w' => e = .returned (.string (x.s ++ x.u)) ∧ w' = w.alloc (.cells #[.string x.s, .string x.u, .int .i64 x.f, .bool x.d] 32) :=
  bytes_at x.s x.u x.f x.d hx.s hx.u w
end Go.Proofs.Ytgffoepnkpkhaaa
