/- The reference of layer 9 as whole contracts; Crash; Few; the page's example. -/
import Derived.Test.YtgffoepnkpkhaaaDisk4
namespace Go.Proofs.Ytgffoepnkpkhaaa
open Go.RowKit

theorem refwrite_any (x : Dk) (hx : x.Ok) (t : ByteArray) (ht : t.size ≤ 1000000000000) (w : World) :
    Calls Try.prog 27 #[dval x, .string t] w fun e w' => e = .returned (.tuple #[dval (x.write t).1, .int .i64 (x.write t).2]) ∧ Below w.heap.size w w' := by
  obtain ⟨s, u, f, d⟩ := x
  obtain ⟨h1, h2, h3, h4⟩ := hx
  by_cases hc : 1048576 < s.size + u.size ∨ f < -1
  · rw [show Dk.write ⟨s, u, f, d⟩ t = (⟨s, u, f, d⟩, 1) from by simp [Dk.write, hc]]
    exact refwrite_wrong s u f d 1 t h1 h2 (Dk.wrong_arg hc) rfl w
  · cases d
    · have hw : Dk.wrong ⟨s, u, f, false⟩ = 0 := Dk.wrong_ok hc rfl
      by_cases hm : 1048576 < s.size + u.size + t.size
      · rw [show Dk.write ⟨s, u, f, false⟩ t = (⟨s, u, f, false⟩, 6) from by simp [Dk.write, hc, hm]]
        exact refwrite_full s u t f false h1 h2 hw hm ht w
      · rcases Int.lt_trichotomy f 0 with hf | hf | hf
        · rw [show Dk.write ⟨s, u, f, false⟩ t = (⟨s, u ++ t, f, false⟩, 0) from by simp [Dk.write, hc, hm, Dk.less_neg hf]; omega]
          exact refwrite_never s u t f false h1 h2 hw hf (by omega) w
        · subst hf
          rw [show Dk.write ⟨s, u, 0, false⟩ t = (⟨s, u ++ t, 0, true⟩, 16) from by simp [Dk.write, hm]; omega]
          exact refwrite_lost s u t false h1 h2 hw (by omega) w
        · rw [show Dk.write ⟨s, u, f, false⟩ t = (⟨s, u ++ t, f - 1, false⟩, 0) from by simp [Dk.write, hc, hm, Dk.less_pos hf]; omega]
          exact refwrite_more s u t f false h1 h2 hw hf h4 (by omega) w
    · rw [show Dk.write ⟨s, u, f, true⟩ t = (⟨s, u, f, true⟩, 16) from by simp [Dk.write, hc]]
      exact refwrite_wrong s u f true 16 t h1 h2 (Dk.wrong_down hc rfl) rfl w
theorem refsync_any (x : Dk) (hx : x.Ok) (w : World) :
    Calls Try.prog 28 #[dval x] w fun e w' => e = .returned (.tuple #[dval x.sync.1, .int .i64 x.sync.2]) ∧ Below w.heap.size w w' := by
  obtain ⟨s, u, f, d⟩ := x
  obtain ⟨h1, h2, h3, h4⟩ := hx
  by_cases hc : 1048576 < s.size + u.size ∨ f < -1
  · rw [show Dk.sync ⟨s, u, f, d⟩ = (⟨s, u, f, d⟩, 1) from by simp [Dk.sync, hc]]
    exact refsync_wrong s u f d 1 h1 h2 (Dk.wrong_arg hc) rfl w
  · cases d
    · have hw : Dk.wrong ⟨s, u, f, false⟩ = 0 := Dk.wrong_ok hc rfl
      rcases Int.lt_trichotomy f 0 with hf | hf | hf
      · rw [show Dk.sync ⟨s, u, f, false⟩ = (⟨s ++ u, ByteArray.empty, f, false⟩, 0) from by simp [Dk.sync, hc, Dk.less_neg hf]; omega]
        exact refsync_never s u f false h1 h2 hw hf w
      · subst hf
        rw [show Dk.sync ⟨s, u, 0, false⟩ = (⟨s, u, 0, true⟩, 16) from by simp [Dk.sync]; omega]
        exact refsync_lost s u false h1 h2 hw w
      · rw [show Dk.sync ⟨s, u, f, false⟩ = (⟨s ++ u, ByteArray.empty, f - 1, false⟩, 0) from by simp [Dk.sync, hc, Dk.less_pos hf]; omega]
        exact refsync_more s u f false h1 h2 hw hf h4 w
    · rw [show Dk.sync ⟨s, u, f, true⟩ = (⟨s, u, f, true⟩, 16) from by simp [Dk.sync, hc]]
      exact refsync_wrong s u f true 16 h1 h2 (Dk.wrong_down hc rfl) rfl w
theorem refcut_any (x : Dk) (hx : x.Ok) (n : Int) (w : World) :
    Calls Try.prog 30 #[dval x, .int .i64 n] w fun e w' => e = .returned (.tuple #[dval (x.cut n).1, .int .i64 (x.cut n).2]) ∧ Below w.heap.size w w' := by
  obtain ⟨s, u, f, d⟩ := x
  obtain ⟨h1, h2, h3, h4⟩ := hx
  by_cases hc : 1048576 < s.size + u.size ∨ f < -1
  · rw [show Dk.cut ⟨s, u, f, d⟩ n = (⟨s, u, f, d⟩, 1) from by simp [Dk.cut, hc]]
    exact refcut_wrong s u f d 1 n h1 h2 (Dk.wrong_arg hc) rfl w
  · cases d
    · have hw : Dk.wrong ⟨s, u, f, false⟩ = 0 := Dk.wrong_ok hc rfl
      by_cases hb : u.size ≠ 0 ∨ n < 0 ∨ (s.size : Int) < n
      · rw [show Dk.cut ⟨s, u, f, false⟩ n = (⟨s, u, f, false⟩, 1) from by unfold Dk.cut; simp only [if_neg hc, if_pos hb, Bool.false_eq_true, if_false]]
        by_cases hu : u.size = 0
        · by_cases hn : n < 0
          · exact refcut_bad2 s u f false n h1 h2 hw hu hn w
          · exact refcut_bad3 s u f false n h1 h2 hw hu (by omega) (by omega) w
        · exact refcut_bad1 s u f false n h1 h2 hw hu w
      · have hu : u.size = 0 := by omega
        obtain ⟨m, rfl⟩ := Int.eq_ofNat_of_zero_le (show 0 ≤ n by omega)
        have hm : m ≤ s.size := by omega
        rcases Int.lt_trichotomy f 0 with hf | hf | hf
        · rw [show Dk.cut ⟨s, u, f, false⟩ m = (⟨s.extract 0 m, u, f, false⟩, 0) from by unfold Dk.cut; simp only [if_neg hc, if_neg hb, Bool.false_eq_true, if_false, Int.toNat_natCast]; rw [if_neg (by omega), Dk.less_neg hf]]
          exact refcut_never s u f false m h1 h2 hw hf hu hm w
        · subst hf
          rw [show Dk.cut ⟨s, u, 0, false⟩ m = (⟨s, u, 0, true⟩, 16) from by unfold Dk.cut; simp only [if_neg hc, if_neg hb, Bool.false_eq_true, if_false, if_true]]
          exact refcut_lost s u false m h1 h2 hw hu hm w
        · rw [show Dk.cut ⟨s, u, f, false⟩ m = (⟨s.extract 0 m, u, f - 1, false⟩, 0) from by unfold Dk.cut; simp only [if_neg hc, if_neg hb, Bool.false_eq_true, if_false, Int.toNat_natCast]; rw [if_neg (by omega), Dk.less_pos hf]]
          exact refcut_more s u f false m h1 h2 hw hf h4 hu hm w
    · rw [show Dk.cut ⟨s, u, f, true⟩ n = (⟨s, u, f, true⟩, 16) from by simp [Dk.cut, hc]]
      exact refcut_wrong s u f true 16 n h1 h2 (Dk.wrong_down hc rfl) rfl w
theorem grow_cut (s u : ByteArray) (k : Nat) (h : k < u.size) : (s ++ u.extract 0 k) ++ u.extract k (k + 1) = s ++ u.extract 0 (k + 1) := by
  rw [ByteArray.append_assoc]
  congr 1
  apply ByteArray.ext
  simp only [ByteArray.data_append, ByteArray.data_extract]
  rw [Array.extract_append_extract]
  congr 1 <;> omega
set_option maxHeartbeats 1000000 in
theorem refcrash_wrong (s u : ByteArray) (f : Int) (d : Bool) (n : Int) (h1 : s.size ≤ 1000000000000) (h2 : u.size ≤ 1000000000000) (he : Dk.wrong ⟨s, u, f, d⟩ = 1) (w : World) :
    Calls Try.prog 22 #[.agg #[.string s, .string u, .int .i64 f, .bool d], .int .i64 n] w fun e w' => e = .returned (.tuple #[.agg #[.string s, .string u, .int .i64 f, .bool d], .int .i64 1]) ∧ Below w.heap.size w w' := by
  have HE := Lib.hid he
  clear he
  go_enter Try.func22, Try.ntmps22
  go_wp2_with fail
  refine (wrong_at s u f d h1 h2 _).mono ?_
  rintro e w1 ⟨rfl, rfl⟩
  rw [HE.out]
  go_wp2
  refine bodyPost_ret (v := .tuple #[.agg #[.string s, .string u, .int .i64 f, .bool d], .int .i64 1]) (by simp [results, Try.results22, go_sem]) rfl ⟨rfl, ?_⟩
  repeat (first | exact Below.refl _ _ | refine Below.alloc ?_ (by first | exact Nat.le_refl _ | (simp; done) | (simp; omega)) _)
set_option maxHeartbeats 1000000 in
theorem refcrash_good (s u : ByteArray) (f : Int) (d : Bool) (n : Int) (e0 : Int) (h1 : s.size ≤ 1000000000000) (h2 : u.size ≤ 1000000000000) (he : Dk.wrong ⟨s, u, f, d⟩ = e0) (hne : (e0 == 1) = false) (w : World) :
    Calls Try.prog 22 #[.agg #[.string s, .string u, .int .i64 f, .bool d], .int .i64 n] w fun e w' => e = .returned (.tuple #[.agg #[.string (s ++ u.extract 0 (min n.toNat u.size)), .string ByteArray.empty, .int .i64 (-1), .bool false], .int .i64 0]) ∧ Below w.heap.size w w' := by
  have HE := Lib.hid he
  clear he
  have hs0 : s ++ u.extract 0 0 = s := by apply ByteArray.ext; simp
  have HS0 := Lib.hid hs0
  clear hs0
  go_enter Try.func22, Try.ntmps22
  go_wp2_with fail
  refine (wrong_at s u f d h1 h2 _).mono ?_
  rintro e w1 ⟨rfl, rfl⟩
  rw [HE.out]
  go_wp2
  go_loop [6, 7] (fun q i => ∃ k : Nat, k ≤ u.size ∧ k ≤ n.toNat ∧ i = .int .i64 k ∧ q = .string (s ++ u.extract 0 k)) (fun _ i => u.size - (intOf i).toNat)
  case atStart => exact ⟨0, Nat.zero_le _, Nat.zero_le _, rfl, by rw [HS0.out]⟩
  case round =>
    obtain ⟨k, hk, hkn, rfl, rfl⟩ := hrel
    by_cases hlt : (k : Int) < n
    · by_cases hlu : k < u.size
      · have hg := Lib.hid (grow_cut s u k hlu)
        have hsz : (s ++ u.extract 0 k).size ≤ 2000000000000 := by rw [ByteArray.size_append, ByteArray.size_extract]; omega
        go_wp2
        go_round
        case rel => exact ⟨k + 1, by omega, by omega, by go_num, by rw [← hg.out]⟩
        case measure => simp [intOf]; omega
      · have hmin : min n.toNat u.size = k := by omega
        have HM := Lib.hid hmin
        clear hmin
        go_wp2
        refine bodyPost_ret (v := .tuple #[.agg #[.string (s ++ u.extract 0 k), .string ByteArray.empty, .int .i64 (-1), .bool false], .int .i64 0]) (by simp [results, Try.results22, go_sem]; rfl) rfl ⟨by rw [HM.out], ?_⟩
        repeat (first | exact Below.refl _ _ | refine Below.alloc ?_ (by first | exact Nat.le_refl _ | (simp; done) | (simp; omega)) _)
    · have hmin : min n.toNat u.size = k := by omega
      have hd : decide ((k : Int) < n) = false := by simpa using hlt
      have HM := Lib.hid hmin
      clear hmin
      go_wp2
      refine bodyPost_ret (v := .tuple #[.agg #[.string (s ++ u.extract 0 k), .string ByteArray.empty, .int .i64 (-1), .bool false], .int .i64 0]) (by simp [results, Try.results22, go_sem]; rfl) rfl ⟨by rw [HM.out], ?_⟩
      repeat (first | exact Below.refl _ _ | refine Below.alloc ?_ (by first | exact Nat.le_refl _ | (simp; done) | (simp; omega)) _)
theorem refcrash_any (x : Dk) (hx : x.Ok) (n : Int) (w : World) :
    Calls Try.prog 22 #[dval x, .int .i64 n] w fun e w' => e = .returned (.tuple #[dval (x.crash n).1, .int .i64 (x.crash n).2]) ∧ Below w.heap.size w w' := by
  obtain ⟨s, u, f, d⟩ := x
  obtain ⟨h1, h2, h3, h4⟩ := hx
  by_cases hc : 1048576 < s.size + u.size ∨ f < -1
  · rw [show Dk.crash ⟨s, u, f, d⟩ n = (⟨s, u, f, d⟩, 1) from by simp [Dk.crash, hc]]
    exact refcrash_wrong s u f d n h1 h2 (Dk.wrong_arg hc) w
  · rw [show Dk.crash ⟨s, u, f, d⟩ n = (⟨s ++ u.extract 0 (min n.toNat u.size), ByteArray.empty, -1, false⟩, 0) from by simp [Dk.crash, hc]]
    cases d
    · exact refcrash_good s u f false n 0 h1 h2 (Dk.wrong_ok hc rfl) rfl w
    · exact refcrash_good s u f true n 16 h1 h2 (Dk.wrong_down hc rfl) rfl w
set_option maxHeartbeats 400000 in
theorem few_any (x : Dk) (h1 : x.s.size ≤ maxLen) (h2 : x.u.size ≤ maxLen) (w : World) :
    Calls Try.prog 19 #[dval x] w fun e w' => e = .returned (.bool (decide (x.s.size ≤ 1500 ∧ x.u.size ≤ 1500))) ∧ w' = w.alloc (.cells #[.string x.s, .string x.u, .int .i64 x.f, .bool x.d] 32) := by
  obtain ⟨s, u, f, d⟩ := x
  unfold maxLen at h1 h2
  simp only at h1 h2 ⊢
  by_cases ha : s.size ≤ 1500
  · by_cases hb : u.size ≤ 1500
    · have e : decide (s.size ≤ 1500 ∧ u.size ≤ 1500) = true := by simp [ha, hb]
      rw [e]
      clear e
      have hbI : decide ((u.size : Int) ≤ 1500) = true := by simp; omega
      go_enter Try.func19, Try.ntmps19
      go_wp2
      go_ret
      exact ⟨rfl, rfl⟩
    · have e : decide (s.size ≤ 1500 ∧ u.size ≤ 1500) = false := by simp [hb]
      rw [e]
      clear e
      have hb' : 1500 < u.size := by omega
      have hbI : decide ((u.size : Int) ≤ 1500) = false := by simp; omega
      clear hb
      go_enter Try.func19, Try.ntmps19
      go_wp2
      go_ret
      exact ⟨rfl, rfl⟩
  · have e : decide (s.size ≤ 1500 ∧ u.size ≤ 1500) = false := by simp [ha]
    rw [e]
    clear e
    have ha' : 1500 < s.size := by omega
    clear ha
    go_enter Try.func19, Try.ntmps19
    go_wp2
    go_ret
    exact ⟨rfl, rfl⟩
end Go.Proofs.Ytgffoepnkpkhaaa
