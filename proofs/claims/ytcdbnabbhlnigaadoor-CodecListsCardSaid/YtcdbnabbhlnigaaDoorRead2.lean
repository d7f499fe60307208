/- The walks of Num and Upto of both readers. -/
import Derived.Test.YtcdbnabbhlnigaaDoorRead
namespace Go.Proofs.YtcdbnabbhlnigaaDoor
open Go.RowKit

/-- the post of a method that reads a number -/
def NumPost (p : Int → Bool) (T : TypeId) (b : Nat) (s : ByteArray) (e0 : Int) (w : World) (e : Ending) (w' : World) : Prop :=
  e = .returned (.int .i64 (tk p s e0).1) ∧ Rdr T w' b (tk p s e0).2.2.1 (tk p s e0).2.2.2 ∧ Only b w w'
theorem new_any (s : ByteArray) (w : World) : Calls Tryd.prog 29 #[.string s] w fun e w' => e = .returned (.pointer (some ⟨w.heap.size, 0, none⟩)) ∧ w' = w.alloc (.cells #[.string s, .int .i64 0] 78) := by
  go_enter Tryd.func29, Tryd.ntmps29
  go_wp2
  go_ret
  exact ⟨rfl, rfl⟩
set_option maxHeartbeats 400000 in
theorem num_any (b : Nat) (s : ByteArray) (e0 : Int) (hs : s.size ≤ 1000000000000) (w : World) (hr : Rdr 78 w b s e0) :
    Calls Tryd.prog 46 #[.pointer (some ⟨b, 0, none⟩)] w (NumPost (fun _ => true) 78 b s e0 w) := by
  go_enter Tryd.func46, Tryd.ntmps46
  go_wp2_with fail
  refine (take_num b s e0 hs _ hr).mono ?_
  rintro e w1 ⟨rfl, hr1, ho1⟩
  go_wp2
  go_ret
  exact ⟨rfl, hr1, ho1⟩
set_option maxHeartbeats 400000 in
theorem upto_any (b : Nat) (s : ByteArray) (e0 m : Int) (hs : s.size ≤ 1000000000000) (w : World) (hr : Rdr 78 w b s e0) :
    Calls Tryd.prog 36 #[.pointer (some ⟨b, 0, none⟩), .int .i64 m] w (NumPost (upto m) 78 b s e0 w) := by
  have hal : Below w.heap.size w (w.alloc (.cells #[.int .i64 m] 2)) := (Below.refl _ _).alloc (Nat.le_refl _) _
  go_enter Tryd.func36, Tryd.ntmps36
  go_wp2_with fail
  refine (take_upto b s e0 m w.heap.size hs _ (hr.keep hal) (by go_simp)).mono ?_
  rintro e w1 ⟨rfl, hr1, ho1⟩
  go_wp2
  go_ret
  exact ⟨rfl, hr1, (Only.below hal).trans ho1⟩
set_option maxHeartbeats 1000000 in
set_option maxRecDepth 100000 in
theorem refnum_any (b : Nat) (s : ByteArray) (e0 : Int) (hs : s.size ≤ 1000000000000) (w : World) (hr : Rdr 70 w b s e0) :
    Calls Tryd.prog 48 #[.pointer (some ⟨b, 0, none⟩)] w (NumPost (fun _ => true) 70 b s e0 w) := by
  obtain ⟨c0, c1, f0, f1⟩ := hr.cells
  by_cases h0 : e0 = 0
  · subst h0
    obtain ⟨⟨gn, gm, ge⟩, hget⟩ : ∃ g, Vint.get s.data.toList = g := ⟨_, rfl⟩
    by_cases hge : ge = 0
    · subst hge
      obtain ⟨_, hm, _, hn1, hn2⟩ := Vint.put_get _ _ _ hget
      have hm2 : gm ≤ s.size := by simpa using hm
      have HT := Lib.hid (tk_yes (fun _ => true) s gn gm hget rfl)
      have HG := Lib.hid hget
      clear hget hm
      go_enter Tryd.func48, Tryd.ntmps48
      go_wp2_with fail
      refine (refget_any s _ hs).mono ?_
      rintro e w1 ⟨rfl, rfl⟩
      rw [HG.out]
      dsimp only
      go_wp2
      go_ret
      unfold NumPost
      rw [HT.out]
      exact ⟨rfl, hr.set0 _, (Only.refl b w).set 0 _⟩
    · have HT := Lib.hid (tk_get (fun _ => true) s gn gm ge hget hge)
      have HG := Lib.hid hget
      have hne : (ge != 0) = true := by simpa using hge
      clear hget hge
      go_enter Tryd.func48, Tryd.ntmps48
      go_wp2_with fail
      refine (refget_any s _ hs).mono ?_
      rintro e w1 ⟨rfl, rfl⟩
      rw [HG.out]
      dsimp only
      go_wp2
      go_ret
      unfold NumPost
      rw [HT.out]
      exact ⟨rfl, hr.set1 _, (Only.refl b w).set 1 _⟩
  · have HT := Lib.hid (tk_err (fun _ => true) s e0 h0)
    have hne : (e0 != 0) = true := by simpa using h0
    clear h0
    go_enter Tryd.func48, Tryd.ntmps48
    go_wp2
    go_ret
    unfold NumPost
    rw [HT.out]
    exact ⟨rfl, hr, Only.refl b w⟩
set_option maxHeartbeats 1000000 in
set_option maxRecDepth 100000 in
theorem refupto_any (b : Nat) (s : ByteArray) (e0 m : Int) (hs : s.size ≤ 1000000000000) (w : World) (hr : Rdr 70 w b s e0) :
    Calls Tryd.prog 38 #[.pointer (some ⟨b, 0, none⟩), .int .i64 m] w (NumPost (upto m) 70 b s e0 w) := by
  obtain ⟨c0, c1, f0, f1⟩ := hr.cells
  by_cases h0 : e0 = 0
  · subst h0
    obtain ⟨⟨gn, gm, ge⟩, hget⟩ : ∃ g, Vint.get s.data.toList = g := ⟨_, rfl⟩
    by_cases hge : ge = 0
    · subst hge
      have HT1 := Lib.hid (tk_yes (fun _ => true) s gn gm hget rfl)
      by_cases hp0 : 0 ≤ gn ∧ gn ≤ m
      · have HT := Lib.hid (tk_yes (upto m) s gn gm hget (by simpa [upto] using hp0))
        obtain ⟨hp1, hp2⟩ := hp0
        have hd1 : decide (gn < 0) = false := by simp; omega
        have hd2 : decide (m < gn) = false := by simp; omega
        clear hget
        go_enter Tryd.func38, Tryd.ntmps38
        go_wp2_with fail
        refine (refnum_any b s 0 hs _ hr).mono ?_
        rintro e w1 ⟨rfl, hr1, ho1⟩
        rw [HT1.out] at hr1 ⊢
        dsimp only at hr1 ⊢
        obtain ⟨d0, d1, g0, g1⟩ := hr1.cells
        go_wp2
        go_ret
        unfold NumPost
        rw [HT.out]
        exact ⟨rfl, hr1, ho1⟩
      · have HT := Lib.hid (tk_no (upto m) s gn gm hget (by simpa [upto] using hp0))
        have hp1 : gn < 0 ∨ (0 ≤ gn ∧ m < gn) := by omega
        clear hget hp0
        rcases hp1 with hp1 | ⟨hp1, hp2⟩
        all_goals
          go_enter Tryd.func38, Tryd.ntmps38
          go_wp2_with fail
          refine (refnum_any b s 0 hs _ hr).mono ?_
          rintro e w1 ⟨rfl, hr1, ho1⟩
          rw [HT1.out] at hr1 ⊢
          dsimp only at hr1 ⊢
          obtain ⟨d0, d1, g0, g1⟩ := hr1.cells
          go_wp2
          go_ret
          unfold NumPost
          rw [HT.out]
          exact ⟨rfl, (hr1.set0 s).set1 3, (ho1.set 0 _).set 1 _⟩
    · have HT1 := Lib.hid (tk_get (fun _ => true) s gn gm ge hget hge)
      have HT := Lib.hid (tk_get (upto m) s gn gm ge hget hge)
      have hne : (ge == 0) = false := by simpa using hge
      clear hget hge
      go_enter Tryd.func38, Tryd.ntmps38
      go_wp2_with fail
      refine (refnum_any b s 0 hs _ hr).mono ?_
      rintro e w1 ⟨rfl, hr1, ho1⟩
      rw [HT1.out] at hr1 ⊢
      dsimp only at hr1 ⊢
      obtain ⟨d0, d1, g0, g1⟩ := hr1.cells
      go_wp2
      go_ret
      unfold NumPost
      rw [HT.out]
      exact ⟨rfl, hr1, ho1⟩
  · have HT1 := Lib.hid (tk_err (fun _ => true) s e0 h0)
    have HT := Lib.hid (tk_err (upto m) s e0 h0)
    have hne : (e0 == 0) = false := by simpa using h0
    clear h0
    go_enter Tryd.func38, Tryd.ntmps38
    go_wp2_with fail
    refine (refnum_any b s e0 hs _ hr).mono ?_
    rintro e w1 ⟨rfl, hr1, ho1⟩
    rw [HT1.out] at hr1 ⊢
    dsimp only at hr1 ⊢
    obtain ⟨d0, d1, g0, g1⟩ := hr1.cells
    go_wp2
    go_ret
    unfold NumPost
    rw [HT.out]
    exact ⟨rfl, hr1, ho1⟩
end Go.Proofs.YtcdbnabbhlnigaaDoor
