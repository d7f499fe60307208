/- The walks of Text of both readers. -/
import Derived.Test.YtcdbnabbhlnigaaRead2
namespace Go.Proofs.Ytcdbnabbhlnigaa
open Go.RowKit

set_option maxHeartbeats 400000 in
theorem text_in (n m : Int) (c : Nat) (w : World) (hc : w.cell? ⟨c, 0, none⟩ = some (.int .i64 m)) (h1 : 0 ≤ n) (h2 : n ≤ m) : Calls Try.prog 28 #[.int .i64 n, .pointer (some ⟨c, 0, none⟩)] w fun e w' => e = .returned (.bool true) ∧ w = w' := by
  have hd : decide (n ≤ m) = true := by simpa using h2
  go_enter Try.func28, Try.ntmps28
  go_wp2
  go_ret
  exact ⟨rfl, rfl⟩
set_option maxHeartbeats 400000 in
theorem text_out (n m : Int) (c : Nat) (w : World) (hc : w.cell? ⟨c, 0, none⟩ = some (.int .i64 m)) (h : upto m n = false) : Calls Try.prog 28 #[.int .i64 n, .pointer (some ⟨c, 0, none⟩)] w fun e w' => e = .returned (.bool false) ∧ w = w' := by
  have h' : ¬ 0 ≤ n ∨ (0 ≤ n ∧ ¬ n ≤ m) := by simp [upto] at h; omega
  clear h
  rcases h' with h1 | ⟨h1, h2⟩
  · have hd : decide (0 ≤ n) = false := by simpa using h1
    go_enter Try.func28, Try.ntmps28
    go_wp2
    go_ret
    exact ⟨rfl, rfl⟩
  · have hd : decide (n ≤ m) = false := by simpa using h2
    go_enter Try.func28, Try.ntmps28
    go_wp2
    go_ret
    exact ⟨rfl, rfl⟩
set_option maxHeartbeats 1000000 in
set_option maxRecDepth 100000 in
theorem take_text (b : Nat) (s : ByteArray) (e0 : Int) (m : Int) (c : Nat) (hs : s.size ≤ 1000000000000) (w : World) (hr : Rdr 53 w b s e0) (hcm : w.cell? ⟨c, 0, none⟩ = some (.int .i64 m)) :
    Calls Try.prog 25 #[.pointer (some ⟨b, 0, none⟩), .func (.func 28) #[] #[.pointer (some ⟨c, 0, none⟩)]] w (TkPost (upto m) 53 b s e0 w) := by
  by_cases h0 : e0 = 0
  · subst h0
    obtain ⟨⟨gn, gm, ge⟩, hget⟩ : ∃ g, Vint.get s.data.toList = g := ⟨_, rfl⟩
    by_cases hge : ge = 0
    · subst hge
      obtain ⟨_, _, _, hn1, hn2⟩ := Vint.put_get _ _ _ hget
      have hgv := Lib.hid (gv_ok s gn gm hget)
      by_cases hp0 : 0 ≤ gn ∧ gn ≤ m
      · have hp : upto m gn = true := by simpa [upto] using hp0
        obtain ⟨hp1, hp2⟩ := hp0
        have HT := Lib.hid (tk_yes (upto m) s gn gm hget hp)
        clear hget hp
        obtain ⟨c0, c1, f0, f1⟩ := hr.cells
        go_enter Try.func25, Try.ntmps25
        go_wp2_with fail
        refine (err_any b s 0 _ hr).mono ?_
        rintro e w1 ⟨rfl, rfl⟩
        go_wp2_with fail
        refine (get_any s _ hs).mono ?_
        rintro e w1 ⟨rfl, nq, rfl⟩
        rw [hgv.out]
        go_wp2_with fail
        refine (text_in gn m c _ (by exact hcm) hp1 hp2).mono ?_
        rintro e w1 ⟨rfl, rfl⟩
        go_wp2
        go_ret2
        unfold TkPost
        rw [HT.out]
        exact ⟨rfl, (hr.drewN nq).set0 _, ((Only.refl b w).drewN nq).set 0 _⟩
      · have hp : upto m gn = false := by simpa [upto] using hp0
        have HT := Lib.hid (tk_no (upto m) s gn gm hget hp)
        have hq : upto m gn = false := hp
        clear hget hp
        obtain ⟨c0, c1, f0, f1⟩ := hr.cells
        go_enter Try.func25, Try.ntmps25
        go_wp2_with fail
        refine (err_any b s 0 _ hr).mono ?_
        rintro e w1 ⟨rfl, rfl⟩
        go_wp2_with fail
        refine (get_any s _ hs).mono ?_
        rintro e w1 ⟨rfl, nq, rfl⟩
        rw [hgv.out]
        go_wp2_with fail
        refine (text_out gn m c _ (by exact hcm) hq).mono ?_
        rintro e w1 ⟨rfl, rfl⟩
        go_wp2
        go_ret2
        unfold TkPost
        rw [HT.out]
        exact ⟨rfl, (hr.drewN nq).set1 _, ((Only.refl b w).drewN nq).set 1 _⟩
    · have hgz : gn = 0 ∧ gm = 0 := by
        have hee := Vint.get_err s.data.toList (by rw [hget]; exact hge)
        rw [hget] at hee
        simp at hee
        rcases hee with ⟨x, y, _⟩ | ⟨x, y, _⟩ <;> exact ⟨x, y⟩
      obtain ⟨rfl, rfl⟩ := hgz
      have HT := Lib.hid (tk_get (upto m) s 0 0 ge hget hge)
      have hgv := Lib.hid (gv_err s ge hge hget)
      have hne : (ge == 0) = false := by simpa using hge
      have hne2 : (ge != 0) = true := by simpa using hge
      clear hget hge
      obtain ⟨c0, c1, f0, f1⟩ := hr.cells
      go_enter Try.func25, Try.ntmps25
      go_wp2_with fail
      refine (err_any b s 0 _ hr).mono ?_
      rintro e w1 ⟨rfl, rfl⟩
      go_wp2_with fail
      refine (get_any s _ hs).mono ?_
      rintro e w1 ⟨rfl, nq, rfl⟩
      rw [hgv.out]
      go_wp2
      go_ret2
      unfold TkPost
      rw [HT.out]
      exact ⟨rfl, (hr.drewN nq).set1 _, ((Only.refl b w).drewN nq).set 1 _⟩
  · have HT := Lib.hid (tk_err (upto m) s e0 h0)
    have hne : (e0 != 0) = true := by simpa using h0
    clear h0
    go_enter Try.func25, Try.ntmps25
    go_wp2_with fail
    refine (err_any b s e0 _ hr).mono ?_
    rintro e w1 ⟨rfl, rfl⟩
    go_wp2
    go_ret2
    unfold TkPost
    rw [HT.out]
    exact ⟨rfl, hr, Only.refl _ _⟩
/-- a text: the text, what is left, the error -/
def tx (m : Int) (s : ByteArray) (e : Int) : ByteArray × ByteArray × Int :=
  if (tk (upto m) s e).2.1 = false then (⟨#[]⟩, (tk (upto m) s e).2.2.1, (tk (upto m) s e).2.2.2) else
  if ((tk (upto m) s e).2.2.1.size : Int) < (tk (upto m) s e).1 then (⟨#[]⟩, s, 4) else
  ((tk (upto m) s e).2.2.1.extract 0 (tk (upto m) s e).1.toNat, (tk (upto m) s e).2.2.1.extract (tk (upto m) s e).1.toNat (tk (upto m) s e).2.2.1.size, 0)
theorem tk_cases (m : Int) (s : ByteArray) (e : Int) : (∃ s' e', tk (upto m) s e = (0, false, s', e') ∧ e' ≠ 0) ∨ (∃ (n : Nat) (s' : ByteArray), tk (upto m) s e = ((n : Int), true, s', 0) ∧ e = 0 ∧ s'.size ≤ s.size) := by
  by_cases h0 : e = 0
  · subst h0
    obtain ⟨⟨gn, gm, ge⟩, hget⟩ : ∃ g, Vint.get s.data.toList = g := ⟨_, rfl⟩
    by_cases hge : ge = 0
    · subst hge
      by_cases hp : upto m gn = true
      · right
        have hp2 : 0 ≤ gn := by simp [upto] at hp; exact hp.1
        obtain ⟨n, rfl⟩ := Int.eq_ofNat_of_zero_le hp2
        exact ⟨n, _, tk_yes _ s _ gm hget hp, rfl, by rw [ByteArray.size_extract]; omega⟩
      · left
        exact ⟨s, 3, tk_no _ s gn gm hget (by simpa using hp), by decide⟩
    · left
      exact ⟨s, ge, tk_get _ s gn gm ge hget hge, hge⟩
  · left
    exact ⟨s, e, tk_err _ s e h0, h0⟩
def TextPost (T : TypeId) (b : Nat) (s : ByteArray) (e0 m : Int) (w : World) (e : Ending) (w' : World) : Prop :=
  e = .returned (.string (tx m s e0).1) ∧ Rdr T w' b (tx m s e0).2.1 (tx m s e0).2.2 ∧ Only b w w'
set_option maxHeartbeats 1000000 in
set_option maxRecDepth 100000 in
theorem textr_any (b : Nat) (s : ByteArray) (e0 m : Int) (hs : s.size ≤ 1000000000000) (w : World) (hr : Rdr 53 w b s e0) :
    Calls Try.prog 15 #[.pointer (some ⟨b, 0, none⟩), .int .i64 m] w (TextPost 53 b s e0 m w) := by
  have hal : Below w.heap.size w (w.alloc (.cells #[.int .i64 m] 3)) := (Below.refl _ _).alloc (Nat.le_refl _) _
  obtain ⟨c0, c1, f0, f1⟩ := (hr.keep hal).cells
  have hbl := hr.lt
  rcases tk_cases m s e0 with ⟨s', e', ht, he'⟩ | ⟨n, s', ht, he0, hsz⟩
  · have HX := Lib.hid (show tx m s e0 = (⟨#[]⟩, s', e') by simp [tx, ht])
    have HT := Lib.hid ht
    clear ht
    go_enter Try.func15, Try.ntmps15
    go_wp2_with fail
    refine (take_text b s e0 m w.heap.size hs _ (hr.keep hal) (by go_simp)).mono ?_
    rintro e w1 ⟨rfl, hr1, ho1⟩
    rw [HT.out] at hr1 ⊢
    dsimp only at hr1 ⊢
    clear c0 c1 f0 f1
    go_wp2
    go_ret
    unfold TextPost
    rw [HX.out]
    exact ⟨rfl, hr1, (Only.below hal).trans ho1⟩
  · by_cases hl : s'.size < n
    · have HX := Lib.hid (show tx m s e0 = (⟨#[]⟩, s, 4) by simp [tx, ht, hl])
      have HT := Lib.hid ht
      clear ht he0
      go_enter Try.func15, Try.ntmps15
      go_wp2_with fail
      refine (take_text b s e0 m w.heap.size hs _ (hr.keep hal) (by go_simp)).mono ?_
      rintro e w1 ⟨rfl, hr1, ho1⟩
      rw [HT.out] at hr1 ⊢
      dsimp only at hr1 ⊢
      clear c0 c1 f0 f1
      obtain ⟨c0, c1, f0, f1⟩ := hr1.cells
      go_wp2
      go_ret
      unfold TextPost
      rw [HX.out]
      exact ⟨rfl, (hr1.set0 s).set1 4, (((Only.below hal).trans ho1).set 0 _).set 1 _⟩
    · have HX := Lib.hid (show tx m s e0 = (s'.extract 0 n, s'.extract n s'.size, 0) by unfold tx; rw [ht]; simp only [Bool.true_eq_false, if_false, Int.toNat_natCast]; rw [if_neg (by omega)])
      have HT := Lib.hid ht
      have hl2 : n ≤ s'.size := by omega
      clear ht he0
      go_enter Try.func15, Try.ntmps15
      go_wp2_with fail
      refine (take_text b s e0 m w.heap.size hs _ (hr.keep hal) (by go_simp)).mono ?_
      rintro e w1 ⟨rfl, hr1, ho1⟩
      rw [HT.out] at hr1 ⊢
      dsimp only at hr1 ⊢
      clear c0 c1 f0 f1
      obtain ⟨c0, c1, f0, f1⟩ := hr1.cells
      go_wp2
      go_ret
      unfold TextPost
      rw [HX.out]
      exact ⟨rfl, hr1.set0 _, ((Only.below hal).trans ho1).set 0 _⟩
set_option maxHeartbeats 1000000 in
set_option maxRecDepth 100000 in
theorem reftextr_any (b : Nat) (s : ByteArray) (e0 m : Int) (hs : s.size ≤ 1000000000000) (w : World) (hr : Rdr 35 w b s e0) :
    Calls Try.prog 16 #[.pointer (some ⟨b, 0, none⟩), .int .i64 m] w (TextPost 35 b s e0 m w) := by
  obtain ⟨c0, c1, f0, f1⟩ := hr.cells
  rcases tk_cases m s e0 with ⟨s', e', ht, he'⟩ | ⟨n, s', ht, he0, hsz⟩
  · have HX := Lib.hid (show tx m s e0 = (⟨#[]⟩, s', e') by simp [tx, ht])
    have HT := Lib.hid ht
    have hne : (e' != 0) = true := by simpa using he'
    clear ht he'
    go_enter Try.func16, Try.ntmps16
    go_wp2_with fail
    refine (refupto_any b s e0 m hs _ hr).mono ?_
    rintro e w1 ⟨rfl, hr1, ho1⟩
    rw [HT.out] at hr1 ⊢
    dsimp only at hr1 ⊢
    clear c0 c1 f0 f1
    obtain ⟨c0, c1, f0, f1⟩ := hr1.cells
    go_wp2
    go_ret
    unfold TextPost
    rw [HX.out]
    exact ⟨rfl, hr1, ho1⟩
  · by_cases hl : s'.size < n
    · have HX := Lib.hid (show tx m s e0 = (⟨#[]⟩, s, 4) by simp [tx, ht, hl])
      have HT := Lib.hid ht
      clear ht he0
      go_enter Try.func16, Try.ntmps16
      go_wp2_with fail
      refine (refupto_any b s e0 m hs _ hr).mono ?_
      rintro e w1 ⟨rfl, hr1, ho1⟩
      rw [HT.out] at hr1 ⊢
      dsimp only at hr1 ⊢
      clear c0 c1 f0 f1
      obtain ⟨c0, c1, f0, f1⟩ := hr1.cells
      go_wp2
      go_ret
      unfold TextPost
      rw [HX.out]
      exact ⟨rfl, (hr1.set0 s).set1 4, (ho1.set 0 _).set 1 _⟩
    · have HX := Lib.hid (show tx m s e0 = (s'.extract 0 n, s'.extract n s'.size, 0) by unfold tx; rw [ht]; simp only [Bool.true_eq_false, if_false, Int.toNat_natCast]; rw [if_neg (by omega)])
      have HT := Lib.hid ht
      have hl2 : n ≤ s'.size := by omega
      clear ht he0
      go_enter Try.func16, Try.ntmps16
      go_wp2_with fail
      refine (refupto_any b s e0 m hs _ hr).mono ?_
      rintro e w1 ⟨rfl, hr1, ho1⟩
      rw [HT.out] at hr1 ⊢
      dsimp only at hr1 ⊢
      clear c0 c1 f0 f1
      obtain ⟨c0, c1, f0, f1⟩ := hr1.cells
      go_wp2
      go_ret
      unfold TextPost
      rw [HX.out]
      exact ⟨rfl, hr1.set0 _, ho1.set 0 _⟩
end Go.Proofs.Ytcdbnabbhlnigaa
