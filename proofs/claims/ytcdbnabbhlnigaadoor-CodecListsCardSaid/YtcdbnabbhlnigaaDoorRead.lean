/- The walks of the readers, of package num and of the reference: what is read, and what is left. -/
import Derived.Test.YtcdbnabbhlnigaaDoorNum2
namespace Go.Proofs.YtcdbnabbhlnigaaDoor
open Go.RowKit

/-- a reader in block b: what is left, and the first error -/
def Rdr (T : TypeId) (w : World) (b : Nat) (s : ByteArray) (e : Int) : Prop := w.heap[b]? = some (.cells #[.string s, .int .i64 e] T (0, 0))
/-- only block b, of all that was there, may be another -/
structure Only (b : Nat) (w w' : World) : Prop where
  os : w'.os = w.os
  tape : w'.tape = w.tape
  output : w'.output = w.output
  size : w.heap.size ≤ w'.heap.size
  far : ∀ k, k < w.heap.size → k ≠ b → w'.heap[k]? = w.heap[k]?
theorem Only.refl (b : Nat) (w : World) : Only b w w := ⟨rfl, rfl, rfl, Nat.le_refl _, fun _ _ _ => rfl⟩
theorem Only.trans {b : Nat} {u v w : World} (h : Only b u v) (k : Only b v w) : Only b u w :=
  ⟨k.os.trans h.os, k.tape.trans h.tape, k.output.trans h.output, Nat.le_trans h.size k.size, fun i hi hb => (k.far i (Nat.lt_of_lt_of_le hi h.size) hb).trans (h.far i hi hb)⟩
theorem Only.below {b : Nat} {u v : World} (h : Below u.heap.size u v) : Only b u v := ⟨h.os, h.tape, h.output, h.size, fun k hk _ => h.block k hk⟩
theorem Only.drewN {b : Nat} {u v : World} (h : Only b u v) (n : Nat) : Only b u (v.drewN n) := ⟨h.os, h.tape, h.output, h.size, h.far⟩
theorem Only.set {b : Nat} {u v : World} (h : Only b u v) (i : Nat) (x : Value) : Only b u (v.setCell ⟨b, i, none⟩ x) :=
  ⟨h.os, h.tape, h.output, by simpa [World.setCell] using h.size, fun k hk hb => (Below.heap_setCell v ⟨b, i, none⟩ x k hb).trans (h.far k hk hb)⟩
/-- what lay below a fence that the reader's block is not below stays -/
theorem Only.low {b : Nat} {w0 u v : World} (h : Only b u v) (hb : Below w0.heap.size w0 u) (hB : w0.heap.size ≤ b) : Below w0.heap.size w0 v :=
  ⟨h.os.trans hb.os, h.tape.trans hb.tape, h.output.trans hb.output, Nat.le_trans hb.size h.size, fun k hk => (h.far k (Nat.lt_of_lt_of_le hk hb.size) (by omega)).trans (hb.block k hk)⟩
theorem Rdr.cells {T : TypeId} {w : World} {b : Nat} {s : ByteArray} {e : Int} (h : Rdr T w b s e) :
    w.cell? ⟨b, 0, none⟩ = some (.string s) ∧ w.cell? ⟨b, 1, none⟩ = some (.int .i64 e) ∧ w.frozen? ⟨b, 0, none⟩ = false ∧ w.frozen? ⟨b, 1, none⟩ = false := by
  unfold Rdr at h
  refine ⟨?_, ?_, ?_, ?_⟩ <;> simp [World.cell?, World.frozen?, h]
theorem Rdr.lt {T : TypeId} {w : World} {b : Nat} {s : ByteArray} {e : Int} (h : Rdr T w b s e) : b < w.heap.size := by
  unfold Rdr at h
  rcases Nat.lt_or_ge b w.heap.size with h' | h'
  · exact h'
  · simp [Array.getElem?_eq_none h'] at h
theorem Rdr.set0 {T : TypeId} {w : World} {b : Nat} {s : ByteArray} {e : Int} (h : Rdr T w b s e) (s' : ByteArray) : Rdr T (w.setCell ⟨b, 0, none⟩ (.string s')) b s' e := heap_setCell_same w b 0 _ T _ h
theorem Rdr.set1 {T : TypeId} {w : World} {b : Nat} {s : ByteArray} {e : Int} (h : Rdr T w b s e) (e' : Int) : Rdr T (w.setCell ⟨b, 1, none⟩ (.int .i64 e')) b s e' := heap_setCell_same w b 1 _ T _ h
theorem Rdr.drewN {T : TypeId} {w : World} {b : Nat} {s : ByteArray} {e : Int} (h : Rdr T w b s e) (n : Nat) : Rdr T (w.drewN n) b s e := h
theorem Rdr.keep {T : TypeId} {w w' : World} {b : Nat} {s : ByteArray} {e : Int} (h : Rdr T w b s e) (hb : Below w.heap.size w w') : Rdr T w' b s e := (hb.block b h.lt).trans h
theorem Rdr.far {T : TypeId} {w w' : World} {b c : Nat} {s : ByteArray} {e : Int} (h : Rdr T w b s e) (ho : Only c w w') (hc : b ≠ c) : Rdr T w' b s e := (ho.far b h.lt hc).trans h

/-- a number that is as it must be: the number, whether, what is left, the error -/
def tk (p : Int → Bool) (s : ByteArray) (e : Int) : Int × Bool × ByteArray × Int :=
  if e ≠ 0 then (0, false, s, e) else
  if (Vint.get s.data.toList).2.2 ≠ 0 then (0, false, s, (Vint.get s.data.toList).2.2) else
  if p (Vint.get s.data.toList).1 then ((Vint.get s.data.toList).1, true, s.extract (Vint.get s.data.toList).2.1 s.size, 0) else (0, false, s, 3)
def upto (m n : Int) : Bool := decide (0 ≤ n ∧ n ≤ m)
theorem tk_err (p : Int → Bool) (s : ByteArray) (e : Int) (h : e ≠ 0) : tk p s e = (0, false, s, e) := by simp [tk, h]
theorem tk_get (p : Int → Bool) (s : ByteArray) (n : Int) (m : Nat) (e1 : Int) (hg : Vint.get s.data.toList = (n, m, e1)) (h : e1 ≠ 0) : tk p s 0 = (0, false, s, e1) := by simp [tk, hg, h]
theorem tk_yes (p : Int → Bool) (s : ByteArray) (n : Int) (m : Nat) (hg : Vint.get s.data.toList = (n, m, 0)) (h : p n = true) : tk p s 0 = (n, true, s.extract m s.size, 0) := by simp [tk, hg, h]
theorem tk_no (p : Int → Bool) (s : ByteArray) (n : Int) (m : Nat) (hg : Vint.get s.data.toList = (n, m, 0)) (h : p n = false) : tk p s 0 = (0, false, s, 3) := by simp [tk, hg, h]
/-- the post of 'take' -/
def TkPost (p : Int → Bool) (T : TypeId) (b : Nat) (s : ByteArray) (e0 : Int) (w : World) (e : Ending) (w' : World) : Prop :=
  e = .returned (.tuple #[.int .i64 (tk p s e0).1, .bool (tk p s e0).2.1]) ∧ Rdr T w' b (tk p s e0).2.2.1 (tk p s e0).2.2.2 ∧ Only b w w'
set_option maxHeartbeats 400000 in
theorem err_any (b : Nat) (s : ByteArray) (e0 : Int) (w : World) (hr : Rdr 78 w b s e0) :
    Calls Tryd.prog 37 #[.pointer (some ⟨b, 0, none⟩)] w fun e w' => e = .returned (.int .i64 e0) ∧ w = w' := by
  obtain ⟨c0, c1, f0, f1⟩ := hr.cells
  go_enter Tryd.func37, Tryd.ntmps37
  go_wp2
  go_ret
  exact ⟨rfl, rfl⟩
set_option maxHeartbeats 400000 in
theorem left_any (b : Nat) (s : ByteArray) (e0 : Int) (w : World) (hr : Rdr 78 w b s e0) :
    Calls Tryd.prog 47 #[.pointer (some ⟨b, 0, none⟩)] w fun e w' => e = .returned (.int .i64 s.size) ∧ w = w' := by
  obtain ⟨c0, c1, f0, f1⟩ := hr.cells
  go_enter Tryd.func47, Tryd.ntmps47
  go_wp2
  go_ret
  exact ⟨rfl, rfl⟩
/-- the first error, or that something is left -/
def endOf (s : ByteArray) (e : Int) : Int := if e ≠ 0 ∨ s.size = 0 then e else 3
set_option maxHeartbeats 400000 in
theorem end_any (b : Nat) (s : ByteArray) (e0 : Int) (w : World) (hr : Rdr 78 w b s e0) :
    Calls Tryd.prog 31 #[.pointer (some ⟨b, 0, none⟩)] w fun e w' => e = .returned (.int .i64 (endOf s e0)) ∧ w = w' := by
  by_cases h0 : e0 = 0
  · subst h0
    by_cases hs : s.size = 0
    · have he : endOf s 0 = 0 := by simp [endOf, hs]
      rw [he]
      have hsz : ((s.size : Int) == 0) = true := beq_iff_eq.2 (by omega)
      clear he hs
      go_enter Tryd.func31, Tryd.ntmps31
      go_wp2_with fail
      refine (err_any b s 0 _ hr).mono ?_
      rintro e w1 ⟨rfl, rfl⟩
      go_wp2_with fail
      refine (left_any b s 0 _ hr).mono ?_
      rintro e w1 ⟨rfl, rfl⟩
      go_wp2_with fail
      go_ret
      exact ⟨rfl, rfl⟩
    · have he : endOf s 0 = 3 := by simp [endOf, hs]
      rw [he]
      have hsz : ((s.size : Int) == 0) = false := beq_eq_false_iff_ne.2 (by omega)
      clear he hs
      go_enter Tryd.func31, Tryd.ntmps31
      go_wp2_with fail
      refine (err_any b s 0 _ hr).mono ?_
      rintro e w1 ⟨rfl, rfl⟩
      go_wp2_with fail
      refine (left_any b s 0 _ hr).mono ?_
      rintro e w1 ⟨rfl, rfl⟩
      go_wp2_with fail
      go_ret
      exact ⟨rfl, rfl⟩
  · have he : endOf s e0 = e0 := by simp [endOf, h0]
    rw [he]
    have hne : (e0 != 0) = true := by simpa using h0
    clear he h0
    go_enter Tryd.func31, Tryd.ntmps31
    go_wp2_with fail
    refine (err_any b s e0 _ hr).mono ?_
    rintro e w1 ⟨rfl, rfl⟩
    go_wp2_with fail
    go_ret
    exact ⟨rfl, rfl⟩
set_option maxHeartbeats 400000 in
theorem refend_any (b : Nat) (s : ByteArray) (e0 : Int) (w : World) (hr : Rdr 70 w b s e0) :
    Calls Tryd.prog 35 #[.pointer (some ⟨b, 0, none⟩)] w fun e w' => e = .returned (.int .i64 (endOf s e0)) ∧ w = w' := by
  obtain ⟨c0, c1, f0, f1⟩ := hr.cells
  by_cases h0 : e0 = 0
  · subst h0
    by_cases hs : s.size = 0
    · have he : endOf s 0 = 0 := by simp [endOf, hs]
      rw [he]
      have hsl : s.toList = [] := by rw [ByteArray.toList_eq]; exact List.eq_nil_of_length_eq_zero (by simpa using hs)
      have hs2 : (s.toList == ([] : List UInt8)) = true := by rw [hsl]; rfl
      have hs3 : s.toList.isEmpty = true := by rw [hsl]; rfl
      clear he hs hsl
      go_enter Tryd.func35, Tryd.ntmps35
      go_wp2
      go_ret
      exact ⟨rfl, rfl⟩
    · have he : endOf s 0 = 3 := by simp [endOf, hs]
      rw [he]
      have hsl : s.toList ≠ [] := by rw [ByteArray.toList_eq]; exact fun e => hs (by have := congrArg List.length e; simpa using this)
      have hs2 : (s.toList == ([] : List UInt8)) = false := by simpa using hsl
      have hs3 : s.toList.isEmpty = false := by simpa using hsl
      clear he hs hsl
      go_enter Tryd.func35, Tryd.ntmps35
      go_wp2
      go_ret
      exact ⟨rfl, rfl⟩
  · have he : endOf s e0 = e0 := by simp [endOf, h0]
    rw [he]
    have hne : (e0 == 0) = false := by simpa using h0
    clear he h0
    go_enter Tryd.func35, Tryd.ntmps35
    go_wp2
    go_ret
    exact ⟨rfl, rfl⟩
set_option maxHeartbeats 400000 in
theorem yes_any (n : Int) (w : World) : Calls Tryd.prog 52 #[.int .i64 n] w fun e w' => e = .returned (.bool true) ∧ w = w' := by
  go_enter Tryd.func52, Tryd.ntmps52
  go_wp2
  go_ret
  exact ⟨rfl, rfl⟩
set_option maxHeartbeats 400000 in
theorem upto_in (n m : Int) (c : Nat) (w : World) (hc : w.cell? ⟨c, 0, none⟩ = some (.int .i64 m)) (h1 : 0 ≤ n) (h2 : n ≤ m) : Calls Tryd.prog 50 #[.int .i64 n, .pointer (some ⟨c, 0, none⟩)] w fun e w' => e = .returned (.bool true) ∧ w = w' := by
  have hd : decide (n ≤ m) = true := by simpa using h2
  go_enter Tryd.func50, Tryd.ntmps50
  go_wp2
  go_ret
  exact ⟨rfl, rfl⟩
set_option maxHeartbeats 400000 in
theorem upto_out (n m : Int) (c : Nat) (w : World) (hc : w.cell? ⟨c, 0, none⟩ = some (.int .i64 m)) (h : upto m n = false) : Calls Tryd.prog 50 #[.int .i64 n, .pointer (some ⟨c, 0, none⟩)] w fun e w' => e = .returned (.bool false) ∧ w = w' := by
  have h' : ¬ 0 ≤ n ∨ (0 ≤ n ∧ ¬ n ≤ m) := by simp [upto] at h; omega
  clear h
  rcases h' with h1 | ⟨h1, h2⟩
  · have hd : decide (0 ≤ n) = false := by simpa using h1
    go_enter Tryd.func50, Tryd.ntmps50
    go_wp2
    go_ret
    exact ⟨rfl, rfl⟩
  · have hd : decide (n ≤ m) = false := by simpa using h2
    go_enter Tryd.func50, Tryd.ntmps50
    go_wp2
    go_ret
    exact ⟨rfl, rfl⟩
set_option maxHeartbeats 1000000 in
set_option maxRecDepth 100000 in
theorem take_num (b : Nat) (s : ByteArray) (e0 : Int) (hs : s.size ≤ 1000000000000) (w : World) (hr : Rdr 78 w b s e0) :
    Calls Tryd.prog 49 #[.pointer (some ⟨b, 0, none⟩), .func (.func 52) #[] #[]] w (TkPost (fun _ => true) 78 b s e0 w) := by
  by_cases h0 : e0 = 0
  · subst h0
    obtain ⟨⟨gn, gm, ge⟩, hget⟩ : ∃ g, Vint.get s.data.toList = g := ⟨_, rfl⟩
    by_cases hge : ge = 0
    · subst hge
      obtain ⟨_, _, _, hn1, hn2⟩ := Vint.put_get _ _ _ hget
      have hgv := Lib.hid (gv_ok s gn gm hget)
      · have hp : (fun _ : Int => true) gn = true := rfl
        have HT := Lib.hid (tk_yes (fun _ => true) s gn gm hget hp)
        clear hget hp
        obtain ⟨c0, c1, f0, f1⟩ := hr.cells
        go_enter Tryd.func49, Tryd.ntmps49
        go_wp2_with fail
        refine (err_any b s 0 _ hr).mono ?_
        rintro e w1 ⟨rfl, rfl⟩
        go_wp2_with fail
        refine (get_any s _ hs).mono ?_
        rintro e w1 ⟨rfl, nq, rfl⟩
        rw [hgv.out]
        go_wp2_with fail
        refine (yes_any gn _).mono ?_
        rintro e w1 ⟨rfl, rfl⟩
        go_wp2
        go_ret2
        unfold TkPost
        rw [HT.out]
        exact ⟨rfl, (hr.drewN nq).set0 _, ((Only.refl b w).drewN nq).set 0 _⟩
    · have hgz : gn = 0 ∧ gm = 0 := by
        have hee := Vint.get_err s.data.toList (by rw [hget]; exact hge)
        rw [hget] at hee
        simp at hee
        rcases hee with ⟨x, y, _⟩ | ⟨x, y, _⟩ <;> exact ⟨x, y⟩
      obtain ⟨rfl, rfl⟩ := hgz
      have HT := Lib.hid (tk_get (fun _ => true) s 0 0 ge hget hge)
      have hgv := Lib.hid (gv_err s ge hge hget)
      have hne : (ge == 0) = false := by simpa using hge
      have hne2 : (ge != 0) = true := by simpa using hge
      clear hget hge
      obtain ⟨c0, c1, f0, f1⟩ := hr.cells
      go_enter Tryd.func49, Tryd.ntmps49
      go_wp2_with fail
      refine (err_any b s 0 _ hr).mono ?_
      rintro e w1 ⟨rfl, rfl⟩
      go_wp2_with fail
      refine (get_any s _ hs).mono ?_
      rintro e w1 ⟨rfl, nq, rfl⟩
      rw [hgv.out]
      go_wp2
      go_ret2
      unfold TkPost
      rw [HT.out]
      exact ⟨rfl, (hr.drewN nq).set1 _, ((Only.refl b w).drewN nq).set 1 _⟩
  · have HT := Lib.hid (tk_err (fun _ => true) s e0 h0)
    have hne : (e0 != 0) = true := by simpa using h0
    clear h0
    go_enter Tryd.func49, Tryd.ntmps49
    go_wp2_with fail
    refine (err_any b s e0 _ hr).mono ?_
    rintro e w1 ⟨rfl, rfl⟩
    go_wp2
    go_ret2
    unfold TkPost
    rw [HT.out]
    exact ⟨rfl, hr, Only.refl _ _⟩
set_option maxHeartbeats 1000000 in
set_option maxRecDepth 100000 in
theorem take_upto (b : Nat) (s : ByteArray) (e0 : Int) (m : Int) (c : Nat) (hs : s.size ≤ 1000000000000) (w : World) (hr : Rdr 78 w b s e0) (hcm : w.cell? ⟨c, 0, none⟩ = some (.int .i64 m)) :
    Calls Tryd.prog 49 #[.pointer (some ⟨b, 0, none⟩), .func (.func 50) #[] #[.pointer (some ⟨c, 0, none⟩)]] w (TkPost (upto m) 78 b s e0 w) := by
  by_cases h0 : e0 = 0
  · subst h0
    obtain ⟨⟨gn, gm, ge⟩, hget⟩ : ∃ g, Vint.get s.data.toList = g := ⟨_, rfl⟩
    by_cases hge : ge = 0
    · subst hge
      obtain ⟨_, _, _, hn1, hn2⟩ := Vint.put_get _ _ _ hget
      have hgv := Lib.hid (gv_ok s gn gm hget)
      by_cases hp0 : 0 ≤ gn ∧ gn ≤ m
      · have hp : upto m gn = true := by simpa [upto] using hp0
        obtain ⟨hp1, hp2⟩ := hp0
        have HT := Lib.hid (tk_yes (upto m) s gn gm hget hp)
        clear hget hp
        obtain ⟨c0, c1, f0, f1⟩ := hr.cells
        go_enter Tryd.func49, Tryd.ntmps49
        go_wp2_with fail
        refine (err_any b s 0 _ hr).mono ?_
        rintro e w1 ⟨rfl, rfl⟩
        go_wp2_with fail
        refine (get_any s _ hs).mono ?_
        rintro e w1 ⟨rfl, nq, rfl⟩
        rw [hgv.out]
        go_wp2_with fail
        refine (upto_in gn m c _ (by exact hcm) hp1 hp2).mono ?_
        rintro e w1 ⟨rfl, rfl⟩
        go_wp2
        go_ret2
        unfold TkPost
        rw [HT.out]
        exact ⟨rfl, (hr.drewN nq).set0 _, ((Only.refl b w).drewN nq).set 0 _⟩
      · have hp : upto m gn = false := by simpa [upto] using hp0
        have HT := Lib.hid (tk_no (upto m) s gn gm hget hp)
        have hq : upto m gn = false := hp
        clear hget hp
        obtain ⟨c0, c1, f0, f1⟩ := hr.cells
        go_enter Tryd.func49, Tryd.ntmps49
        go_wp2_with fail
        refine (err_any b s 0 _ hr).mono ?_
        rintro e w1 ⟨rfl, rfl⟩
        go_wp2_with fail
        refine (get_any s _ hs).mono ?_
        rintro e w1 ⟨rfl, nq, rfl⟩
        rw [hgv.out]
        go_wp2_with fail
        refine (upto_out gn m c _ (by exact hcm) hq).mono ?_
        rintro e w1 ⟨rfl, rfl⟩
        go_wp2
        go_ret2
        unfold TkPost
        rw [HT.out]
        exact ⟨rfl, (hr.drewN nq).set1 _, ((Only.refl b w).drewN nq).set 1 _⟩
    · have hgz : gn = 0 ∧ gm = 0 := by
        have hee := Vint.get_err s.data.toList (by rw [hget]; exact hge)
        rw [hget] at hee
        simp at hee
        rcases hee with ⟨x, y, _⟩ | ⟨x, y, _⟩ <;> exact ⟨x, y⟩
      obtain ⟨rfl, rfl⟩ := hgz
      have HT := Lib.hid (tk_get (upto m) s 0 0 ge hget hge)
      have hgv := Lib.hid (gv_err s ge hge hget)
      have hne : (ge == 0) = false := by simpa using hge
      have hne2 : (ge != 0) = true := by simpa using hge
      clear hget hge
      obtain ⟨c0, c1, f0, f1⟩ := hr.cells
      go_enter Tryd.func49, Tryd.ntmps49
      go_wp2_with fail
      refine (err_any b s 0 _ hr).mono ?_
      rintro e w1 ⟨rfl, rfl⟩
      go_wp2_with fail
      refine (get_any s _ hs).mono ?_
      rintro e w1 ⟨rfl, nq, rfl⟩
      rw [hgv.out]
      go_wp2
      go_ret2
      unfold TkPost
      rw [HT.out]
      exact ⟨rfl, (hr.drewN nq).set1 _, ((Only.refl b w).drewN nq).set 1 _⟩
  · have HT := Lib.hid (tk_err (upto m) s e0 h0)
    have hne : (e0 != 0) = true := by simpa using h0
    clear h0
    go_enter Tryd.func49, Tryd.ntmps49
    go_wp2_with fail
    refine (err_any b s e0 _ hr).mono ?_
    rintro e w1 ⟨rfl, rfl⟩
    go_wp2
    go_ret2
    unfold TkPost
    rw [HT.out]
    exact ⟨rfl, hr, Only.refl _ _⟩
end Go.Proofs.YtcdbnabbhlnigaaDoor
