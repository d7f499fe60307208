/- The walks of journal.Read, quiet, ready, leave, Mend, Append: over disks that are ready. -/
import Derived.Test.YtgffoepnkpkhaaaStrs
import Derived.Test.YtgffoepnkpkhaaaKeep
import Derived.Test.YtgffoepnkpkhaaaScan
import Derived.Lib.Builder
namespace Go.Proofs.Ytgffoepnkpkhaaa
open Go.RowKit

/-- a disk that is ready: small, its power on, nothing waits -/
structure Dk.Calm (x : Dk) : Prop where
  s : x.s.size ≤ 1000000
  u : x.u = ⟨#[]⟩
  lo : -1 ≤ x.f
  hi : x.f ≤ 9223372036854775807
  d : x.d = false
theorem Dk.Calm.ok {x : Dk} (h : x.Calm) : x.Ok := by
  have h1 := h.s
  have h2 := h.lo
  have h3 := h.hi
  exact ⟨by omega, by rw [h.u]; decide, by omega, h3⟩
theorem Dk.Calm.uz {x : Dk} (h : x.Calm) : x.u.size = 0 := by rw [h.u]; rfl
theorem Dk.Calm.arg0 {x : Dk} (h : x.Calm) : x.arg = 0 := by
  have h1 := h.s
  have h2 := h.lo
  have h3 := h.uz
  unfold Dk.arg
  rw [if_neg (by omega)]
def ReadPost (s : ByteArray) (w : World) (e : Ending) (w' : World) : Prop :=
  ∃ v, e = .returned (.tuple #[v, .int .i64 (Fr.all s.data.toList).2.1]) ∧ w'.ownsRow w.heap.size 9 1 v (recs (Fr.all s.data.toList).1).length (sv (recs (Fr.all s.data.toList).1)) ∧ Below w.heap.size w w'
set_option maxHeartbeats 400000 in
theorem read_any (x : Dk) (hx : x.s.size ≤ 1000000) (w : World) : Calls Try.prog 42 #[dval x] w (ReadPost x.s w) := by
  obtain ⟨s, u, f, d⟩ := x
  go_enter Try.func42, Try.ntmps42
  go_wp2_with fail
  refine (scan_own s hx _).mono ?_
  rintro e w1 ⟨v, rfl, hs, c1⟩
  have b1 : Below w.heap.size w w1 := ((Below.refl w.heap.size w).alloc (Nat.le_refl _) _).trans (c1.mono (by simp))
  have HS := Lib.hid (own_mono hs (show w.heap.size ≤ _ by simp))
  clear hs c1
  go_wp2
  go_ret2
  exact ⟨v, rfl, HS.out, b1⟩
set_option maxHeartbeats 400000 in
theorem quiet_ok (x : Dk) (hx : x.u = ⟨#[]⟩) (w : World) : Calls Try.prog 62 #[dval x] w fun e w' => e = .returned (.int .i64 0) ∧ Below w.heap.size w w' := by
  obtain ⟨s, u, f, d⟩ := x
  obtain rfl : u = ⟨#[]⟩ := hx
  go_enter Try.func62, Try.ntmps62
  go_wp2
  go_ret
  exact ⟨rfl, (Below.refl _ _).alloc (Nat.le_refl _) _⟩
set_option maxHeartbeats 400000 in
theorem ready1 (x : Dk) (hx : x.Calm) (b : Nat) (w : World) (hb : Held w b x) : Calls Try.prog 66 #[.pointer (some ⟨b, 0, none⟩)] w fun e w' => e = .returned (.int .i64 0) ∧ Below w.heap.size w w' := by
  have HA := Lib.hid hx.arg0
  have HO := Lib.hid hx.ok
  obtain ⟨s, u, f, d⟩ := x
  obtain ⟨p0, p1, p2, p3⟩ := hb.cells
  clear hx hb
  go_enter Try.func66, Try.ntmps66
  go_wp2_with fail
  refine (checkd_any ⟨s, u, f, d⟩ HO.out _).mono ?_
  rintro e w1 ⟨rfl, rfl⟩
  rw [HA.out]
  go_wp2
  go_ret
  exact ⟨rfl, (Below.refl _ _).alloc (Nat.le_refl _) _⟩
set_option maxHeartbeats 400000 in
theorem ready2 (x : Dk) (hx : x.Calm) (b : Nat) (w : World) (hb : Held w b x) : Calls Try.prog 67 #[.pointer (some ⟨b, 0, none⟩)] w fun e w' => e = .returned (.int .i64 0) ∧ Below w.heap.size w w' := by
  have hd := hx.d
  obtain ⟨s, u, f, d⟩ := x
  obtain rfl : d = false := hd
  obtain ⟨p0, p1, p2, p3⟩ := hb.cells
  clear hx hb
  go_enter Try.func67, Try.ntmps67
  go_wp2
  go_ret
  exact ⟨rfl, Below.refl _ _⟩
set_option maxHeartbeats 400000 in
theorem ready3 (x : Dk) (hx : x.Calm) (b : Nat) (w : World) (hb : Held w b x) : Calls Try.prog 68 #[.pointer (some ⟨b, 0, none⟩)] w fun e w' => e = .returned (.int .i64 0) ∧ Below w.heap.size w w' := by
  have hu := hx.u
  obtain ⟨s, u, f, d⟩ := x
  obtain ⟨p0, p1, p2, p3⟩ := hb.cells
  have HU := Lib.hid hu
  clear hx hb hu
  go_enter Try.func68, Try.ntmps68
  go_wp2_with fail
  refine (quiet_ok ⟨s, u, f, d⟩ HU.out _).mono ?_
  rintro e w1 ⟨rfl, b1⟩
  go_wp2
  go_ret
  exact ⟨rfl, b1⟩
/-- the three questions in a row -/
def Asks (W : World) (g b : Nat) : Prop := g < W.heap.size ∧ W.cell? ⟨g, 0, none⟩ = some (.func (.func 66) #[] #[.pointer (some ⟨b, 0, none⟩)]) ∧ W.cell? ⟨g, 1, none⟩ = some (.func (.func 67) #[] #[.pointer (some ⟨b, 0, none⟩)]) ∧ W.cell? ⟨g, 2, none⟩ = some (.func (.func 68) #[] #[.pointer (some ⟨b, 0, none⟩)])
theorem Asks.keep {W W' : World} {g b : Nat} (h : Asks W g b) (hb : Below W.heap.size W W') : Asks W' g b :=
  ⟨Nat.lt_of_lt_of_le h.1 hb.size, (hb.cell (p := ⟨g, 0, none⟩) h.1).trans h.2.1, (hb.cell (p := ⟨g, 1, none⟩) h.1).trans h.2.2.1, (hb.cell (p := ⟨g, 2, none⟩) h.1).trans h.2.2.2⟩
set_option maxHeartbeats 2000000 in
set_option maxRecDepth 100000 in
theorem first_ok (x : Dk) (hx : x.Calm) (g b : Nat) (w : World) (hb : Held w b x) (ha : Asks w g b) :
    Calls Try.prog 65 #[.slice (some ⟨g, 0, none⟩) 3 3] w fun e w' => e = .returned (.int .i64 0) ∧ Below w.heap.size w w' := by
  have HX := Lib.hid hx
  have HB := Lib.hid hb
  have HA := Lib.hid ha
  clear hx hb ha
  go_enter Try.func65, Try.ntmps65
  go_wp2
  go_loopw [8] (fun i wr => ∃ k : Nat, k ≤ 3 ∧ i = .int .i64 k ∧ Below w.heap.size w wr) (fun i _ => 3 - (intOf i).toNat)
  case atStart => exact ⟨0, Nat.zero_le _, rfl, Below.refl _ _⟩
  case round =>
    obtain ⟨k, hk, rfl, hbel⟩ := hrel
    obtain ⟨_, a0, a1, a2⟩ := HA.out.keep hbel
    have HB2 := Lib.hid (HB.out.keep hbel)
    obtain rfl | rfl | rfl | rfl : k = 0 ∨ k = 1 ∨ k = 2 ∨ k = 3 := by omega
    · go_wp2_with fail
      refine (low hbel (ready1 x HX.out b _ HB2.out)).mono ?_
      rintro e w1 ⟨rfl, b1⟩
      go_wp2_with fail
      go_roundw
      case rel => exact ⟨1, by omega, rfl, b1⟩
      case measure => simp [intOf]
    · go_wp2_with fail
      refine (low hbel (ready2 x HX.out b _ HB2.out)).mono ?_
      rintro e w1 ⟨rfl, b1⟩
      go_wp2_with fail
      go_roundw
      case rel => exact ⟨2, by omega, rfl, b1⟩
      case measure => simp [intOf]
    · go_wp2_with fail
      refine (low hbel (ready3 x HX.out b _ HB2.out)).mono ?_
      rintro e w1 ⟨rfl, b1⟩
      go_wp2_with fail
      go_roundw
      case rel => exact ⟨3, by omega, rfl, b1⟩
      case measure => simp [intOf]
    · go_wp2_with fail
      go_ret
      exact ⟨rfl, hbel⟩
set_option maxHeartbeats 1000000 in
set_option maxRecDepth 100000 in
theorem jready_ok (x : Dk) (hx : x.Calm) (w : World) : Calls Try.prog 60 #[dval x] w fun e w' => e = .returned (.int .i64 0) ∧ Below w.heap.size w w' := by
  have HX := Lib.hid hx
  clear hx
  obtain ⟨s, u, f, d⟩ := x
  go_enter Try.func60, Try.ntmps60
  go_wp2_with fail
  refine (first_ok ⟨s, u, f, d⟩ HX.out (w.heap.size + 1) w.heap.size _ ?_ ?_).mono ?_
  · exact heap_alloc2_old _ _ _
  · refine ⟨by simp, ?_, ?_, ?_⟩ <;> (rw [Lib.cell_of_heap (heap_alloc2_new _ _ _)]; rfl)
  rintro e w1 ⟨rfl, c1⟩
  go_wp2_with fail
  go_ret
  exact ⟨rfl, (((Below.refl w.heap.size w).alloc (Nat.le_refl _) _).alloc (by simp) _).trans (c1.mono (by simp; omega))⟩
/-- the first bytes, if there are more -/
def Dk.leave (x : Dk) (n : Int) : Dk × Int := if n = x.s.size then (x, 0) else x.cut n
theorem held_of {W : World} {g : Nat} {cs : Array Value} {x : Dk} (h : W.heap[g]? = some (.cells cs 32 (0, 0))) (hc : cs = dcells x) : Held W g x := by rw [hc] at h; exact h
set_option maxHeartbeats 1000000 in
set_option maxRecDepth 100000 in
theorem leave_any (x : Dk) (hx : x.Ok) (n : Int) (w : World) :
    Calls Try.prog 61 #[dval x, .int .i64 n] w fun e w' => e = .returned (.tuple #[dval (x.leave n).1, .int .i64 (x.leave n).2]) ∧ Below w.heap.size w w' := by
  have HX := Lib.hid hx
  have hs1 := hx.s
  clear hx
  by_cases hn : n = x.s.size
  · rw [show x.leave n = (x, 0) from by unfold Dk.leave; rw [if_pos hn]]
    have hb : (n == (x.s.size : Int)) = true := by simpa using hn
    clear hn
    obtain ⟨s, u, f, d⟩ := x
    dsimp only at hb
    go_enter Try.func61, Try.ntmps61
    go_wp2
    refine bodyPost_ret (v := .tuple #[dval ⟨s, u, f, d⟩, .int .i64 0]) (by simp [results, Try.results61, go_sem]) rfl ⟨rfl, ?_⟩
    repeat (first | exact Below.refl _ _ | refine Below.alloc ?_ (by first | exact Nat.le_refl _ | (simp; done) | (simp; omega)) _)
  · rw [show x.leave n = x.cut n from by unfold Dk.leave; rw [if_neg hn]]
    have hb : (n == (x.s.size : Int)) = false := by simpa using hn
    clear hn
    obtain ⟨s, u, f, d⟩ := x
    dsimp only at hb hs1
    obtain ⟨⟨⟨s2, u2, f2, d2⟩, er⟩, hy⟩ : ∃ y, Dk.cut ⟨s, u, f, d⟩ n = y := ⟨_, rfl⟩
    have HY := Lib.hid hy
    clear hy
    rw [HY.out]
    go_enter Try.func61, Try.ntmps61
    go_wp2_with fail
    refine (cutd_any ⟨s, u, f, d⟩ HX.out n _).mono ?_
    rintro e w1 ⟨rfl, c1⟩
    rw [HY.out]
    dsimp only
    have HH := Lib.hid (show Held w1 (w.heap.size + 1) ⟨⟨#[]⟩, ⟨#[]⟩, 0, false⟩ from Held.keep (heap_alloc2_new w _ _) c1)
    have b1 : Below w.heap.size w w1 := (((Below.refl w.heap.size w).alloc (Nat.le_refl _) _).alloc (by simp) _).trans (c1.mono (by simp; omega))
    clear c1
    go_wp2_with (refine store_dk rfl _ _ rfl rfl w (w.heap.size + 1) ⟨s2, u2, f2, d2⟩ rfl rfl _ HH.out rfl b1 (by omega) ?_; intro W2 P2; obtain ⟨p0, p1, p2, p3⟩ := Held.cells (Put4.held P2))
    exact bodyPost_ret (v := .tuple #[dval ⟨s2, u2, f2, d2⟩, .int .i64 er]) (by simp [results, Try.results61, go_sem, p0, p1, p2, p3]) rfl ⟨rfl, P2.low⟩
/-- what Mend leaves -/
def Dk.mend (x : Dk) : Dk × Int := x.leave (Fr.all x.s.data.toList).2.1
def MendPost (x : Dk) (w : World) (e : Ending) (w' : World) : Prop :=
  ∃ v, e = .returned (.tuple #[dval x.mend.1, v, .int .i64 x.mend.2]) ∧ Strs w' v (if x.mend.2 = 0 then recs (Fr.all x.s.data.toList).1 else []) ∧ Below w.heap.size w w'
theorem strs_nil (w : World) : Strs w (.slice none 0 0) [] := ⟨none, 0, rfl, by simp, by decide, fun h => by simp at h⟩
set_option maxHeartbeats 4000000 in
set_option maxRecDepth 100000 in
theorem mend_any (x : Dk) (hx : x.Calm) (w : World) : Calls Try.prog 41 #[dval x] w (MendPost x w) := by
  have HX := Lib.hid hx
  have hs1 := hx.s
  clear hx
  obtain ⟨⟨⟨s2, u2, f2, d2⟩, er⟩, hy⟩ : ∃ y, x.mend = y := ⟨_, rfl⟩
  have HY := Lib.hid hy
  have HZ : Hid (x.leave (Fr.all x.s.data.toList).2.1 = (⟨s2, u2, f2, d2⟩, er)) := Lib.hid hy
  clear hy
  obtain ⟨s, u, f, d⟩ := x
  dsimp only at hs1
  go_enter Try.func41, Try.ntmps41
  go_wp2_with fail
  refine (jready_ok ⟨s, u, f, d⟩ HX.out _).mono ?_
  rintro e w1 ⟨rfl, c1⟩
  have H0 := Lib.hid (show Held w1 w.heap.size ⟨s, u, f, d⟩ from Held.keep (heap_alloc2_old w _ _) c1)
  have H1 := Lib.hid (show Held w1 (w.heap.size + 1) ⟨⟨#[]⟩, ⟨#[]⟩, 0, false⟩ from Held.keep (heap_alloc2_new w _ _) c1)
  have b1 : Below w.heap.size w w1 := (((Below.refl w.heap.size w).alloc (Nat.le_refl _) _).alloc (by simp) _).trans (c1.mono (by simp; omega))
  clear c1
  obtain ⟨p0, p1, p2, p3⟩ := H0.out.cells
  go_wp2_with fail
  refine (read_any ⟨s, u, f, d⟩ hs1 _).mono ?_
  rintro e w2 ⟨v, rfl, sv2, c2⟩
  have H02 := Lib.hid (H0.out.keep c2)
  have H12 := Lib.hid (H1.out.keep c2)
  have hB := H1.out.lt
  have b2 := b1.trans (c2.mono b1.size)
  have SV2 := Lib.hid sv2
  clear c2 b1 H0 H1 p0 p1 p2 p3 sv2
  obtain ⟨p0, p1, p2, p3⟩ := H02.out.cells
  go_wp2_with fail
  refine (leave_any ⟨s, u, f, d⟩ HX.out.ok _ _).mono ?_
  rintro e w3 ⟨rfl, c3⟩
  rw [HZ.out]
  dsimp only
  have H03 := Lib.hid (H02.out.keep c3)
  have H13 := Lib.hid (H12.out.keep c3)
  have b3 := b2.trans (c3.mono b2.size)
  have SV3 := Lib.hid (own_keep SV2.out c3)
  clear c3 b2 H02 H12 p0 p1 p2 p3 SV2
  have hne1 : w.heap.size + 1 ≠ w.heap.size := by omega
  by_cases he : er = 0
  · obtain rfl := he
    go_wp2_with (first
      | (refine store_dk rfl _ _ rfl rfl w w.heap.size ⟨s2, u2, f2, d2⟩ rfl rfl _ H03.out rfl b3 (Nat.le_refl _) ?_; intro W4 P4; have H14 := Lib.hid (Held.far H13.out P4 hne1); have BL4 := Lib.hid P4; have SV4 := Lib.hid (own_far SV3.out P4 (by omega)); obtain ⟨q0, q1, q2, q3⟩ := Held.cells (Put4.held P4); clear P4)
      | (refine store_dk rfl _ _ rfl rfl w (w.heap.size + 1) ⟨s2, u2, f2, d2⟩ rfl rfl _ H14.out rfl BL4.out.low (by omega) ?_; intro W5 P5; obtain ⟨r0, r1, r2, r3⟩ := Held.cells (Put4.held P5)))
    refine bodyPost_ret (v := .tuple #[dval ⟨s2, u2, f2, d2⟩, v, .int .i64 0]) (by simp [results, Try.results41, go_sem, r0, r1, r2, r3]) rfl ⟨v, ?_, ?_, P5.low⟩
    · rw [HY.out]
    · rw [HY.out, if_pos rfl]
      exact Strs.own (own_far SV4.out P5 (by omega))
  · have hne : (er != 0) = true := by simpa using he
    have HE := Lib.hid he
    clear he
    go_wp2_with (first
      | (refine store_dk rfl _ _ rfl rfl w w.heap.size ⟨s2, u2, f2, d2⟩ rfl rfl _ H03.out rfl b3 (Nat.le_refl _) ?_; intro W4 P4; have H14 := Lib.hid (Held.far H13.out P4 hne1); have BL4 := Lib.hid P4; have SV4 := Lib.hid (own_far SV3.out P4 (by omega)); obtain ⟨q0, q1, q2, q3⟩ := Held.cells (Put4.held P4); clear P4)
      | (refine store_dk rfl _ _ rfl rfl w (w.heap.size + 1) ⟨s2, u2, f2, d2⟩ rfl rfl _ H14.out rfl BL4.out.low (by omega) ?_; intro W5 P5; obtain ⟨r0, r1, r2, r3⟩ := Held.cells (Put4.held P5)))
    refine bodyPost_ret (v := .tuple #[dval ⟨s2, u2, f2, d2⟩, .slice none 0 0, .int .i64 er]) (by simp [results, Try.results41, go_sem, r0, r1, r2, r3]) rfl ⟨.slice none 0 0, ?_, ?_, P5.low⟩
    · rw [HY.out]
    · rw [HY.out, if_neg HE.out]
      exact strs_nil _
/-- a record's frame -/
def frameOf (r : ByteArray) : ByteArray := ⟨(Fr.put r.data.toList).toArray⟩
theorem frameOf_size (r : ByteArray) : (frameOf r).size = 8 + r.size := by
  show (Fr.put r.data.toList).toArray.size = _
  rw [List.size_toArray, Fr.put_len]; simp
/-- what Append leaves of a disk that is ready and whole -/
def Dk.app (x : Dk) (r : ByteArray) : Dk × Int := if (x.write (frameOf r)).2 = 0 then (x.write (frameOf r)).1.sync else x.write (frameOf r)
theorem write_okk {x : Dk} (hx : x.Ok) (t : ByteArray) (ht : t.size ≤ 2000) (hu : x.u.size = 0) (hf : -1 ≤ x.f) : (x.write t).1.Ok := by
  obtain ⟨h1, h2, h3, h4⟩ := hx
  unfold Dk.write
  repeat' split
  · exact ⟨h1, h2, h3, h4⟩
  · exact ⟨h1, h2, h3, h4⟩
  · exact ⟨h1, h2, h3, h4⟩
  · exact ⟨h1, by show (x.u ++ t).size ≤ _; rw [ByteArray.size_append]; omega, by simp, by simp⟩
  · refine ⟨h1, by show (x.u ++ t).size ≤ _; rw [ByteArray.size_append]; omega, ?_, ?_⟩
    · show _ ≤ Dk.less x.f; unfold Dk.less; split <;> omega
    · show Dk.less x.f ≤ _; unfold Dk.less; split <;> omega
set_option maxHeartbeats 4000000 in
set_option maxRecDepth 100000 in
theorem append_ok (x : Dk) (hx : x.Calm) (hw : (Fr.all x.s.data.toList).2.1 = x.s.size) (r : ByteArray) (hr : r.size ≤ 1024) (w : World) :
    Calls Try.prog 44 #[dval x, .string r] w fun e w' => e = .returned (.tuple #[dval (x.app r).1, .int .i64 (x.app r).2]) ∧ Below w.heap.size w w' := by
  have HX := Lib.hid hx
  have hs1 := hx.s
  have HW := Lib.hid hw
  have hfs := frameOf_size r
  have hfs2 : (frameOf r).size ≤ 1032 := by omega
  have HYO := Lib.hid (write_okk hx.ok (frameOf r) (by omega) hx.uz hx.lo)
  have HFP : Hid (fp r = (frameOf r, 0)) := Lib.hid (by unfold fp; rw [if_pos hr]; rfl)
  clear hx hw hfs
  obtain ⟨⟨⟨s2, u2, f2, d2⟩, er⟩, hy⟩ : ∃ y, x.write (frameOf r) = y := ⟨_, rfl⟩
  have HY := Lib.hid hy
  obtain ⟨⟨⟨s3, u3, f3, d3⟩, er3⟩, hz⟩ : ∃ z, Dk.sync ⟨s2, u2, f2, d2⟩ = z := ⟨_, rfl⟩
  have HZ := Lib.hid hz
  have HAP : Hid (x.app r = if er = 0 then (⟨s3, u3, f3, d3⟩, er3) else (⟨s2, u2, f2, d2⟩, er)) := Lib.hid (by unfold Dk.app; rw [hy]; dsimp only; rw [hz])
  rw [hy] at HYO
  clear hy hz
  obtain ⟨s, u, f, d⟩ := x
  dsimp only at hs1 HYO HW
  rw [HAP.out]
  clear HAP
  go_enter Try.func44, Try.ntmps44
  go_wp2_with fail
  refine (fput_any r (by unfold maxLen; omega) _).mono ?_
  rintro e w1 ⟨rfl, c1⟩
  rw [HFP.out]
  dsimp only
  have H0 := Lib.hid (show Held w1 w.heap.size ⟨s, u, f, d⟩ from Held.keep (heap_alloc2_old w _ _) c1)
  have H1 := Lib.hid (show Held w1 (w.heap.size + 1) ⟨⟨#[]⟩, ⟨#[]⟩, 0, false⟩ from Held.keep (heap_alloc2_new w _ _) c1)
  have b1 : Below w.heap.size w w1 := (((Below.refl w.heap.size w).alloc (Nat.le_refl _) _).alloc (by simp) _).trans (c1.mono (by simp; omega))
  clear c1
  generalize frameOf r = fr at *
  obtain ⟨p0, p1, p2, p3⟩ := H0.out.cells
  go_wp2_with fail
  refine (read_any ⟨s, u, f, d⟩ hs1 _).mono ?_
  rintro e w2 ⟨v, rfl, own2, c2⟩
  clear own2
  rw [HW.out]
  have H02 := Lib.hid (H0.out.keep c2)
  have H12 := Lib.hid (H1.out.keep c2)
  have b2 := b1.trans (c2.mono b1.size)
  clear c2 b1 H0 H1 p0 p1 p2 p3
  obtain ⟨p0, p1, p2, p3⟩ := H02.out.cells
  go_wp2_with fail
  refine (quiet_ok ⟨s, u, f, d⟩ HX.out.u _).mono ?_
  rintro e w3 ⟨rfl, c3⟩
  have H03 := Lib.hid (H02.out.keep c3)
  have H13 := Lib.hid (H12.out.keep c3)
  have b3 := b2.trans (c3.mono b2.size)
  clear c3 b2 H02 H12 p0 p1 p2 p3
  obtain ⟨p0, p1, p2, p3⟩ := H03.out.cells
  go_wp2_with fail
  refine (write_any ⟨s, u, f, d⟩ HX.out.ok fr (by omega) _).mono ?_
  rintro e w4 ⟨rfl, c4⟩
  rw [HY.out]
  dsimp only
  have H04 := Lib.hid (H03.out.keep c4)
  have H14 := Lib.hid (H13.out.keep c4)
  have b4 := b3.trans (c4.mono b3.size)
  clear c4 b3 H03 H13 p0 p1 p2 p3
  have hne1 : w.heap.size + 1 ≠ w.heap.size := by omega
  by_cases he : er = 0
  · obtain rfl := he
    go_wp2_with (refine store_dk rfl _ _ rfl rfl w w.heap.size ⟨s2, u2, f2, d2⟩ rfl rfl _ H04.out rfl b4 (Nat.le_refl _) ?_; intro W5 P5; have H15 := Lib.hid (Held.far H14.out P5 hne1); have BL5 := Lib.hid P5.low; obtain ⟨q0, q1, q2, q3⟩ := Held.cells (Put4.held P5); clear P5)
    refine (sync_any ⟨s2, u2, f2, d2⟩ HYO.out _).mono ?_
    rintro e w6 ⟨rfl, c6⟩
    rw [HZ.out]
    dsimp only
    have H16 := Lib.hid (H15.out.keep c6)
    have b6 := BL5.out.trans (c6.mono BL5.out.size)
    clear c6 H15 q0 q1 q2 q3
    go_wp2_with (refine store_dk rfl _ _ rfl rfl w (w.heap.size + 1) ⟨s3, u3, f3, d3⟩ rfl rfl _ H16.out rfl b6 (by omega) ?_; intro W7 P7; obtain ⟨r0, r1, r2, r3⟩ := Held.cells (Put4.held P7))
    exact bodyPost_ret (v := .tuple #[dval ⟨s3, u3, f3, d3⟩, .int .i64 er3]) (by simp [results, Try.results44, go_sem, r0, r1, r2, r3]) rfl ⟨rfl, P7.low⟩
  · have hne : (er != 0) = true := by simpa using he
    have HE := Lib.hid he
    clear he
    go_wp2_with (first
      | (refine store_dk rfl _ _ rfl rfl w w.heap.size ⟨s2, u2, f2, d2⟩ rfl rfl _ H04.out rfl b4 (Nat.le_refl _) ?_; intro W5 P5; have H15 := Lib.hid (Held.far H14.out P5 hne1); have BL5 := Lib.hid P5.low; obtain ⟨q0, q1, q2, q3⟩ := Held.cells (Put4.held P5); clear P5)
      | (refine store_dk rfl _ _ rfl rfl w (w.heap.size + 1) ⟨s2, u2, f2, d2⟩ rfl rfl _ H15.out rfl BL5.out (by omega) ?_; intro W7 P7; obtain ⟨r0, r1, r2, r3⟩ := Held.cells (Put4.held P7)))
    exact bodyPost_ret (v := .tuple #[dval ⟨s2, u2, f2, d2⟩, .int .i64 er]) (by simp [results, Try.results44, go_sem, r0, r1, r2, r3]) rfl ⟨rfl, P7.low⟩
end Go.Proofs.Ytgffoepnkpkhaaa
