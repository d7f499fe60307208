/- DiskCrashes holds for every input: what is left behind a loss of power is what was synced, and a beginning of what waited; no condition. -/
import Derived.Test.YtgffoepnkpkhaaaBase
import Derived.Test.YtgffoepnkpkhaaaBaseD
import Derived.Test.YtgffoepnkpkhaaaHeld
import Derived.IntWalk
namespace Go.Proofs.Ytgffoepnkpkhaaa.diskCrashes
open Go.ChangeShapes Go.WideShapes Go.ChangeAt Go.RowKit
open Go.ChangeMaps (open_string shut_string)

theorem low {P : Program} {f : FuncId} {args : Array Value} {w0 W : World} {R : Ending} (hb : Below w0.heap.size w0 W) (h : Calls P f args W fun e w' => e = R ∧ Below W.heap.size W w') :
    Calls P f args W fun e w' => e = R ∧ Below w0.heap.size w0 w' := h.mono fun _ _ ⟨he, hc⟩ => ⟨he, hb.trans (hc.mono hb.size)⟩
/-- three disks in blocks of their own, over a world that writes nothing old -/
def Three (w0 : World) (g a b : Nat) (x y z : Dk) (W : World) : Prop := Below w0.heap.size w0 W ∧ Held W g x ∧ Held W a y ∧ Held W b z
theorem Three.keep {w0 W W' : World} {g a b : Nat} {x y z : Dk} (h : Three w0 g a b x y z W) (hb : Below W.heap.size W W') : Three w0 g a b x y z W' :=
  ⟨h.1.trans (hb.mono h.1.size), h.2.1.keep hb, h.2.2.1.keep hb, h.2.2.2.keep hb⟩
theorem Three.drew {w0 W : World} {g a b : Nat} {x y z : Dk} (h : Three w0 g a b x y z W) : Three w0 g a b x y z W.drew := ⟨h.1.drew, h.2.1, h.2.2.1, h.2.2.2⟩
theorem Three.all {w0 W : World} {g a b : Nat} {s u s1 u1 s2 u2 : ByteArray} {f f1 f2 : Int} {d d1 d2 : Bool} (h : Three w0 g a b ⟨s, u, f, d⟩ ⟨s1, u1, f1, d1⟩ ⟨s2, u2, f2, d2⟩ W) :
    Three w0 g a b ⟨s, u, f, d⟩ ⟨s1, u1, f1, d1⟩ ⟨s2, u2, f2, d2⟩ W ∧ W.cell? ⟨g, 0, none⟩ = some (.string s) ∧ W.cell? ⟨g, 1, none⟩ = some (.string u) ∧ W.cell? ⟨g, 2, none⟩ = some (.int .i64 f) ∧ W.cell? ⟨g, 3, none⟩ = some (.bool d) ∧ W.cell? ⟨a, 0, none⟩ = some (.string s1) ∧ W.cell? ⟨a, 1, none⟩ = some (.string u1) ∧ W.cell? ⟨a, 2, none⟩ = some (.int .i64 f1) ∧ W.cell? ⟨a, 3, none⟩ = some (.bool d1) ∧ W.cell? ⟨b, 0, none⟩ = some (.string s2) ∧ W.cell? ⟨b, 1, none⟩ = some (.string u2) ∧ W.cell? ⟨b, 2, none⟩ = some (.int .i64 f2) ∧ W.cell? ⟨b, 3, none⟩ = some (.bool d2) := by
  obtain ⟨p0, p1, p2, p3⟩ := h.2.1.cells
  obtain ⟨q0, q1, q2, q3⟩ := h.2.2.1.cells
  obtain ⟨r0, r1, r2, r3⟩ := h.2.2.2.cells
  exact ⟨h, p0, p1, p2, p3, q0, q1, q2, q3, r0, r1, r2, r3⟩
theorem bytes_low (x : Dk) (hx : x.Ok) (w : World) : Calls Try.prog 23 #[dval x] w fun e w' => e = .returned (.string (x.s ++ x.u)) ∧ Below w.heap.size w w' :=
  (bytesd_any x hx w).mono fun _ _ ⟨he, hw⟩ => ⟨he, by rw [hw]; exact (Below.refl _ _).alloc (Nat.le_refl _) _⟩
theorem check_low (x : Dk) (hx : x.Ok) (w : World) : Calls Try.prog 24 #[dval x] w fun e w' => e = .returned (.int .i64 x.arg) ∧ Below w.heap.size w w' :=
  (checkd_any x hx w).mono fun _ _ ⟨he, hw⟩ => ⟨he, by rw [hw]; exact (Below.refl _ _).alloc (Nat.le_refl _) _⟩
theorem lowT {P : Program} {f : FuncId} {args : Array Value} {w0 W : World} {R : Ending} {g a b : Nat} {x y z : Dk} (ht : Three w0 g a b x y z W) (h : Calls P f args W fun e w' => e = R ∧ Below W.heap.size W w') :
    Calls P f args W fun e w' => e = R ∧ Three w0 g a b x y z w' := h.mono fun _ _ ⟨he, hc⟩ => ⟨he, ht.keep hc⟩
set_option maxHeartbeats 4000000 in
set_option maxRecDepth 100000 in
theorem good (s u : ByteArray) (f : Int) (d : Bool) (n : Int) (hs : s.size ≤ 1500) (hu : u.size ≤ 1500) (hf1 : -9223372036854775808 ≤ f) (hf2 : f ≤ 9223372036854775807) (s1 u1 : ByteArray) (f1 : Int) (d1 : Bool) (e1 : Int) (h1 : Dk.crash ⟨s, u, f, d⟩ n = (⟨s1, u1, f1, d1⟩, e1)) (w : World)
    (HX : (e1 = 1 ∧ Dk.arg ⟨s, u, f, d⟩ = 1) ∨ (e1 = 0 ∧ Dk.arg ⟨s, u, f, d⟩ = 0 ∧ s.size ≤ s1.size ∧ s1.size - s.size ≤ u.size ∧ s1.extract 0 s.size = s ∧ s1.extract s.size s1.size = u.extract 0 (s1.size - s.size))) :
    Calls Try.prog 5 #[.agg #[.string s, .string u, .int .i64 f, .bool d], .int .i64 n] w fun e w' => e = .returned (.bool true) ∧ Below w.heap.size w w' := by
  have hok : Dk.Ok ⟨s, u, f, d⟩ := ⟨by show s.size ≤ _; omega, by show u.size ≤ _; omega, hf1, hf2⟩
  have H1 := Lib.hid h1
  have HX := Lib.hid HX
  clear h1
  go_enter Try.func5, Try.ntmps5
  go_wp2_with fail
  refine (few_any ⟨s, u, f, d⟩ (by show s.size ≤ _; unfold maxLen; omega) (by show u.size ≤ _; unfold maxLen; omega) _).mono ?_
  rintro e x0 ⟨rfl, rfl⟩
  rw [show decide ((⟨s, u, f, d⟩ : Dk).s.size ≤ 1500 ∧ (⟨s, u, f, d⟩ : Dk).u.size ≤ 1500) = true from by simp; omega]
  have HD : Held ((w.alloc (.cells (dcells ⟨s, u, f, d⟩) 32)).alloc (.cells (dcells ⟨s, u, f, d⟩) 32)) w.heap.size ⟨s, u, f, d⟩ := (Held.new w _).alloc _
  have b0 : Below w.heap.size w ((w.alloc (.cells (dcells ⟨s, u, f, d⟩) 32)).alloc (.cells (dcells ⟨s, u, f, d⟩) 32)) := ((Below.refl _ _).alloc (Nat.le_refl _) _).alloc (by simp) _
  dsimp only [dcells] at HD b0 ⊢
  generalize ((w.alloc (.cells #[.string s, .string u, .int .i64 f, .bool d] 32)).alloc (.cells #[.string s, .string u, .int .i64 f, .bool d] 32)) = x1 at *
  have hlt := HD.lt
  obtain ⟨q0, q1, q2, q3⟩ := HD.cells
  have hg0 : w.heap.size ≤ w.heap.size := Nat.le_refl _
  generalize hgg : w.heap.size = g0 at HD hlt q0 q1 q2 q3 hg0 ⊢
  have HGG := Lib.hid hgg
  clear hgg
  go_wp2_with fail
  refine (crashd_any ⟨s, u, f, d⟩ hok n _).mono ?_
  rintro e y1 ⟨rfl, c1⟩
  rw [H1.out]
  dsimp only [dval]
  have HD1 := HD.keep c1
  have b1 := b0.trans (c1.mono b0.size)
  clear HD c1 b0 q0 q1 q2 q3 hlt
  have hlt := HD1.lt
  obtain ⟨q0, q1, q2, q3⟩ := HD1.cells
  go_wp2_with fail
  refine (refcrash_any ⟨s, u, f, d⟩ hok n _).mono ?_
  rintro e y2 ⟨rfl, c2⟩
  rw [H1.out]
  dsimp only [dval]
  have HD2 := (HD1.alloc _).keep c2
  have R2 := (Held.new y1 ⟨s1, u1, f1, d1⟩).keep c2
  have b2 := (b1.alloc b1.size _).trans (c2.mono (by have := b1.size; simp; omega))
  clear HD1 c2 b1 q0 q1 q2 q3 hlt
  have hlt := HD2.lt
  have hlt2 := R2.lt
  obtain ⟨q0, q1, q2, q3⟩ := HD2.cells
  obtain ⟨r0, r1, r2, r3⟩ := R2.cells
  have hT : Three w g0 y1.heap.size y2.heap.size ⟨s, u, f, d⟩ ⟨s1, u1, f1, d1⟩ ⟨s1, u1, f1, d1⟩ (y2.alloc (.cells (dcells ⟨s1, u1, f1, d1⟩) 32)) := ⟨b2.alloc b2.size _, HD2.alloc _, R2.alloc _, Held.new _ _⟩
  dsimp only [dcells] at hT
  go_wp2_with fail
  generalize y2.alloc (.cells #[.string s1, .string u1, .int .i64 f1, .bool d1] 32) = Y at *
  generalize y1.heap.size = ga at *
  generalize y2.heap.size = gb at *
  clear q0 q1 q2 q3 r0 r1 r2 r3 HD2 R2 b2 hlt hlt2 hf1 hf2
  have hsum : ¬ (9223372036854775807 < s.size + u.size) := by omega
  go_region_held3 (fun W' => Three w g0 ga gb ⟨s, u, f, d⟩ ⟨s1, u1, f1, d1⟩ ⟨s1, u1, f1, d1⟩ W' ∧ W'.cell? ⟨g0, 0, none⟩ = some (.string s) ∧ W'.cell? ⟨g0, 1, none⟩ = some (.string u) ∧ W'.cell? ⟨g0, 2, none⟩ = some (.int .i64 f) ∧ W'.cell? ⟨g0, 3, none⟩ = some (.bool d) ∧ W'.cell? ⟨ga, 0, none⟩ = some (.string s1) ∧ W'.cell? ⟨ga, 1, none⟩ = some (.string u1) ∧ W'.cell? ⟨ga, 2, none⟩ = some (.int .i64 f1) ∧ W'.cell? ⟨ga, 3, none⟩ = some (.bool d1) ∧ W'.cell? ⟨gb, 0, none⟩ = some (.string s1) ∧ W'.cell? ⟨gb, 1, none⟩ = some (.string u1) ∧ W'.cell? ⟨gb, 2, none⟩ = some (.int .i64 f1) ∧ W'.cell? ⟨gb, 3, none⟩ = some (.bool d1)) (first | exact Three.all (by assumption) | exact Three.all (Three.drew (by assumption)))
    (first | (go_at_call 23; refine (lowT (‹Three w g0 ga gb ⟨s, u, f, d⟩ ⟨s1, u1, f1, d1⟩ ⟨s1, u1, f1, d1⟩ _ ∧ _›).1 (bytes_low ⟨s, u, f, d⟩ hok _)).mono ?_; rintro e w' ⟨rfl, t1⟩))
  obtain ⟨tt, p0, p1, p2, p3, r0, r1, r2, r3, _⟩ := ‹Three w g0 ga gb ⟨s, u, f, d⟩ ⟨s1, u1, f1, d1⟩ ⟨s1, u1, f1, d1⟩ _ ∧ _›
  clear t1 hT
  rename_i Z _ _ _ _
  rcases HX.out with ⟨he, ha⟩ | ⟨he, ha, hl1, hl2, hx1, hx2⟩
  · have hne : (e1 != 0) = true := by rw [he]; rfl
    have HA := Lib.hid ha
    clear he ha HX
    go_wp2_with fail
    refine (lowT tt (awake9_any _)).mono ?_
    rintro e y3 ⟨rfl, t3⟩
    obtain ⟨_, p0, p1, p2, p3, _⟩ := t3.all
    go_wp2_with fail
    refine (lowT t3 (check_low ⟨s, u, f, d⟩ hok _)).mono ?_
    rintro e y4 ⟨rfl, t4⟩
    rw [HA.out]
    go_wp2_with fail
    go_ret
    exact ⟨rfl, t4.1⟩
  · have hne : (e1 != 0) = false := by rw [he]; rfl
    have HA := Lib.hid ha
    clear he ha HX
    go_wp2_with fail
    generalize hkk : s1.size - s.size = k at *
    have hx3 : (s1.size : Int) - (s.size : Int) = (k : Int) := by omega
    have hx4 : IntKind.i64.wrap ((s1.size : Int) - (s.size : Int)) = (k : Int) := by rw [hx3]; exact IntWalk.i64_in _ (by omega)
    have hx5 : (0 : Int) ≤ (k : Int) := by omega
    have hx6 : (k : Int) ≤ (u.size : Int) := by omega
    have hx7 : (s.size : Int) ≤ (s1.size : Int) := by omega
    have hx8 : (0 : Int) ≤ (s.size : Int) := by omega
    have hx9 : wrap64 ((s1.size : Int) - (s.size : Int)) = (k : Int) := by rw [hx3]; exact IntWalk.wrap64_in _ (by omega)
    have hx10 : (k : Int).toNat = k := by omega
    clear hkk hx3
    clear p0 p1 p2 p3 r0 r1 r2 r3
    go_region_held3 (fun W' => Three w g0 ga gb ⟨s, u, f, d⟩ ⟨s1, u1, f1, d1⟩ ⟨s1, u1, f1, d1⟩ W' ∧ W'.cell? ⟨g0, 0, none⟩ = some (.string s) ∧ W'.cell? ⟨g0, 1, none⟩ = some (.string u) ∧ W'.cell? ⟨g0, 2, none⟩ = some (.int .i64 f) ∧ W'.cell? ⟨g0, 3, none⟩ = some (.bool d) ∧ W'.cell? ⟨ga, 0, none⟩ = some (.string s1) ∧ W'.cell? ⟨ga, 1, none⟩ = some (.string u1) ∧ W'.cell? ⟨ga, 2, none⟩ = some (.int .i64 f1) ∧ W'.cell? ⟨ga, 3, none⟩ = some (.bool d1) ∧ W'.cell? ⟨gb, 0, none⟩ = some (.string s1) ∧ W'.cell? ⟨gb, 1, none⟩ = some (.string u1) ∧ W'.cell? ⟨gb, 2, none⟩ = some (.int .i64 f1) ∧ W'.cell? ⟨gb, 3, none⟩ = some (.bool d1)) (first | exact Three.all (by assumption) | exact Three.all (Three.drew (by assumption)))
      (first | (go_at_call 20; refine (lowT (‹Three w g0 ga gb ⟨s, u, f, d⟩ ⟨s1, u1, f1, d1⟩ ⟨s1, u1, f1, d1⟩ _ ∧ _›).1 (awake9_any _)).mono ?_; rintro e w' ⟨rfl, t1⟩) | (go_at_call 24; refine (lowT (‹Three w g0 ga gb ⟨s, u, f, d⟩ ⟨s1, u1, f1, d1⟩ ⟨s1, u1, f1, d1⟩ _ ∧ _›).1 (check_low ⟨s, u, f, d⟩ hok _)).mono ?_; rintro e w' ⟨rfl, t1⟩; rw [HA.out]))
    obtain ⟨tf, _⟩ := ‹Three w g0 ga gb ⟨s, u, f, d⟩ ⟨s1, u1, f1, d1⟩ ⟨s1, u1, f1, d1⟩ _ ∧ _›
    clear t1
    go_wp2
    go_ret
    exact ⟨rfl, tf.1⟩
theorem ext_left (a b : ByteArray) : (a ++ b).extract 0 a.size = a := by
  apply ByteArray.ext
  simp
theorem ext_right (a b : ByteArray) : (a ++ b).extract a.size (a ++ b).size = b := by
  apply ByteArray.ext
  rw [ByteArray.data_extract, ByteArray.data_append, ByteArray.size_append]
  apply Array.ext'
  have e1 : a.size = a.data.toList.length := by simp
  have e2 : b.size = b.data.toList.length := by simp
  rw [Array.toList_extract, Array.toList_append, List.extract, e1, e2, List.drop_left, List.take_of_length_le (by omega)]
set_option maxHeartbeats 1000000 in
theorem walk (s u : ByteArray) (f : Int) (d : Bool) (n : Int) (ws : s.size ≤ maxLen) (wu : u.size ≤ maxLen) (wf : (Lit.int .i64 f).wf = true) (_w1 : (Lit.int .i64 n).wf = true) (w : World) :
    Calls Try.prog 5 #[.agg #[.string s, .string u, .int .i64 f, .bool d], .int .i64 n] w fun e w' => e = .returned (.bool true) ∧ Below w.heap.size w w' := by
  have hf := bounds_i64 wf
  clear wf
  by_cases hc : s.size ≤ 1500 ∧ u.size ≤ 1500
  · by_cases ha : 1048576 < s.size + u.size ∨ f < -1
    · refine good s u f d n hc.1 hc.2 hf.1 hf.2 s u f d 1 (by simp [Dk.crash, ha]) w (Or.inl ⟨rfl, by simp [Dk.arg, ha]⟩)
    · refine good s u f d n hc.1 hc.2 hf.1 hf.2 (s ++ u.extract 0 (min n.toNat u.size)) ByteArray.empty (-1) false 0 (by simp [Dk.crash, ha]) w (Or.inr ⟨rfl, by simp [Dk.arg, ha], ?_, ?_, ext_left _ _, ?_⟩)
      · rw [ByteArray.size_append]; omega
      · rw [ByteArray.size_append, ByteArray.size_extract]; omega
      · rw [ext_right, ByteArray.size_append, ByteArray.size_extract, show s.size + (min (min n.toNat u.size) u.size - 0) - s.size = min n.toNat u.size by omega]
  · have hcd : decide (s.size ≤ 1500 ∧ u.size ≤ 1500) = false := by simpa using hc
    have HC := Lib.hid hcd
    clear hc hcd
    go_enter Try.func5, Try.ntmps5
    go_wp2_with fail
    refine (few_any ⟨s, u, f, d⟩ ws wu _).mono ?_
    rintro e x0 ⟨rfl, rfl⟩
    rw [show decide ((⟨s, u, f, d⟩ : Dk).s.size ≤ 1500 ∧ (⟨s, u, f, d⟩ : Dk).u.size ≤ 1500) = false from HC.out]
    go_wp2_with fail
    refine (awake9_any _).mono ?_
    rintro e x1 ⟨rfl, c1⟩
    go_wp2_with fail
    go_ret
    exact ⟨rfl, (((Below.refl _ _).alloc (Nat.le_refl _) _).alloc (by simp) _).trans (c1.mono (by simp; omega))⟩

set_option maxRecDepth 100000 in
theorem lifted (os : Os) (started : os.Started) (H : Type) (enc : TypeId × Value → H) :
    ReturnsInHanded {} Try.checked os 5 .any (Rows.diskCrashesSpec.pre6 enc Try.prog Try.f5 Rows.diskCrashesRow.domain false) (Rows.diskCrashesSpec.post enc Try.prog Try.f5 false true false false) := by
  refine returnsInHanded_of_change (C := Try.checked) own started (by kernel_rfl) Try.func5
    (ChangeSpec.witness6 (enc := enc) (C := Try.checked) false ⟨#[], #[.agg #[.string ByteArray.empty, .string ByteArray.empty, .int .i64 0, .bool false], .int .i64 0], []⟩ 8 (by kernel_rfl) (by kernel_rfl) (by kernel_rfl) (by kernel_rfl)) ?_
  intro W base args ds gs before hval0 hW hcnd _
  have hval : ∀ (j : Nat) t v, Try.f5.params[j]? = some t → args[j]? = some v → Value.okWide Try.prog W .any base t v := hval0
  have hW' := hW
  obtain ⟨p, q, hA0, hV, rfl, hfz, hnd⟩ := hW
  have hA : DataW.TrodAll enc Try.prog W 0 (fun _ => true) true Try.f5.params.toList args.toList ds p := hA0
  rw [Try.params5] at hA hval
  obtain ⟨v0, vs0, d0, ds0, p0, q0, hargs, rfl, rfl, h0, r0⟩ := trodAll_cons hA
  obtain ⟨v1, vs1, d1, ds1, p1, q1, rfl, rfl, rfl, h1, r1⟩ := trodAll_cons r0
  obtain ⟨rfl, rfl, rfl⟩ := trodAll_nil r1
  obtain rfl : args = #[v0, v1] := by cases args; simp_all
  obtain ⟨rfl, rfl⟩ := trodVars_none hV
  obtain ⟨s0, u0, f0, q0, rfl, rfl, rfl, ws0, wu0, wf0⟩ := open_disk (hval 0 32 v0 rfl rfl) h0
  obtain ⟨a1, rfl, rfl, rfl, w1⟩ := open_int Try.underlying3 (hval 1 3 v1 rfl rfl) h1
  clear hA0 hval0
  simp only [List.append_nil] at hW'
  refine (walk s0 u0 f0 q0 a1 ws0 wu0 wf0 w1 W).mono fun e W' ⟨he, hg⟩ => ?_
  subst he
  exact ⟨_, rfl, post_law (pa := []) (pv := []) hW' (fun _ _ _ => (trodAll_cons_mk (shut_bool Try.underlying4 _) trodAll_mk0)) (fun sp _ => (trodAll_cons_mk (shut_disk ws0 wu0 wf0) (trodAll_cons_mk (shut_int Try.underlying3 w1) trodAll_mk0))) (fun _ _ => rfl) rfl
    hg (ok_one (by kernel_rfl) rfl (okWide_bool_mk Try.underlying4 _))⟩

theorem over : Rows.diskCrashesRow.holds Try.pinned (OpenSpec.ofChange Rows.diskCrashesSpec) :=
  OpenClaim.holds_of_wide 5 Try.f5 rfl rfl rfl rfl rfl rfl rfl ⟨rfl, rfl, rfl, rfl, rfl⟩ rfl rfl rfl rfl rfl (by kernel_rfl) Try.func5 (by kernel_rfl)
    (of_decide_eq_true (by kernel_rfl)) (by unfold Func.isWrapper; first | (rw [if_pos (by decide +kernel)]; kernel_rfl) | (rw [if_neg (by decide +kernel)]; exact ⟨rfl, rfl⟩))
    (fun os started H enc _ => lifted os started H enc)

theorem proved : Rows.DiskCrashesSaid :=
  over
end Go.Proofs.Ytgffoepnkpkhaaa.diskCrashes
#print axioms Go.Proofs.Ytgffoepnkpkhaaa.diskCrashes.proved
