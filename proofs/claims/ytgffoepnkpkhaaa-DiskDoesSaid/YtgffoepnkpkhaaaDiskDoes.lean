/- DiskDoes holds for every input: what Write, Sync and Cut do to any disk is what the reference does; no condition. -/
import Derived.Test.YtgffoepnkpkhaaaBase
import Derived.Test.YtgffoepnkpkhaaaBaseD
import Derived.Test.YtgffoepnkpkhaaaHeld
namespace Go.Proofs.Ytgffoepnkpkhaaa.diskDoes
open Go.ChangeShapes Go.WideShapes Go.ChangeAt Go.RowKit
open Go.ChangeMaps (open_string shut_string)

set_option maxHeartbeats 4000000 in
theorem good (s u : ByteArray) (f : Int) (d : Bool) (a1 : ByteArray) (a2 : Int) (hs : s.size ≤ 1500) (hu : u.size ≤ 1500) (hf1 : -9223372036854775808 ≤ f) (hf2 : f ≤ 9223372036854775807) (ht : a1.size ≤ 300) (w : World) :
    Calls Try.prog 7 #[.agg #[.string s, .string u, .int .i64 f, .bool d], .string a1, .int .i64 a2] w fun e w' => e = .returned (.bool true) ∧ Below w.heap.size w w' := by
  have hok : Dk.Ok ⟨s, u, f, d⟩ := ⟨by show s.size ≤ _; omega, by show u.size ≤ _; omega, hf1, hf2⟩
  obtain ⟨⟨⟨s1, u1, f1, d1⟩, e1⟩, h1⟩ : ∃ r, Dk.write ⟨s, u, f, d⟩ a1 = r := ⟨_, rfl⟩
  obtain ⟨⟨⟨s2, u2, f2, d2⟩, e2⟩, h2⟩ : ∃ r, Dk.sync ⟨s, u, f, d⟩ = r := ⟨_, rfl⟩
  obtain ⟨⟨⟨s3, u3, f3, d3⟩, e3⟩, h3⟩ : ∃ r, Dk.cut ⟨s, u, f, d⟩ a2 = r := ⟨_, rfl⟩
  have H1 := Lib.hid h1
  have H2 := Lib.hid h2
  have H3 := Lib.hid h3
  clear h1 h2 h3
  go_enter Try.func7, Try.ntmps7
  go_wp2_with fail
  refine (few_any ⟨s, u, f, d⟩ (by show s.size ≤ _; unfold maxLen; omega) (by show u.size ≤ _; unfold maxLen; omega) _).mono ?_
  rintro e x0 ⟨rfl, rfl⟩
  rw [show decide ((⟨s, u, f, d⟩ : Dk).s.size ≤ 1500 ∧ (⟨s, u, f, d⟩ : Dk).u.size ≤ 1500) = true from by simp; omega]
  have HD : Held ((w.alloc (.cells (dcells ⟨s, u, f, d⟩) 32)).alloc (.cells (dcells ⟨s, u, f, d⟩) 32)) w.heap.size ⟨s, u, f, d⟩ := (Held.new w _).alloc _
  have b0 : Below w.heap.size w ((w.alloc (.cells (dcells ⟨s, u, f, d⟩) 32)).alloc (.cells (dcells ⟨s, u, f, d⟩) 32)) := ((Below.refl _ _).alloc (Nat.le_refl _) _).alloc (by simp) _
  dsimp only [dcells] at HD b0 ⊢
  generalize ((w.alloc (.cells #[.string s, .string u, .int .i64 f, .bool d] 32)).alloc (.cells #[.string s, .string u, .int .i64 f, .bool d] 32)) = x1 at *
  have hlt := HD.lt
  obtain ⟨q0, q1, q2, q3⟩ := HD.cells
  generalize hg0 : w.heap.size = g0 at *
  have HG0 := Lib.hid hg0
  clear hg0
  go_wp2_with fail
  refine (write_any ⟨s, u, f, d⟩ hok a1 (by omega) _).mono ?_
  rintro e y1 ⟨rfl, c1⟩
  rw [H1.out]
  dsimp only [dval]
  have HDn := HD.keep c1
  have bn : Below g0 w y1 := b0.trans (c1.mono (Nat.le_of_lt HD.lt))
  clear q0 q1 q2 q3 c1 HD b0 
  have HD := HDn
  have bb := bn
  clear HDn bn 
  have hlt1 := HD.lt
  obtain ⟨q0, q1, q2, q3⟩ := HD.cells
  go_wp2_with fail
  refine (refwrite_any ⟨s, u, f, d⟩ hok a1 (by omega) _).mono ?_
  rintro e y2 ⟨rfl, c2⟩
  rw [H1.out]
  dsimp only [dval]
  have HDn := (HD.alloc _).keep c2
  have R1n := (Held.new _ ⟨s1, u1, f1, d1⟩).keep c2
  have bn : Below g0 w y2 := (bb.alloc (by have := HD.lt; omega) _).trans (c2.mono (by have := HD.lt; simp; omega))
  clear q0 q1 q2 q3 c2 HD bb 
  have HD := HDn
  have R1 := R1n
  have bb := bn
  clear HDn bn R1n
  have hlt2 := HD.lt
  obtain ⟨q0, q1, q2, q3⟩ := HD.cells
  go_wp2_with fail
  refine (sync_any ⟨s, u, f, d⟩ hok _).mono ?_
  rintro e y3 ⟨rfl, c3⟩
  rw [H2.out]
  dsimp only [dval]
  have HDn := (HD.alloc _).keep c3
  have R1n := (R1.alloc _).keep c3
  have R2n := (Held.new _ ⟨s1, u1, f1, d1⟩).keep c3
  have bn : Below g0 w y3 := (bb.alloc (by have := HD.lt; omega) _).trans (c3.mono (by have := HD.lt; simp; omega))
  clear q0 q1 q2 q3 c3 HD bb R1
  have HD := HDn
  have R1 := R1n
  have R2 := R2n
  have bb := bn
  clear HDn bn R1n R2n
  have hlt3 := HD.lt
  obtain ⟨q0, q1, q2, q3⟩ := HD.cells
  go_wp2_with fail
  refine (refsync_any ⟨s, u, f, d⟩ hok _).mono ?_
  rintro e y4 ⟨rfl, c4⟩
  rw [H2.out]
  dsimp only [dval]
  have HDn := (HD.alloc _).keep c4
  have R1n := (R1.alloc _).keep c4
  have R2n := (R2.alloc _).keep c4
  have R3n := (Held.new _ ⟨s2, u2, f2, d2⟩).keep c4
  have bn : Below g0 w y4 := (bb.alloc (by have := HD.lt; omega) _).trans (c4.mono (by have := HD.lt; simp; omega))
  clear q0 q1 q2 q3 c4 HD bb R1 R2
  have HD := HDn
  have R1 := R1n
  have R2 := R2n
  have R3 := R3n
  have bb := bn
  clear HDn bn R1n R2n R3n
  have hlt4 := HD.lt
  obtain ⟨q0, q1, q2, q3⟩ := HD.cells
  go_wp2_with fail
  refine (cutd_any ⟨s, u, f, d⟩ hok a2 _).mono ?_
  rintro e y5 ⟨rfl, c5⟩
  rw [H3.out]
  dsimp only [dval]
  have HDn := (HD.alloc _).keep c5
  have R1n := (R1.alloc _).keep c5
  have R2n := (R2.alloc _).keep c5
  have R3n := (R3.alloc _).keep c5
  have R4n := (Held.new _ ⟨s2, u2, f2, d2⟩).keep c5
  have bn : Below g0 w y5 := (bb.alloc (by have := HD.lt; omega) _).trans (c5.mono (by have := HD.lt; simp; omega))
  clear q0 q1 q2 q3 c5 HD bb R1 R2 R3
  have HD := HDn
  have R1 := R1n
  have R2 := R2n
  have R3 := R3n
  have R4 := R4n
  have bb := bn
  clear HDn bn R1n R2n R3n R4n
  have hlt5 := HD.lt
  obtain ⟨q0, q1, q2, q3⟩ := HD.cells
  go_wp2_with fail
  refine (refcut_any ⟨s, u, f, d⟩ hok a2 _).mono ?_
  rintro e y6 ⟨rfl, c6⟩
  rw [H3.out]
  dsimp only [dval]
  have HDn := (HD.alloc _).keep c6
  have R1n := (R1.alloc _).keep c6
  have R2n := (R2.alloc _).keep c6
  have R3n := (R3.alloc _).keep c6
  have R4n := (R4.alloc _).keep c6
  have R5n := (Held.new _ ⟨s3, u3, f3, d3⟩).keep c6
  have bn : Below g0 w y6 := (bb.alloc (by have := HD.lt; omega) _).trans (c6.mono (by have := HD.lt; simp; omega))
  clear q0 q1 q2 q3 c6 HD bb R1 R2 R3 R4
  have HD := HDn
  have R1 := R1n
  have R2 := R2n
  have R3 := R3n
  have R4 := R4n
  have R5 := R5n
  have bb := bn
  clear HDn bn R1n R2n R3n R4n R5n
  have hlt6 := HD.lt
  obtain ⟨q0, q1, q2, q3⟩ := HD.cells
  go_wp2_with fail
  refine (awake9_any _).mono ?_
  rintro e y7 ⟨rfl, c7⟩
  have R6 := (Held.new y6 ⟨s3, u3, f3, d3⟩).keep c7
  have R1n := (R1.alloc _).keep c7
  have R2n := (R2.alloc _).keep c7
  have R3n := (R3.alloc _).keep c7
  have R4n := (R4.alloc _).keep c7
  have R5n := (R5.alloc _).keep c7
  have bn : Below g0 w y7 := (bb.alloc (by have := HD.lt; omega) _).trans (c7.mono (by have := HD.lt; simp; omega))
  clear q0 q1 q2 q3 c7 HD bb R1 R2 R3 R4 R5
  obtain ⟨p10, p11, p12, p13⟩ := R1n.cells
  obtain ⟨p20, p21, p22, p23⟩ := R2n.cells
  obtain ⟨p30, p31, p32, p33⟩ := R3n.cells
  obtain ⟨p40, p41, p42, p43⟩ := R4n.cells
  obtain ⟨p50, p51, p52, p53⟩ := R5n.cells
  obtain ⟨p60, p61, p62, p63⟩ := R6.cells
  generalize y1.heap.size = z1 at *
  generalize y2.heap.size = z2 at *
  generalize y3.heap.size = z3 at *
  generalize y4.heap.size = z4 at *
  generalize y5.heap.size = z5 at *
  generalize y6.heap.size = z6 at *
  clear R1n R2n R3n R4n R5n R6
  go_wp2_with fail
  go_ret
  exact ⟨rfl, by rw [HG0.out]; exact bn⟩
set_option maxHeartbeats 1000000 in
theorem walk (s u : ByteArray) (f : Int) (d : Bool) (a1 : ByteArray) (a2 : Int) (ws : s.size ≤ maxLen) (wu : u.size ≤ maxLen) (wf : (Lit.int .i64 f).wf = true) (w1 : a1.size ≤ maxLen) (w2 : (Lit.int .i64 a2).wf = true) (w : World) :
    Calls Try.prog 7 #[.agg #[.string s, .string u, .int .i64 f, .bool d], .string a1, .int .i64 a2] w fun e w' => e = .returned (.bool true) ∧ Below w.heap.size w w' := by
  have hf := bounds_i64 wf
  clear w2 wf
  by_cases hc : s.size ≤ 1500 ∧ u.size ≤ 1500
  · by_cases hl : a1.size ≤ 300
    · exact good s u f d a1 a2 hc.1 hc.2 hf.1 hf.2 hl w
    · have hcd : decide (s.size ≤ 1500 ∧ u.size ≤ 1500) = true := by simpa using hc
      have HC := Lib.hid hcd
      clear hc hcd
      unfold maxLen at w1
      go_enter Try.func7, Try.ntmps7
      go_wp2_with fail
      refine (few_any ⟨s, u, f, d⟩ ws wu _).mono ?_
      rintro e x0 ⟨rfl, rfl⟩
      rw [show decide ((⟨s, u, f, d⟩ : Dk).s.size ≤ 1500 ∧ (⟨s, u, f, d⟩ : Dk).u.size ≤ 1500) = true from HC.out]
      go_wp2_with fail
      refine (awake9_any _).mono ?_
      rintro e x1 ⟨rfl, c1⟩
      go_wp2_with fail
      go_ret
      exact ⟨rfl, (((Below.refl _ _).alloc (Nat.le_refl _) _).alloc (by simp) _).trans (c1.mono (by simp; omega))⟩
  · have hcd : decide (s.size ≤ 1500 ∧ u.size ≤ 1500) = false := by simpa using hc
    have HC := Lib.hid hcd
    clear hc hcd
    go_enter Try.func7, Try.ntmps7
    go_wp2_with fail
    refine (few_any ⟨s, u, f, d⟩ ws wu _).mono ?_
    rintro e x0 ⟨rfl, rfl⟩
    rw [show decide ((⟨s, u, f, d⟩ : Dk).s.size ≤ 1500 ∧ (⟨s, u, f, d⟩ : Dk).u.size ≤ 1500) = false from HC.out]
    go_wp2_with fail
    refine (awake9_any _).mono ?_
    rintro e x1 ⟨rfl, c1⟩
    go_wp2_with fail
    go_ret
    exact ⟨rfl, (((Below.refl _ _).alloc (Nat.le_refl _) _).alloc (by simp) _).trans (c1.mono (by simp; omega))⟩

set_option maxRecDepth 100000 in
theorem lifted (os : Os) (started : os.Started) (H : Type) (enc : TypeId × Value → H) :
    ReturnsInHanded {} Try.checked os 7 .any (Rows.diskDoesSpec.pre6 enc Try.prog Try.f7 Rows.diskDoesRow.domain false) (Rows.diskDoesSpec.post enc Try.prog Try.f7 false true false false) := by
  refine returnsInHanded_of_change (C := Try.checked) own started (by kernel_rfl) Try.func7
    (ChangeSpec.witness6 (enc := enc) (C := Try.checked) false ⟨#[], #[.agg #[.string ByteArray.empty, .string ByteArray.empty, .int .i64 0, .bool false], .string ByteArray.empty, .int .i64 0], []⟩ 8 (by kernel_rfl) (by kernel_rfl) (by kernel_rfl) (by kernel_rfl)) ?_
  intro W base args ds gs before hval0 hW hcnd _
  have hval : ∀ (j : Nat) t v, Try.f7.params[j]? = some t → args[j]? = some v → Value.okWide Try.prog W .any base t v := hval0
  have hW' := hW
  obtain ⟨p, q, hA0, hV, rfl, hfz, hnd⟩ := hW
  have hA : DataW.TrodAll enc Try.prog W 0 (fun _ => true) true Try.f7.params.toList args.toList ds p := hA0
  rw [Try.params7] at hA hval
  obtain ⟨v0, vs0, d0, ds0, p0, q0, hargs, rfl, rfl, h0, r0⟩ := trodAll_cons hA
  obtain ⟨v1, vs1, d1, ds1, p1, q1, rfl, rfl, rfl, h1, r1⟩ := trodAll_cons r0
  obtain ⟨v2, vs2, d2, ds2, p2, q2, rfl, rfl, rfl, h2, r2⟩ := trodAll_cons r1
  obtain ⟨rfl, rfl, rfl⟩ := trodAll_nil r2
  obtain rfl : args = #[v0, v1, v2] := by cases args; simp_all
  obtain ⟨rfl, rfl⟩ := trodVars_none hV
  obtain ⟨s0, u0, f0, q0, rfl, rfl, rfl, ws0, wu0, wf0⟩ := open_disk (hval 0 32 v0 rfl rfl) h0
  obtain ⟨a1, rfl, rfl, rfl, w1⟩ := open_string Try.underlying9 (hval 1 9 v1 rfl rfl) h1
  obtain ⟨a2, rfl, rfl, rfl, w2⟩ := open_int Try.underlying3 (hval 2 3 v2 rfl rfl) h2
  clear hA0 hval0
  simp only [List.append_nil] at hW'
  refine (walk s0 u0 f0 q0 a1 a2 ws0 wu0 wf0 w1 w2 W).mono fun e W' ⟨he, hg⟩ => ?_
  subst he
  exact ⟨_, rfl, post_law (pa := []) (pv := []) hW' (fun _ _ _ => (trodAll_cons_mk (shut_bool Try.underlying4 _) trodAll_mk0)) (fun sp _ => (trodAll_cons_mk (shut_disk ws0 wu0 wf0) (trodAll_cons_mk (shut_string Try.underlying9 w1) (trodAll_cons_mk (shut_int Try.underlying3 w2) trodAll_mk0)))) (fun _ _ => rfl) rfl
    hg (ok_one (by kernel_rfl) rfl (okWide_bool_mk Try.underlying4 _))⟩

theorem over : Rows.diskDoesRow.holds Try.pinned (OpenSpec.ofChange Rows.diskDoesSpec) :=
  OpenClaim.holds_of_wide 7 Try.f7 rfl rfl rfl rfl rfl rfl rfl ⟨rfl, rfl, rfl, rfl, rfl⟩ rfl rfl rfl rfl rfl (by kernel_rfl) Try.func7 (by kernel_rfl)
    (of_decide_eq_true (by kernel_rfl)) (by unfold Func.isWrapper; first | (rw [if_pos (by decide +kernel)]; kernel_rfl) | (rw [if_neg (by decide +kernel)]; exact ⟨rfl, rfl⟩))
    (fun os started H enc _ => lifted os started H enc)

theorem proved : Rows.DiskDoesSaid :=
  over
end Go.Proofs.Ytgffoepnkpkhaaa.diskDoes
#print axioms Go.Proofs.Ytgffoepnkpkhaaa.diskDoes.proved
