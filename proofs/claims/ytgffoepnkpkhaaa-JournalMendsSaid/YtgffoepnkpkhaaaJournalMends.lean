/- JournalMends holds for every input: what is mended has no rest, and stays; no condition. -/
import Derived.Test.YtgffoepnkpkhaaaBase
import Derived.Test.YtgffoepnkpkhaaaJour2
import Derived.Deep.SlicePairs
import Derived.Deep.RegionHeld3
import Derived.IntWalk
namespace Go.Proofs.Ytgffoepnkpkhaaa.journalMends
open Go.ChangeShapes Go.WideShapes Go.ChangeAt Go.RowKit
open Go.ChangeMaps (open_string shut_string)

/-- what holds through the last statement -/
structure Inv (w : World) (ga gb : Nat) (y : Dk) (v1 v2 v3 : Value) (ls : List ByteArray) (W : World) : Prop where
  low : Below w.heap.size w W
  a : Held W ga y
  b : Held W gb y
  s1 : Strs W v1 ls
  s2 : Strs W v2 ls
  s3 : Strs W v3 ls
theorem Inv.keep {w W W' : World} {ga gb : Nat} {y : Dk} {v1 v2 v3 : Value} {ls : List ByteArray} (h : Inv w ga gb y v1 v2 v3 ls W) (hb : Below W.heap.size W W') : Inv w ga gb y v1 v2 v3 ls W' :=
  ⟨h.low.trans (hb.mono h.low.size), h.a.keep hb, h.b.keep hb, h.s1.keep hb, h.s2.keep hb, h.s3.keep hb⟩
theorem Inv.drew {w W : World} {ga gb : Nat} {y : Dk} {v1 v2 v3 : Value} {ls : List ByteArray} (h : Inv w ga gb y v1 v2 v3 ls W) : Inv w ga gb y v1 v2 v3 ls W.drew :=
  ⟨h.low.drew, h.a, h.b, h.s1, h.s2, h.s3⟩
theorem Inv.all {w W : World} {ga gb : Nat} {s u : ByteArray} {f : Int} {d : Bool} {v1 v2 v3 : Value} {ls : List ByteArray} (h : Inv w ga gb ⟨s, u, f, d⟩ v1 v2 v3 ls W) :
    Inv w ga gb ⟨s, u, f, d⟩ v1 v2 v3 ls W ∧ W.cell? ⟨ga, 0, none⟩ = some (.string s) ∧ W.cell? ⟨ga, 1, none⟩ = some (.string u) ∧ W.cell? ⟨ga, 2, none⟩ = some (.int .i64 f) ∧ W.cell? ⟨ga, 3, none⟩ = some (.bool d) ∧
      W.cell? ⟨gb, 0, none⟩ = some (.string s) ∧ W.cell? ⟨gb, 1, none⟩ = some (.string u) ∧ W.cell? ⟨gb, 2, none⟩ = some (.int .i64 f) ∧ W.cell? ⟨gb, 3, none⟩ = some (.bool d) :=
  ⟨h, h.a.cells.1, h.a.cells.2.1, h.a.cells.2.2.1, h.a.cells.2.2.2, h.b.cells.1, h.b.cells.2.1, h.b.cells.2.2.1, h.b.cells.2.2.2⟩
theorem lowI {P : Program} {f : FuncId} {args : Array Value} {w W : World} {R : Ending} {ga gb : Nat} {y : Dk} {v1 v2 v3 : Value} {ls : List ByteArray} (ht : Inv w ga gb y v1 v2 v3 ls W) (h : Calls P f args W fun e w' => e = R ∧ Below W.heap.size W w') :
    Calls P f args W fun e w' => e = R ∧ Inv w ga gb y v1 v2 v3 ls w' := h.mono fun _ _ ⟨he, hc⟩ => ⟨he, ht.keep hc⟩
theorem same_self (v v' : Value) (l : List ByteArray) (w : World) (h1 : Strs w v l) (h2 : Strs w v' l) : Calls Try.prog 39 #[v, v'] w fun e w' => e = .returned (.bool true) ∧ Below w.heap.size w w' := by
  have h := same_any v v' l l w h1 h2
  rw [show decide (l = l) = true from by simp] at h
  exact h
set_option maxHeartbeats 4000000 in
set_option maxRecDepth 100000 in
theorem good (s s' : ByteArray) (f f' : Int) (hs : s.size ≤ 1500) (hf1 : -1 ≤ f) (hf2 : f ≤ 9223372036854775807) (hg1 : -1 ≤ f') (hg2 : f' ≤ 9223372036854775807)
    (hm : Dk.mend ⟨s, ⟨#[]⟩, f, false⟩ = (⟨s', ⟨#[]⟩, f', false⟩, 0)) (hm2 : Dk.mend ⟨s', ⟨#[]⟩, f', false⟩ = (⟨s', ⟨#[]⟩, f', false⟩, 0)) (ha : (Fr.all s'.data.toList).1 = (Fr.all s.data.toList).1)
    (hu : (Fr.all s'.data.toList).2.1 = s'.size) (hle : s'.size ≤ s.size) (hex : s.extract 0 s'.size = s') (w : World) :
    Calls Try.prog 11 #[.string s, .int .i64 f] w fun e w' => e = .returned (.bool true) ∧ Below w.heap.size w w' := by
  have HM := Lib.hid hm
  have HM2 := Lib.hid hm2
  have HA := Lib.hid ha
  have HU := Lib.hid hu
  have HEX := Lib.hid hex
  clear hm hm2 ha hu hex
  go_enter Try.func11, Try.ntmps11
  go_wp2_with fail
  refine (mend_any ⟨s, ⟨#[]⟩, f, false⟩ ⟨by show s.size ≤ _; omega, rfl, hf1, hf2, rfl⟩ _).mono ?_
  rintro e w1 ⟨v1, rfl, s1, b1⟩
  rw [HM.out] at s1 ⊢
  rw [if_pos rfl] at s1
  unfold dval
  dsimp only at s1 ⊢
  have S1 := Lib.hid s1
  clear s1
  go_wp2_with fail
  refine (mend_any ⟨s', ⟨#[]⟩, f', false⟩ ⟨by show s'.size ≤ _; omega, rfl, hg1, hg2, rfl⟩ _).mono ?_
  rintro e w2 ⟨v2, rfl, s2, c2⟩
  rw [HM2.out] at s2 ⊢
  rw [if_pos rfl, HA.out] at s2
  unfold dval
  dsimp only at s2 ⊢
  have HB2 := Lib.hid (Held.keep (Held.new w1 ⟨s', ⟨#[]⟩, f', false⟩) c2)
  have b2 := (b1.alloc b1.size (.cells (dcells ⟨s', ⟨#[]⟩, f', false⟩) 32)).trans (c2.mono (by have := b1.size; simp; omega))
  have S12 := Lib.hid ((S1.out.keep ((Below.refl _ _).alloc (Nat.le_refl _) (.cells (dcells ⟨s', ⟨#[]⟩, f', false⟩) 32))).keep c2)
  have S22 := Lib.hid s2
  have hl1 := HB2.out.lt
  clear c2 b1 S1 s2
  generalize w1.heap.size = ga at *
  obtain ⟨p0, p1, p2, p3⟩ := HB2.out.cells
  go_wp2_with fail
  refine (read_any ⟨s', ⟨#[]⟩, f', false⟩ (by show s'.size ≤ _; omega) _).mono ?_
  rintro e w3 ⟨v3, rfl, s3, c3⟩
  dsimp only at s3 ⊢
  rw [HU.out]
  rw [HA.out] at s3
  have INV : Hid (Inv w ga w2.heap.size ⟨s', ⟨#[]⟩, f', false⟩ v1 v2 v3 (recs (Fr.all s.data.toList).1) w3) := Lib.hid
    ⟨(b2.alloc b2.size (.cells (dcells ⟨s', ⟨#[]⟩, f', false⟩) 32)).trans (c3.mono (by have := b2.size; simp; omega)), (HB2.out.alloc _).keep c3, Held.keep (Held.new w2 ⟨s', ⟨#[]⟩, f', false⟩) c3,
      (S12.out.keep ((Below.refl _ _).alloc (Nat.le_refl _) _)).keep c3, (S22.out.keep ((Below.refl _ _).alloc (Nat.le_refl _) _)).keep c3, Strs.own s3⟩
  clear c3 s3 p0 p1 p2 p3 b2 HB2 S12 S22
  generalize w2.heap.size = gb at *
  generalize recs (Fr.all s.data.toList).1 = ls at *
  have hx1 : (0 : Int) ≤ (s'.size : Int) := by omega
  have hx2 : (s'.size : Int) ≤ (s.size : Int) := by omega
  have hT := INV.out
  have hex2 : s.extract 0 s'.size = s' := HEX.out
  go_wp2_with fail
  go_region_held3 (fun W' => Inv w ga gb ⟨s', ⟨#[]⟩, f', false⟩ v1 v2 v3 ls W' ∧ W'.cell? ⟨ga, 0, none⟩ = some (.string s') ∧ W'.cell? ⟨ga, 1, none⟩ = some (.string ⟨#[]⟩) ∧ W'.cell? ⟨ga, 2, none⟩ = some (.int .i64 f') ∧ W'.cell? ⟨ga, 3, none⟩ = some (.bool false) ∧ W'.cell? ⟨gb, 0, none⟩ = some (.string s') ∧ W'.cell? ⟨gb, 1, none⟩ = some (.string ⟨#[]⟩) ∧ W'.cell? ⟨gb, 2, none⟩ = some (.int .i64 f') ∧ W'.cell? ⟨gb, 3, none⟩ = some (.bool false)) (first | exact Inv.all (by assumption) | exact Inv.all (Inv.drew (by assumption)))
    (first | (go_at_call 40; refine (lowI (‹Inv w ga gb ⟨s', ⟨#[]⟩, f', false⟩ v1 v2 v3 ls _ ∧ _›).1 (awake12_any _)).mono ?_; rintro e w' ⟨rfl, t1⟩) | (go_at_call 39; refine (lowI (‹Inv w ga gb ⟨s', ⟨#[]⟩, f', false⟩ v1 v2 v3 ls _ ∧ _›).1 (same_self _ _ ls _ (by first | exact (‹Inv w ga gb ⟨s', ⟨#[]⟩, f', false⟩ v1 v2 v3 ls _ ∧ _›).1.s1 | exact (‹Inv w ga gb ⟨s', ⟨#[]⟩, f', false⟩ v1 v2 v3 ls _ ∧ _›).1.s3) (by first | exact (‹Inv w ga gb ⟨s', ⟨#[]⟩, f', false⟩ v1 v2 v3 ls _ ∧ _›).1.s2 | exact (‹Inv w ga gb ⟨s', ⟨#[]⟩, f', false⟩ v1 v2 v3 ls _ ∧ _›).1.s1))).mono ?_; rintro e w' ⟨rfl, t1⟩))
  obtain ⟨tf, _⟩ := ‹Inv w ga gb ⟨s', ⟨#[]⟩, f', false⟩ v1 v2 v3 ls _ ∧ _›
  clear t1
  go_wp2
  go_ret
  exact ⟨rfl, tf.1⟩
set_option maxHeartbeats 1000000 in
set_option maxRecDepth 100000 in
theorem bad (s : ByteArray) (hs : s.size ≤ 1500) (hm : Dk.mend ⟨s, ⟨#[]⟩, 0, false⟩ = (⟨s, ⟨#[]⟩, 0, true⟩, 16)) (w : World) :
    Calls Try.prog 11 #[.string s, .int .i64 0] w fun e w' => e = .returned (.bool true) ∧ Below w.heap.size w w' := by
  have HM := Lib.hid hm
  clear hm
  go_enter Try.func11, Try.ntmps11
  go_wp2_with fail
  refine (mend_any ⟨s, ⟨#[]⟩, 0, false⟩ ⟨by show s.size ≤ _; omega, rfl, by simp, by simp, rfl⟩ _).mono ?_
  rintro e w1 ⟨v1, rfl, s1, b1⟩
  rw [HM.out] at s1 ⊢
  rw [if_neg (by simp)] at s1
  unfold dval
  dsimp only at s1 ⊢
  obtain ⟨a, cap, rfl, h1, h2, _⟩ := s1
  rw [show ([] : List ByteArray).length = 0 from rfl]
  clear h1 h2
  go_wp2_with fail
  refine (awake12_any _).mono ?_
  rintro e w2 ⟨rfl, c2⟩
  have HB2 := Lib.hid (Held.keep (Held.new w1 ⟨s, ⟨#[]⟩, 0, true⟩) c2)
  have b2 := (b1.alloc b1.size (.cells (dcells ⟨s, ⟨#[]⟩, 0, true⟩) 32)).trans (c2.mono (by have := b1.size; simp; omega))
  clear c2 b1
  obtain ⟨p0, p1, p2, p3⟩ := HB2.out.cells
  go_wp2_with fail
  go_ret
  exact ⟨rfl, b2⟩
theorem less_lo {f : Int} (h1 : -1 ≤ f) (h2 : f ≤ 9223372036854775807) : -1 ≤ Dk.less f ∧ Dk.less f ≤ 9223372036854775807 := by unfold Dk.less; split <;> omega
set_option maxHeartbeats 1000000 in
set_option maxRecDepth 100000 in
theorem walk (s : ByteArray) (f : Int) (w0 : s.size ≤ maxLen) (w1 : (Lit.int .i64 f).wf = true) (w : World) :
    Calls Try.prog 11 #[.string s, .int .i64 f] w fun e w' => e = .returned (.bool true) ∧ Below w.heap.size w w' := by
  have hf : -9223372036854775808 ≤ f ∧ f ≤ 9223372036854775807 := by simp [Lit.wf, IntKind.min, IntKind.max, IntKind.signed, IntKind.bits] at w1; omega
  clear w1
  unfold maxLen at w0
  by_cases hs : s.size ≤ 1500
  · by_cases hf1 : -1 ≤ f
    · rcases mend_cases s f (by omega) hf1 with ⟨rfl, hm⟩ | ⟨f', hff, hm⟩
      · exact bad s hs hm w
      · have hg : -1 ≤ f' ∧ f' ≤ 9223372036854775807 := by
          rcases hff with rfl | rfl
          · exact ⟨hf1, hf.2⟩
          · exact less_lo hf1 hf.2
        have hp := part_size s
        have hw := whole_part s
        have hu : (Fr.all (s.extract 0 (used s)).data.toList).2.1 = (s.extract 0 (used s)).size := by rw [hw, hp]
        exact good s (s.extract 0 (used s)) f f' hs hf1 hf.2 hg.1 hg.2 hm (mend_same _ hu) (by rw [hw]) hu (by rw [hp]; exact used_size s) (by rw [hp]) w
    · obtain ⟨hf3, hf4⟩ := hf
      go_enter Try.func11, Try.ntmps11
      go_wp2_with fail
      refine (awake12_any _).mono ?_
      rintro e x1 ⟨rfl, b1⟩
      go_wp2_with fail
      go_ret
      exact ⟨rfl, b1⟩
  · go_enter Try.func11, Try.ntmps11
    go_wp2_with fail
    refine (awake12_any _).mono ?_
    rintro e x1 ⟨rfl, b1⟩
    go_wp2_with fail
    go_ret
    exact ⟨rfl, b1⟩

set_option maxRecDepth 100000 in
theorem lifted (os : Os) (started : os.Started) (H : Type) (enc : TypeId × Value → H) :
    ReturnsInHanded {} Try.checked os 11 .any (Rows.journalMendsSpec.pre6 enc Try.prog Try.f11 Rows.journalMendsRow.domain false) (Rows.journalMendsSpec.post enc Try.prog Try.f11 false true false false) := by
  refine returnsInHanded_of_change (C := Try.checked) own started (by kernel_rfl) Try.func11
    (ChangeSpec.witness6 (enc := enc) (C := Try.checked) false ⟨#[], #[.string ByteArray.empty, .int .i64 0], []⟩ 8 (by kernel_rfl) (by kernel_rfl) (by kernel_rfl) (by kernel_rfl)) ?_
  intro W base args ds gs before hval0 hW hcnd _
  have hval : ∀ (j : Nat) t v, Try.f11.params[j]? = some t → args[j]? = some v → Value.okWide Try.prog W .any base t v := hval0
  have hW' := hW
  obtain ⟨p, q, hA0, hV, rfl, hfz, hnd⟩ := hW
  have hA : DataW.TrodAll enc Try.prog W 0 (fun _ => true) true Try.f11.params.toList args.toList ds p := hA0
  rw [Try.params11] at hA hval
  obtain ⟨v0, vs0, d0, ds0, p0, q0, hargs, rfl, rfl, h0, r0⟩ := trodAll_cons hA
  obtain ⟨v1, vs1, d1, ds1, p1, q1, rfl, rfl, rfl, h1, r1⟩ := trodAll_cons r0
  obtain ⟨rfl, rfl, rfl⟩ := trodAll_nil r1
  obtain rfl : args = #[v0, v1] := by cases args; simp_all
  obtain ⟨rfl, rfl⟩ := trodVars_none hV
  obtain ⟨a0, rfl, rfl, rfl, w0⟩ := open_string Try.underlying9 (hval 0 9 v0 rfl rfl) h0
  obtain ⟨a1, rfl, rfl, rfl, w1⟩ := open_int Try.underlying3 (hval 1 3 v1 rfl rfl) h1
  clear hA0 hval0
  simp only [List.append_nil] at hW'
  refine (walk a0 a1 w0 w1 W).mono fun e W' ⟨he, hg⟩ => ?_
  subst he
  exact ⟨_, rfl, post_law (pa := []) (pv := []) hW' (fun _ _ _ => (trodAll_cons_mk (shut_bool Try.underlying4 _) trodAll_mk0)) (fun sp _ => (trodAll_cons_mk (shut_string Try.underlying9 w0) (trodAll_cons_mk (shut_int Try.underlying3 w1) trodAll_mk0))) (fun _ _ => rfl) rfl
    hg (ok_one (by kernel_rfl) rfl (okWide_bool_mk Try.underlying4 _))⟩

theorem over : Rows.journalMendsRow.holds Try.pinned (OpenSpec.ofChange Rows.journalMendsSpec) :=
  OpenClaim.holds_of_wide 11 Try.f11 rfl rfl rfl rfl rfl rfl rfl ⟨rfl, rfl, rfl, rfl, rfl⟩ rfl rfl rfl rfl rfl (by kernel_rfl) Try.func11 (by kernel_rfl)
    (of_decide_eq_true (by kernel_rfl)) (by unfold Func.isWrapper; first | (rw [if_pos (by decide +kernel)]; kernel_rfl) | (rw [if_neg (by decide +kernel)]; exact ⟨rfl, rfl⟩))
    (fun os started H enc _ => lifted os started H enc)

theorem proved : Rows.JournalMendsSaid :=
  over
end Go.Proofs.Ytgffoepnkpkhaaa.journalMends
#print axioms Go.Proofs.Ytgffoepnkpkhaaa.journalMends.proved
