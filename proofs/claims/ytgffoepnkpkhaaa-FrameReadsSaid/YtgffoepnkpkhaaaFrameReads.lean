/- FrameReads holds for every input: the record at the front of any bytes, and all records of them, are those of the reference; no condition. -/
import Derived.Test.YtgffoepnkpkhaaaBase
import Derived.Test.YtgffoepnkpkhaaaFrame7
namespace Go.Proofs.Ytgffoepnkpkhaaa.frameReads
open Go.ChangeShapes Go.WideShapes Go.ChangeAt Go.RowKit
open Go.ChangeMaps (open_string shut_string)

set_option maxHeartbeats 2000000 in
set_option maxRecDepth 100000 in
theorem walk (a0 : ByteArray) (w0 : a0.size ≤ maxLen) (w : World) :
    Calls Try.prog 9 #[.string a0] w fun e w' => e = .returned (.bool true) ∧ Below w.heap.size w w' := by
  unfold maxLen at w0
  by_cases h0 : a0.size ≤ 1500
  · obtain ⟨⟨r, q, e1⟩, h1⟩ : ∃ x, fn a0 = x := ⟨_, rfl⟩
    obtain ⟨⟨l, u, e2⟩, h2⟩ : ∃ x, Fr.all a0.data.toList = x := ⟨_, rfl⟩
    have H1 := Lib.hid h1
    have H2 := Lib.hid h2
    clear h1 h2
    go_enter Try.func9, Try.ntmps9
    go_wp2_with fail
    refine (next_any a0 (by omega) _).mono ?_
    rintro e x1 ⟨rfl, b1⟩
    rw [H1.out]
    dsimp only
    go_wp2_with fail
    refine (refnext_any a0 (by omega) _).mono ?_
    rintro e x2 ⟨rfl, c2⟩
    have b2 := b1.trans (c2.mono b1.size)
    clear b1 c2
    rw [H1.out]
    dsimp only
    go_wp2_with fail
    refine (scan_any a0 (by omega) _).mono ?_
    rintro e x3 ⟨v1, rfl, s1, c3⟩
    have b3 := b2.trans (c3.mono b2.size)
    clear b2 c3
    rw [H2.out] at s1 ⊢
    dsimp only at s1 ⊢
    go_wp2_with fail
    refine (refscan_any a0 (by omega) _).mono ?_
    rintro e x4 ⟨v2, rfl, s2, c4⟩
    have b4 := b3.trans (c4.mono b3.size)
    have s1' := s1.keep c4
    clear b3 c4 s1
    rw [H2.out] at s2 ⊢
    dsimp only at s2 ⊢
    have S1 := Lib.hid s1'
    have S2 := Lib.hid s2
    clear s1' s2
    go_wp2_with fail
    refine (awake8_any _).mono ?_
    rintro e x5 ⟨rfl, c5⟩
    have b5 := b4.trans (c5.mono b4.size)
    have S3 := Lib.hid (S1.out.keep c5)
    have S4 := Lib.hid (S2.out.keep c5)
    clear b4 c5 S1 S2
    go_wp2_with fail
    refine (low b5 (same_any v1 v2 _ _ _ S3.out S4.out)).mono ?_
    rintro e x6 ⟨rfl, b6⟩
    rw [show decide (recs l = recs l) = true from by simp]
    go_wp2_with fail
    go_ret
    exact ⟨rfl, b6⟩
  · go_enter Try.func9, Try.ntmps9
    go_wp2_with fail
    refine (awake8_any _).mono ?_
    rintro e x1 ⟨rfl, b1⟩
    go_wp2_with fail
    go_ret
    exact ⟨rfl, b1⟩

set_option maxRecDepth 100000 in
theorem lifted (os : Os) (started : os.Started) (H : Type) (enc : TypeId × Value → H) :
    ReturnsInHanded {} Try.checked os 9 .any (Rows.frameReadsSpec.pre6 enc Try.prog Try.f9 Rows.frameReadsRow.domain false) (Rows.frameReadsSpec.post enc Try.prog Try.f9 false true false false) := by
  refine returnsInHanded_of_change (C := Try.checked) own started (by kernel_rfl) Try.func9
    (ChangeSpec.witness6 (enc := enc) (C := Try.checked) false ⟨#[], #[.string ByteArray.empty], []⟩ 8 (by kernel_rfl) (by kernel_rfl) (by kernel_rfl) (by kernel_rfl)) ?_
  intro W base args ds gs before hval0 hW hcnd _
  have hval : ∀ (j : Nat) t v, Try.f9.params[j]? = some t → args[j]? = some v → Value.okWide Try.prog W .any base t v := hval0
  have hW' := hW
  obtain ⟨p, q, hA0, hV, rfl, hfz, hnd⟩ := hW
  have hA : DataW.TrodAll enc Try.prog W 0 (fun _ => true) true Try.f9.params.toList args.toList ds p := hA0
  rw [Try.params9] at hA hval
  obtain ⟨v0, vs0, d0, ds0, p0, q0, hargs, rfl, rfl, h0, r0⟩ := trodAll_cons hA
  obtain ⟨rfl, rfl, rfl⟩ := trodAll_nil r0
  obtain rfl : args = #[v0] := by cases args; simp_all
  obtain ⟨rfl, rfl⟩ := trodVars_none hV
  obtain ⟨a0, rfl, rfl, rfl, w0⟩ := open_string Try.underlying9 (hval 0 9 v0 rfl rfl) h0
  clear hA0 hval0
  simp only [List.append_nil] at hW'
  refine (walk a0 w0 W).mono fun e W' ⟨he, hg⟩ => ?_
  subst he
  exact ⟨_, rfl, post_law (pa := []) (pv := []) hW' (fun _ _ _ => (trodAll_cons_mk (shut_bool Try.underlying4 _) trodAll_mk0)) (fun sp _ => (trodAll_cons_mk (shut_string Try.underlying9 w0) trodAll_mk0)) (fun _ _ => rfl) rfl
    hg (ok_one (by kernel_rfl) rfl (okWide_bool_mk Try.underlying4 _))⟩

theorem over : Rows.frameReadsRow.holds Try.pinned (OpenSpec.ofChange Rows.frameReadsSpec) :=
  OpenClaim.holds_of_wide 9 Try.f9 rfl rfl rfl rfl rfl rfl rfl ⟨rfl, rfl, rfl, rfl, rfl⟩ rfl rfl rfl rfl rfl (by kernel_rfl) Try.func9 (by kernel_rfl)
    (of_decide_eq_true (by kernel_rfl)) (by unfold Func.isWrapper; first | (rw [if_pos (by decide +kernel)]; kernel_rfl) | (rw [if_neg (by decide +kernel)]; exact ⟨rfl, rfl⟩))
    (fun os started H enc _ => lifted os started H enc)

theorem proved : Rows.FrameReadsSaid :=
  over
end Go.Proofs.Ytgffoepnkpkhaaa.frameReads
#print axioms Go.Proofs.Ytgffoepnkpkhaaa.frameReads.proved
