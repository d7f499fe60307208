/- NumGets holds for every input: which number any bytes begin with, or why they begin with none; no condition. -/
import Derived.Test.YtcdbnabbhlnigaaBase
import Derived.Test.YtcdbnabbhlnigaaNum3
import Derived.Deep.RegionHeld3
namespace Go.Proofs.Ytcdbnabbhlnigaa.numGets
open Go.ChangeShapes Go.WideShapes Go.ChangeAt Go.RowKit
open Go.ChangeMaps (open_string shut_string)

theorem low {P : Program} {f : FuncId} {args : Array Value} {w0 W : World} {R : Ending} (hb : Below w0.heap.size w0 W) (h : Calls P f args W fun e w' => e = R ∧ Below W.heap.size W w') :
    Calls P f args W fun e w' => e = R ∧ Below w0.heap.size w0 w' := h.mono fun _ _ ⟨he, hc⟩ => ⟨he, hb.trans (hc.mono hb.size)⟩
set_option maxHeartbeats 1000000 in
set_option maxRecDepth 100000 in
theorem walk (a0 : ByteArray) (w0 : a0.size ≤ maxLen) (w : World) :
    Calls Try.prog 3 #[.string a0] w fun e w' => e = .returned (.bool true) ∧ Below w.heap.size w w' := by
  unfold maxLen at w0
  by_cases hg : a0.size ≤ 100
  · obtain ⟨⟨gn, gm, ge⟩, hget⟩ : ∃ g, Vint.get a0.data.toList = g := ⟨_, rfl⟩
    by_cases he : ge = 0
    · subst he
      obtain ⟨hput, hm, hm1, hn1, hn2⟩ := Vint.put_get _ _ _ hget
      have hgv := Lib.hid (gv_ok a0 gn gm hget)
      have hm' : gm ≤ a0.size := by simpa using hm
      have hps : (⟨(Vint.put gn).toArray⟩ : ByteArray) = a0.extract 0 gm := by
        apply ByteArray.ext
        rw [hput]
        apply Array.ext'
        simp
      have HPS := Lib.hid hps
      have HG := Lib.hid hget
      clear hget hput hps hm
      go_enter Try.func3, Try.ntmps3
      go_wp2_with fail
      refine (get_any a0 _ (by omega)).mono ?_
      rintro e x1 ⟨rfl, nq, rfl⟩
      rw [hgv.out]
      go_wp2_with fail
      refine (refget_any a0 _ (by omega)).mono ?_
      rintro e x2 ⟨rfl, rfl⟩
      rw [HG.out]
      dsimp only
      go_wp2_with fail
      have hb0 : Below w.heap.size w (w.drewN nq) := ⟨rfl, rfl, rfl, Nat.le_refl _, fun _ _ => rfl⟩
      go_region_held3 (fun w' => Below w.heap.size w w') (first | assumption | exact Below.drew (by assumption)) (first | (go_at_call 6; refine (low (by assumption) (awake7_any _)).mono ?_; rintro e w' ⟨rfl, c1⟩) | (go_at_call 9; refine (low (by assumption) (put_any gn hn1 hn2 _)).mono ?_; rintro e w' ⟨rfl, c2⟩; rw [HPS.out]))
      go_wp2
      go_ret
      exact ⟨rfl, by assumption⟩
    · have hee := Vint.get_err a0.data.toList (by rw [hget]; exact he)
      have hge : (gn = 0 ∧ gm = 0 ∧ ge = 4) ∨ (gn = 0 ∧ gm = 0 ∧ ge = 3) := by rw [hget] at hee; simpa using hee
      have hnz : (ge != 0) = true := by simpa using he
      have h00 : gn = 0 ∧ gm = 0 := by rcases hge with ⟨a, b, c⟩ | ⟨a, b, c⟩ <;> exact ⟨a, b⟩
      obtain ⟨rfl, rfl⟩ := h00
      have hgv := Lib.hid (gv_err a0 ge he hget)
      have HG := Lib.hid hget
      clear hget hee hge he
      go_enter Try.func3, Try.ntmps3
      go_wp2_with fail
      refine (get_any a0 _ (by omega)).mono ?_
      rintro e x1 ⟨rfl, nq, rfl⟩
      rw [hgv.out]
      go_wp2_with fail
      refine (refget_any a0 _ (by omega)).mono ?_
      rintro e x2 ⟨rfl, rfl⟩
      rw [HG.out]
      dsimp only
      have hb0 : Below w.heap.size w (w.drewN nq) := ⟨rfl, rfl, rfl, Nat.le_refl _, fun _ _ => rfl⟩
      go_wp2_with fail
      refine (low hb0 (awake7_any _)).mono ?_
      rintro e x3 ⟨rfl, b3⟩
      go_wp2_with fail
      go_ret
      exact ⟨rfl, b3⟩
  · go_enter Try.func3, Try.ntmps3
    go_wp2_with fail
    refine (awake7_any _).mono ?_
    rintro e x1 ⟨rfl, b1⟩
    go_wp2_with fail
    go_ret
    exact ⟨rfl, b1⟩

set_option maxRecDepth 100000 in
theorem lifted (os : Os) (started : os.Started) (H : Type) (enc : TypeId × Value → H) :
    ReturnsInHanded {} Try.checked os 3 .any (Rows.numGetsSpec.pre6 enc Try.prog Try.f3 Rows.numGetsRow.domain false) (Rows.numGetsSpec.post enc Try.prog Try.f3 false true false false) := by
  refine returnsInHanded_of_change (C := Try.checked) own started (by kernel_rfl) Try.func3
    (ChangeSpec.witness6 (enc := enc) (C := Try.checked) false ⟨#[], #[.string ByteArray.empty], []⟩ 8 (by kernel_rfl) (by kernel_rfl) (by kernel_rfl) (by kernel_rfl)) ?_
  intro W base args ds gs before hval0 hW hcnd _
  have hval : ∀ (j : Nat) t v, Try.f3.params[j]? = some t → args[j]? = some v → Value.okWide Try.prog W .any base t v := hval0
  have hW' := hW
  obtain ⟨p, q, hA0, hV, rfl, hfz, hnd⟩ := hW
  have hA : DataW.TrodAll enc Try.prog W 0 (fun _ => true) true Try.f3.params.toList args.toList ds p := hA0
  rw [Try.params3] at hA hval
  obtain ⟨v0, vs0, d0, ds0, p0, q0, hargs, rfl, rfl, h0, r0⟩ := trodAll_cons hA
  obtain ⟨rfl, rfl, rfl⟩ := trodAll_nil r0
  obtain rfl : args = #[v0] := by cases args; simp_all
  obtain ⟨rfl, rfl⟩ := trodVars_none hV
  obtain ⟨a0, rfl, rfl, rfl, w0⟩ := open_string Try.underlying9 (hval 0 9 v0 rfl rfl) h0
  clear hA0 hval0
  simp only [List.append_nil] at hW'
  refine (walk a0 w0 W).mono fun e W' ⟨he, hg⟩ => ?_
  subst he
  exact ⟨_, rfl, post_law (pa := []) (pv := []) hW' (fun _ _ _ => (trodAll_cons_mk (shut_bool Try.underlying4 _) trodAll_mk0)) (fun sp _ => (trodAll_cons_mk (shut_string Try.underlying9 w0) trodAll_mk0)) (fun _ _ => rfl) rfl
    hg (ok_one (by kernel_rfl) rfl (okWide_bool_mk Try.underlying4 _))⟩

theorem over : Rows.numGetsRow.holds Try.pinned (OpenSpec.ofChange Rows.numGetsSpec) :=
  OpenClaim.holds_of_wide 3 Try.f3 rfl rfl rfl rfl rfl rfl rfl ⟨rfl, rfl, rfl, rfl, rfl⟩ rfl rfl rfl rfl rfl (by kernel_rfl) Try.func3 (by kernel_rfl)
    (of_decide_eq_true (by kernel_rfl)) (by unfold Func.isWrapper; first | (rw [if_pos (by decide +kernel)]; kernel_rfl) | (rw [if_neg (by decide +kernel)]; exact ⟨rfl, rfl⟩))
    (fun os started H enc _ => lifted os started H enc)

theorem proved : Rows.NumGetsSaid :=
  over
end Go.Proofs.Ytcdbnabbhlnigaa.numGets
#print axioms Go.Proofs.Ytcdbnabbhlnigaa.numGets.proved
