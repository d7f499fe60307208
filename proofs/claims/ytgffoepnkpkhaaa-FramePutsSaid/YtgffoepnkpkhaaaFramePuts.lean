/- FramePuts holds for every input: the frame of any record, told next as it was, whatever stands behind; or that it is too long; no condition. -/
import Derived.Test.YtgffoepnkpkhaaaBase
import Derived.Test.YtgffoepnkpkhaaaFrame5
namespace Go.Proofs.Ytgffoepnkpkhaaa.framePuts
open Go.ChangeShapes Go.WideShapes Go.ChangeAt Go.RowKit
open Go.ChangeMaps (open_string shut_string)

set_option maxHeartbeats 4000000 in
set_option maxRecDepth 100000 in
theorem walk (a0 a1 : ByteArray) (w0 : a0.size ≤ maxLen) (w1 : a1.size ≤ maxLen) (w : World) :
    Calls Try.prog 8 #[.string a0, .string a1] w fun e w' => e = .returned (.bool true) ∧ Below w.heap.size w w' := by
  have HW0 := Lib.hid w0
  unfold maxLen at w0 w1
  by_cases hg : a0.size ≤ 1100
  · by_cases hm : a1.size ≤ 100
    · by_cases hl : a0.size ≤ 1024
      · have HFP := Lib.hid (show fp a0 = (⟨(Fr.put a0.data.toList).toArray⟩, 0) by simp [fp, hl])
        have HFN := Lib.hid (fn_put a0 a1 hl)
        have hsz : (Fr.put a0.data.toList).length = 8 + a0.size := by rw [Fr.put_len]; simp
        have HSZ := Lib.hid hsz
        have hle : (Fr.put a0.data.toList).length ≤ 1032 := by omega
        have hbs : (ByteArray.mk (Fr.put a0.data.toList).toArray ++ a1).size ≤ 1000000000000 := by rw [ByteArray.size_append]; show (Fr.put a0.data.toList).toArray.size + a1.size ≤ _; rw [List.size_toArray]; omega
        have HSE := Lib.hid (show (if a0.size ≤ 1024 then 8 + (a0.size : Int) else 0) = 8 + (a0.size : Int) by rw [if_pos hl])
        have hq : (8 + (a0.size : Int) == ((Fr.put a0.data.toList).length : Int)) = true := by rw [hsz]; simp
        clear hsz
        go_enter Try.func8, Try.ntmps8
        go_wp2_with fail
        refine (fput_any a0 HW0.out _).mono ?_
        rintro e x1 ⟨rfl, b1⟩
        rw [HFP.out]
        dsimp only
        go_wp2_with fail
        refine (next_any _ hbs _).mono ?_
        rintro e x2 ⟨rfl, c2⟩
        have b2 := b1.trans (c2.mono b1.size)
        clear b1 c2
        rw [HFN.out]
        dsimp only
        go_wp2_with fail
        refine (low b2 (awake8_any _)).mono ?_
        rintro e x3 ⟨rfl, b3⟩
        go_wp2_with fail
        refine (low b3 (refput_any a0 (by omega) _)).mono ?_
        rintro e x4 ⟨rfl, b4⟩
        go_wp2_with fail
        refine (size_any a0 HW0.out _).mono ?_
        rintro e x5 ⟨rfl, rfl⟩
        rw [HSE.out]
        go_wp2_with fail
        go_ret
        exact ⟨rfl, b4⟩
      · have HFP := Lib.hid (show fp a0 = (⟨#[]⟩, 18) by simp [fp, hl])
        have HSE := Lib.hid (show (if a0.size ≤ 1024 then 8 + (a0.size : Int) else 0) = 0 by rw [if_neg hl])
        go_enter Try.func8, Try.ntmps8
        go_wp2_with fail
        refine (fput_any a0 HW0.out _).mono ?_
        rintro e x1 ⟨rfl, b1⟩
        rw [HFP.out]
        dsimp only
        go_wp2_with fail
        refine (low b1 (awake8_any _)).mono ?_
        rintro e x3 ⟨rfl, b3⟩
        go_wp2_with fail
        refine (size_any a0 HW0.out _).mono ?_
        rintro e x5 ⟨rfl, rfl⟩
        rw [HSE.out]
        go_wp2_with fail
        go_ret
        exact ⟨rfl, b3⟩
    · go_enter Try.func8, Try.ntmps8
      go_wp2_with fail
      refine (awake8_any _).mono ?_
      rintro e x1 ⟨rfl, b1⟩
      go_wp2_with fail
      go_ret
      exact ⟨rfl, b1⟩
  · go_enter Try.func8, Try.ntmps8
    go_wp2_with fail
    refine (awake8_any _).mono ?_
    rintro e x1 ⟨rfl, b1⟩
    go_wp2_with fail
    go_ret
    exact ⟨rfl, b1⟩

set_option maxRecDepth 100000 in
theorem lifted (os : Os) (started : os.Started) (H : Type) (enc : TypeId × Value → H) :
    ReturnsInHanded {} Try.checked os 8 .any (Rows.framePutsSpec.pre6 enc Try.prog Try.f8 Rows.framePutsRow.domain false) (Rows.framePutsSpec.post enc Try.prog Try.f8 false true false false) := by
  refine returnsInHanded_of_change (C := Try.checked) own started (by kernel_rfl) Try.func8
    (ChangeSpec.witness6 (enc := enc) (C := Try.checked) false ⟨#[], #[.string ByteArray.empty, .string ByteArray.empty], []⟩ 8 (by kernel_rfl) (by kernel_rfl) (by kernel_rfl) (by kernel_rfl)) ?_
  intro W base args ds gs before hval0 hW hcnd _
  have hval : ∀ (j : Nat) t v, Try.f8.params[j]? = some t → args[j]? = some v → Value.okWide Try.prog W .any base t v := hval0
  have hW' := hW
  obtain ⟨p, q, hA0, hV, rfl, hfz, hnd⟩ := hW
  have hA : DataW.TrodAll enc Try.prog W 0 (fun _ => true) true Try.f8.params.toList args.toList ds p := hA0
  rw [Try.params8] at hA hval
  obtain ⟨v0, vs0, d0, ds0, p0, q0, hargs, rfl, rfl, h0, r0⟩ := trodAll_cons hA
  obtain ⟨v1, vs1, d1, ds1, p1, q1, rfl, rfl, rfl, h1, r1⟩ := trodAll_cons r0
  obtain ⟨rfl, rfl, rfl⟩ := trodAll_nil r1
  obtain rfl : args = #[v0, v1] := by cases args; simp_all
  obtain ⟨rfl, rfl⟩ := trodVars_none hV
  obtain ⟨a0, rfl, rfl, rfl, w0⟩ := open_string Try.underlying9 (hval 0 9 v0 rfl rfl) h0
  obtain ⟨a1, rfl, rfl, rfl, w1⟩ := open_string Try.underlying9 (hval 1 9 v1 rfl rfl) h1
  clear hA0 hval0
  simp only [List.append_nil] at hW'
  refine (walk a0 a1 w0 w1 W).mono fun e W' ⟨he, hg⟩ => ?_
  subst he
  exact ⟨_, rfl, post_law (pa := []) (pv := []) hW' (fun _ _ _ => (trodAll_cons_mk (shut_bool Try.underlying4 _) trodAll_mk0)) (fun sp _ => (trodAll_cons_mk (shut_string Try.underlying9 w0) (trodAll_cons_mk (shut_string Try.underlying9 w1) trodAll_mk0))) (fun _ _ => rfl) rfl
    hg (ok_one (by kernel_rfl) rfl (okWide_bool_mk Try.underlying4 _))⟩

theorem over : Rows.framePutsRow.holds Try.pinned (OpenSpec.ofChange Rows.framePutsSpec) :=
  OpenClaim.holds_of_wide 8 Try.f8 rfl rfl rfl rfl rfl rfl rfl ⟨rfl, rfl, rfl, rfl, rfl⟩ rfl rfl rfl rfl rfl (by kernel_rfl) Try.func8 (by kernel_rfl)
    (of_decide_eq_true (by kernel_rfl)) (by unfold Func.isWrapper; first | (rw [if_pos (by decide +kernel)]; kernel_rfl) | (rw [if_neg (by decide +kernel)]; exact ⟨rfl, rfl⟩))
    (fun os started H enc _ => lifted os started H enc)

theorem proved : Rows.FramePutsSaid :=
  over
end Go.Proofs.Ytgffoepnkpkhaaa.framePuts
#print axioms Go.Proofs.Ytgffoepnkpkhaaa.framePuts.proved
