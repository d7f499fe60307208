/- CodecPuts, as a card: for every command its bytes, got as it was, or that it does not have its form, where codec.words starts as the program's text lays it; no other condition. -/
import Derived.Test.YtcdbnabbhlnigaaDoorBase
import Derived.Test.YtcdbnabbhlnigaaDoorGet
import Derived.Test.YtcdbnabbhlnigaaDoorOpen2
import Derived.Carry
import Derived.Deep.Slices
namespace Go.Proofs.YtcdbnabbhlnigaaDoor.codecPuts
open Go.ChangeShapes Go.WideShapes Go.ChangeAt Go.RowKit Go.Deep
open Go.ChangeMaps (open_string shut_string)

set_option maxHeartbeats 4000000 in
set_option maxRecDepth 100000 in
theorem walk (c : Cm) (w : World) (hc : c.Fit) (hw : Words w) :
    Calls Tryd.prog 4 #[cval c] w fun e w' => e = .returned (.bool true) ∧ Below w.heap.size w w' := by
  have HW := Lib.hid hw
  have HF := Lib.hid hc
  clear hw hc
  by_cases hr : c.right = true
  · have HR := Lib.hid hr
    have HT : Hid (c.text = ⟨c.bytes.toArray⟩) := Lib.hid (by unfold Cm.text; rw [if_pos hr])
    have HE : Hid (c.err = 0) := Lib.hid (by unfold Cm.err; rw [if_pos hr])
    have HK : Hid ((hasOf c.kd).2 = true) := Lib.hid (by unfold Cm.right at hr; simp at hr; exact hr.1)
    have HG := Lib.hid (get_put c HF.out hr)
    have hbl : (ByteArray.mk c.bytes.toArray).size ≤ 1000 := by
      show c.bytes.toArray.size ≤ 1000
      rw [List.size_toArray]
      unfold Cm.bytes
      rw [List.length_append]
      have h1 := put_len c.kd
      have h2 := vals_len (hasOf c.kd).1 c 6
      omega
    clear hr
    go_enter Tryd.func4, Tryd.ntmps4
    go_wp2_with fail
    refine (cput_any c HF.out _).mono ?_
    rintro e w1 ⟨rfl, c1⟩
    rw [HT.out, HE.out]
    have HX1 := Lib.hid (Boxed.keep (Boxed.new w c) c1)
    have b1 := ((Below.refl w.heap.size w).alloc (Nat.le_refl _) (.cells (ccells c) 29)).trans (c1.mono (by simp))
    clear c1
    obtain ⟨p0, p1, p2, p3, p4, p5, p6⟩ := HX1.out.cells
    go_wp2_with fail
    refine (right_any c _).mono ?_
    rintro e w2 ⟨rfl, c2⟩
    rw [HR.out]
    have HX2 := Lib.hid (Boxed.keep HX1.out c2)
    have b2 := b1.trans (c2.mono b1.size)
    clear c2 b1 HX1 p0 p1 p2 p3 p4 p5 p6
    go_wp2_with fail
    refine (get_any' ⟨c.bytes.toArray⟩ (by omega) _).mono ?_
    rintro e w3 ⟨rfl, c3⟩
    rw [HG.out]
    dsimp only
    have HX3 := Lib.hid (Boxed.keep HX2.out c3)
    have b3 := b2.trans (c3.mono b2.size)
    clear c3 b2 HX2
    go_wp2_with fail
    refine (awake11_any _ (HW.out.keep (b3.alloc b3.size _))).mono ?_
    rintro e w4 ⟨rfl, c4⟩
    have HX4 := Lib.hid (Boxed.keep (Boxed.alloc HX3.out (.cells (ccells c) 29)) c4)
    have HY4 := Lib.hid (Boxed.keep (Boxed.new w3 c) c4)
    have b4 := (b3.alloc b3.size (.cells (ccells c) 29)).trans (c4.mono (by have := b3.size; simp; omega))
    clear c4 b3 HX3
    generalize w3.heap.size = g3 at *
    obtain ⟨p0, p1, p2, p3, p4, p5, p6⟩ := HX4.out.cells
    go_wp2_with fail
    refine (crefput_any c HF.out HK.out _).mono ?_
    rintro e w5 ⟨rfl, c5⟩
    have HX5 := Lib.hid (Boxed.keep HX4.out c5)
    have HY5 := Lib.hid (Boxed.keep HY4.out c5)
    have b5 := b4.trans (c5.mono b4.size)
    clear c5 b4 HX4 HY4 p0 p1 p2 p3 p4 p5 p6
    obtain ⟨p0, p1, p2, p3, p4, p5, p6⟩ := HX5.out.cells
    go_wp2_with fail
    refine (check_any c _).mono ?_
    rintro e w6 ⟨rfl, c6⟩
    rw [HE.out]
    have HX6 := Lib.hid (Boxed.keep HX5.out c6)
    have HY6 := Lib.hid (Boxed.keep HY5.out c6)
    have b6 := b5.trans (c6.mono b5.size)
    clear c6 b5 HX5 HY5 p0 p1 p2 p3 p4 p5 p6
    obtain ⟨p0, p1, p2, p3, p4, p5, p6⟩ := HX6.out.cells
    obtain ⟨q0, q1, q2, q3, q4, q5, q6⟩ := HY6.out.cells
    go_wp2_with fail
    go_ret
    exact ⟨rfl, b6⟩
  · have HR : Hid (c.right = false) := Lib.hid (by simpa using hr)
    have HT : Hid (c.text = ⟨#[]⟩) := Lib.hid (by unfold Cm.text; rw [if_neg hr])
    have HE : Hid (c.err = 3) := Lib.hid (by unfold Cm.err; rw [if_neg hr])
    clear hr
    go_enter Tryd.func4, Tryd.ntmps4
    go_wp2_with fail
    refine (cput_any c HF.out _).mono ?_
    rintro e w1 ⟨rfl, c1⟩
    rw [HT.out, HE.out]
    have HX1 := Lib.hid (Boxed.keep (Boxed.new w c) c1)
    have b1 := ((Below.refl w.heap.size w).alloc (Nat.le_refl _) (.cells (ccells c) 29)).trans (c1.mono (by simp))
    clear c1
    obtain ⟨p0, p1, p2, p3, p4, p5, p6⟩ := HX1.out.cells
    go_wp2_with fail
    refine (right_any c _).mono ?_
    rintro e w2 ⟨rfl, c2⟩
    rw [HR.out]
    have HX2 := Lib.hid (Boxed.keep HX1.out c2)
    have b2 := b1.trans (c2.mono b1.size)
    clear c2 b1 HX1 p0 p1 p2 p3 p4 p5 p6
    go_wp2_with fail
    refine (awake11_any _ (HW.out.keep b2)).mono ?_
    rintro e w3 ⟨rfl, c3⟩
    have HX3 := Lib.hid (Boxed.keep HX2.out c3)
    have b3 := b2.trans (c3.mono b2.size)
    clear c3 b2 HX2
    obtain ⟨p0, p1, p2, p3, p4, p5, p6⟩ := HX3.out.cells
    go_wp2_with fail
    refine (check_any c _).mono ?_
    rintro e w4 ⟨rfl, c4⟩
    rw [HE.out]
    have b4 := b3.trans (c4.mono b3.size)
    clear c4 b3 HX3 p0 p1 p2 p3 p4 p5 p6
    go_wp2_with fail
    go_ret
    exact ⟨rfl, b4⟩

theorem laidOut : laidOutB Tryd.prog = true := by kernel_rfl
set_option maxRecDepth 100000 in
theorem lifted (os : Os) (started : os.Started) (H : Type) (enc : TypeId × Value → H) :
    ReturnsInHanded {} Tryd.checked os 4 .any (fun w args => (Rows.codecPutsSpec.pre enc Tryd.prog Tryd.f4 [] false w args ∧ laidMetH Tryd.prog wlaid w) ∧ sizedMet enc Tryd.prog Tryd.f4 (OpenSpec.ofChange Rows.codecPutsSpec) false w args)
      (Rows.codecPutsSpec.post enc Tryd.prog Tryd.f4 false true false false) := by
  refine returnsInHanded_of_change_and (C := Tryd.checked) (X := fun w _ => laidMetH Tryd.prog wlaid w) (fun _ _ _ hh h => h.of_heap hh) own started (by kernel_rfl) Tryd.func4
    (ChangeSpec.witness_shaped (enc := enc) (C := Tryd.checked) (os := os) (X := fun w _ => laidMetH Tryd.prog wlaid w) false (World.doorLaid Tryd.prog 400 os) #[(cval zeroC)] 8 rfl (World.shaped_of_RefB (by kernel_rfl) (by kernel_rfl)) (by kernel_rfl) (by kernel_rfl) (by kernel_rfl) (door_met os _)) ?_
  intro W base args ds gs before hval0 hW _ _ hL _
  have hval : ∀ (j : Nat) t v, Tryd.f4.params[j]? = some t → args[j]? = some v → Value.okWide Tryd.prog W .any base t v := hval0
  have hW' := hW
  obtain ⟨p, q, hA0, hV, rfl, hfz, hnd⟩ := hW
  have hA : DataW.TrodAll enc Tryd.prog W 0 (fun _ => true) true Tryd.f4.params.toList args.toList ds p := hA0
  rw [Tryd.params4] at hA hval
  obtain ⟨v0, vs0, d0, ds0, p0, q0, hargs, rfl, rfl, h0, r0⟩ := trodAll_cons hA
  obtain ⟨rfl, rfl, rfl⟩ := trodAll_nil r0
  obtain rfl : args = #[v0] := by cases args; simp_all
  obtain ⟨rfl, rfl⟩ := trodVars_none hV
  have k0 := h0
  have lt0 : ∀ x ∈ p0, x.block < W.heap.size := by obtain ⟨m, hm⟩ := k0; exact DataW.trod_lt m _ _ _ hm
  obtain ⟨c0, rfl, w0⟩ := open_cmd (hval 0 29 v0 rfl rfl) h0
  have hw := of_laid hL
  clear hA0 hval0
  refine (walk c0 W w0 hw).mono fun e W' ⟨he, bel⟩ => ?_
  subst he
  exact ⟨_, rfl, _, _, _, [], _, [], hW', trodAll_mk1 (shut_bool Tryd.underlying4 _), (trodAll_cons_mk (Below.trod laidOut (by kernel_rfl) (of_decide_eq_true (by kernel_rfl)) k0 bel lt0) trodAll_mk0), rfl, bel.frame _, fun h => by cases h⟩

theorem over : Rows.CodecPutsSaid :=
  OpenClaim.holds_of_wide 4 Tryd.f4 rfl rfl rfl rfl rfl rfl rfl ⟨rfl, rfl, rfl, rfl, rfl⟩ rfl rfl rfl rfl rfl (by kernel_rfl) Tryd.func4 (by kernel_rfl)
    (of_decide_eq_true (by kernel_rfl)) (by unfold Func.isWrapper; first | (rw [if_pos (by decide +kernel)]; kernel_rfl) | (rw [if_neg (by decide +kernel)]; exact ⟨rfl, rfl⟩))
    (fun os started H enc _ => lifted os started H enc)

theorem proved : Rows.CodecPutsCardSaid :=
  Claim7.holds_tied_plain_at .later [] [.data] true (true, "a6c2658c4bbb71df0a1a0b409eba55bab08e23a9184530bebeffa009706320c1") false
    over (fun _ h => by cases h) (by kernel_rfl) (fun _ h => by cases h) codecPuts_row_tie rfl ⟨rfl, rfl⟩ (by kernel_rfl) rfl
    (fun f fn hf hfn => by
      obtain rfl : f = 4 := Option.some.inj ((show Tryd.prog.funcNamed "compline/complinelaw11.CodecPuts" = some 4 by kernel_rfl).symm.trans hf) |>.symm
      obtain rfl : fn = Tryd.f4 := (Option.some.inj (Tryd.func4.symm.trans hfn)).symm
      exact ⟨by kernel_rfl, fun j t ht => by
        rw [Tryd.params4] at ht
        have hm : t ∈ [29] := by simpa using Array.mem_of_getElem? ht
        have hall : ([29].all fun u => !Tryd.prog.wantsStandIn u) = true := by kernel_rfl
        exact (show Tryd.prog.wantsStandIn t = false by simpa using List.all_eq_true.1 hall t hm)⟩)
    (by kernel_rfl)
end Go.Proofs.YtcdbnabbhlnigaaDoor.codecPuts
#print axioms Go.Proofs.YtcdbnabbhlnigaaDoor.codecPuts.proved
