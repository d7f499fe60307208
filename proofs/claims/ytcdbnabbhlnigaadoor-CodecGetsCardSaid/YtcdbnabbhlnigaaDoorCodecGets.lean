/- CodecGets, as a card: for every input which command any bytes are, or why they are none, and that it has just these bytes, where codec.words starts as the program's text lays it; no other condition. -/
import Derived.Test.YtcdbnabbhlnigaaDoorBase
import Derived.Test.YtcdbnabbhlnigaaDoorGet
import Derived.Carry
import Derived.Deep.Slices
namespace Go.Proofs.YtcdbnabbhlnigaaDoor.codecGets
open Go.ChangeShapes Go.WideShapes Go.ChangeAt Go.RowKit Go.Deep
open Go.ChangeMaps (open_string shut_string)

set_option maxHeartbeats 4000000 in
set_option maxRecDepth 100000 in
theorem walk (s : ByteArray) (w : World) (w0 : s.size ≤ maxLen) (hw : Words w) :
    Calls Tryd.prog 5 #[.string s] w fun e w' => e = .returned (.bool true) ∧ Below w.heap.size w w' := by
  have HW := Lib.hid hw
  clear hw
  unfold maxLen at w0
  by_cases hs : s.size ≤ 200
  · obtain ⟨⟨c, er⟩, hg⟩ : ∃ g, getOf s = g := ⟨_, rfl⟩
    have HG := Lib.hid hg
    have HB : Hid (er = 0 → c.Fit ∧ c.right = true ∧ s = ⟨c.bytes.toArray⟩) := Lib.hid (fun h => by
      have := get_back s (by rw [hg]; exact h)
      rw [hg] at this
      exact this)
    clear hg
    go_enter Tryd.func5, Tryd.ntmps5
    go_wp2_with fail
    refine (get_any' s (by omega) _).mono ?_
    rintro e w1 ⟨rfl, b1⟩
    rw [HG.out]
    dsimp only
    go_wp2_with fail
    refine (refget_any' s (by omega) _).mono ?_
    rintro e w2 ⟨rfl, c2⟩
    rw [HG.out]
    dsimp only
    have HX2 := Lib.hid (Boxed.keep (Boxed.new w1 c) c2)
    have b2 := (b1.alloc b1.size (.cells (ccells c) 29)).trans (c2.mono (by have := b1.size; simp; omega))
    clear c2 b1
    obtain ⟨p0, p1, p2, p3, p4, p5, p6⟩ := HX2.out.cells
    have hlt := HX2.out.lt
    by_cases he : er = 0
    · obtain ⟨f1, f2, f3⟩ := HB.out he
      subst he
      have HF := Lib.hid f1
      have HRT := Lib.hid f2
      have HS := Lib.hid f3
      have HK : Hid ((hasOf c.kd).2 = true) := Lib.hid (by unfold Cm.right at f2; simp at f2; exact f2.1)
      clear f1 f2 f3
      go_wp2_with fail
      refine (awake11_any _ (HW.out.keep (b2.alloc b2.size _))).mono ?_
      rintro e w3 ⟨rfl, c3⟩
      have HX3 := Lib.hid (Boxed.keep (Boxed.alloc HX2.out (.cells (ccells c) 29)) c3)
      have b3 := (b2.alloc b2.size (.cells (ccells c) 29)).trans (c3.mono (by have := b2.size; simp; omega))
      clear c3 b2 p0 p1 p2 p3 p4 p5 p6 HX2
      obtain ⟨p0, p1, p2, p3, p4, p5, p6⟩ := HX3.out.cells
      go_wp2_with fail
      refine (right_any c _).mono ?_
      rintro e w4 ⟨rfl, c4⟩
      rw [HRT.out]
      have HX4 := Lib.hid (Boxed.keep HX3.out c4)
      have b4 := b3.trans (c4.mono b3.size)
      clear c4 b3 p0 p1 p2 p3 p4 p5 p6 HX3
      obtain ⟨p0, p1, p2, p3, p4, p5, p6⟩ := HX4.out.cells
      go_wp2_with fail
      refine (crefput_any c HF.out HK.out _).mono ?_
      rintro e w5 ⟨rfl, c5⟩
      rw [← HS.out]
      have b5 := b4.trans (c5.mono b4.size)
      clear c5 b4 p0 p1 p2 p3 p4 p5 p6 HX4
      go_wp2_with fail
      go_ret
      exact ⟨rfl, b5⟩
    · have hne : (er != 0) = true := by simpa using he
      clear he
      go_wp2_with fail
      refine (awake11_any _ (HW.out.keep (b2.alloc b2.size _))).mono ?_
      rintro e w3 ⟨rfl, c3⟩
      have b3 := (b2.alloc b2.size (.cells (ccells c) 29)).trans (c3.mono (by have := b2.size; simp; omega))
      clear c3 b2
      go_wp2_with fail
      go_ret
      exact ⟨rfl, b3⟩
  · go_enter Tryd.func5, Tryd.ntmps5
    go_wp2_with fail
    refine (awake11_any _ HW.out).mono ?_
    rintro e x1 ⟨rfl, b1⟩
    go_wp2_with fail
    go_ret
    exact ⟨rfl, b1⟩

theorem laidOut : laidOutB Tryd.prog = true := by kernel_rfl
set_option maxRecDepth 100000 in
theorem lifted (os : Os) (started : os.Started) (H : Type) (enc : TypeId × Value → H) :
    ReturnsInHanded {} Tryd.checked os 5 .any (fun w args => (Rows.codecGetsSpec.pre enc Tryd.prog Tryd.f5 [] false w args ∧ laidMetH Tryd.prog wlaid w) ∧ sizedMet enc Tryd.prog Tryd.f5 (OpenSpec.ofChange Rows.codecGetsSpec) false w args)
      (Rows.codecGetsSpec.post enc Tryd.prog Tryd.f5 false true false false) := by
  refine returnsInHanded_of_change_and (C := Tryd.checked) (X := fun w _ => laidMetH Tryd.prog wlaid w) (fun _ _ _ hh h => h.of_heap hh) own started (by kernel_rfl) Tryd.func5
    (ChangeSpec.witness_shaped (enc := enc) (C := Tryd.checked) (os := os) (X := fun w _ => laidMetH Tryd.prog wlaid w) false (World.doorLaid Tryd.prog 400 os) #[.string ByteArray.empty] 8 rfl (World.shaped_of_RefB (by kernel_rfl) (by kernel_rfl)) (by kernel_rfl) (by kernel_rfl) (by kernel_rfl) (door_met os _)) ?_
  intro W base args ds gs before hval0 hW _ _ hL _
  have hval : ∀ (j : Nat) t v, Tryd.f5.params[j]? = some t → args[j]? = some v → Value.okWide Tryd.prog W .any base t v := hval0
  have hW' := hW
  obtain ⟨p, q, hA0, hV, rfl, hfz, hnd⟩ := hW
  have hA : DataW.TrodAll enc Tryd.prog W 0 (fun _ => true) true Tryd.f5.params.toList args.toList ds p := hA0
  rw [Tryd.params5] at hA hval
  obtain ⟨v0, vs0, d0, ds0, p0, q0, hargs, rfl, rfl, h0, r0⟩ := trodAll_cons hA
  obtain ⟨rfl, rfl, rfl⟩ := trodAll_nil r0
  obtain rfl : args = #[v0] := by cases args; simp_all
  obtain ⟨rfl, rfl⟩ := trodVars_none hV
  obtain ⟨a0, rfl, rfl, rfl, w0⟩ := open_string Tryd.underlying9 (hval 0 9 v0 rfl rfl) h0
  have hw := of_laid hL
  clear hA0 hval0
  refine (walk a0 W w0 hw).mono fun e W' ⟨he, bel⟩ => ?_
  subst he
  exact ⟨_, rfl, _, _, _, [], _, [], hW', trodAll_mk1 (shut_bool Tryd.underlying4 _), (trodAll_cons_mk (shut_string Tryd.underlying9 w0) trodAll_mk0), rfl, bel.frame _, fun h => by cases h⟩

theorem over : Rows.CodecGetsSaid :=
  OpenClaim.holds_of_wide 5 Tryd.f5 rfl rfl rfl rfl rfl rfl rfl ⟨rfl, rfl, rfl, rfl, rfl⟩ rfl rfl rfl rfl rfl (by kernel_rfl) Tryd.func5 (by kernel_rfl)
    (of_decide_eq_true (by kernel_rfl)) (by unfold Func.isWrapper; first | (rw [if_pos (by decide +kernel)]; kernel_rfl) | (rw [if_neg (by decide +kernel)]; exact ⟨rfl, rfl⟩))
    (fun os started H enc _ => lifted os started H enc)

theorem proved : Rows.CodecGetsCardSaid :=
  Claim7.holds_tied_plain_at .later [] [.data] true (true, "a6c2658c4bbb71df0a1a0b409eba55bab08e23a9184530bebeffa009706320c1") false
    over (fun _ h => by cases h) (by kernel_rfl) (fun _ h => by cases h) codecGets_row_tie rfl ⟨rfl, rfl⟩ (by kernel_rfl) rfl
    (fun f fn hf hfn => by
      obtain rfl : f = 5 := Option.some.inj ((show Tryd.prog.funcNamed "compline/complinelaw11.CodecGets" = some 5 by kernel_rfl).symm.trans hf) |>.symm
      obtain rfl : fn = Tryd.f5 := (Option.some.inj (Tryd.func5.symm.trans hfn)).symm
      exact ⟨by kernel_rfl, fun j t ht => by
        rw [Tryd.params5] at ht
        have hm : t ∈ [9] := by simpa using Array.mem_of_getElem? ht
        have hall : ([9].all fun u => !Tryd.prog.wantsStandIn u) = true := by kernel_rfl
        exact (show Tryd.prog.wantsStandIn t = false by simpa using List.all_eq_true.1 hall t hm)⟩)
    (by kernel_rfl)
end Go.Proofs.YtcdbnabbhlnigaaDoor.codecGets
#print axioms Go.Proofs.YtcdbnabbhlnigaaDoor.codecGets.proved
