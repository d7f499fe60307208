/- CodecSome, as a card: for every input which commands any bytes are, or why they are none, and that they have just these bytes, where codec.words starts as the program's text lays it; no other condition. -/
import Derived.Test.YtcdbnabbhlnigaaDoorBase
import Derived.Test.YtcdbnabbhlnigaaDoorSome2
import Derived.Carry
import Derived.Deep.Slices
namespace Go.Proofs.YtcdbnabbhlnigaaDoor.codecSome
open Go.ChangeShapes Go.WideShapes Go.ChangeAt Go.RowKit Go.Deep
open Go.ChangeMaps (open_string shut_string)

set_option maxHeartbeats 4000000 in
set_option maxRecDepth 100000 in
theorem walk (s : ByteArray) (w : World) (w0 : s.size ≤ maxLen) (hw : Words w) :
    Calls Tryd.prog 7 #[.string s] w fun e w' => e = .returned (.bool true) ∧ Below w.heap.size w w' := by
  have HW := Lib.hid hw
  clear hw
  unfold maxLen at w0
  by_cases hs : s.size ≤ 300
  · obtain ⟨⟨cs, er⟩, hg⟩ : ∃ g, someOf s = g := ⟨_, rfl⟩
    have HG := Lib.hid hg
    have HB : Hid (er = 0 → FitAll cs ∧ cs.length ≤ 1024 ∧ allOf cs = (s, 0)) := Lib.hid (fun h => by
      have := all_some s (by rw [hg]; exact h)
      rw [hg] at this
      exact this)
    clear hg
    go_enter Tryd.func7, Tryd.ntmps7
    go_wp2_with fail
    refine (some_any s (by omega) _).mono ?_
    rintro e w1 ⟨v, rfl, C1, b1⟩
    rw [HG.out] at C1 ⊢
    dsimp only at C1 ⊢
    have CC1 := Lib.hid C1
    clear C1
    go_wp2_with fail
    refine (refsome_any s (by omega) _).mono ?_
    rintro e w2 ⟨v2, rfl, C2, c2⟩
    rw [HG.out] at C2 ⊢
    dsimp only at C2 ⊢
    have CC2 := Lib.hid C2
    have CC12 := Lib.hid (CC1.out.keep c2)
    have b2 := b1.trans (c2.mono b1.size)
    clear C2 c2 b1 CC1
    go_wp2_with fail
    refine (csame_self v v2 cs _ CC12.out CC2.out).mono ?_
    rintro e w3 ⟨rfl, c3⟩
    have CC3 := Lib.hid (CC12.out.keep c3)
    have b3 := b2.trans (c3.mono b2.size)
    clear c3 b2 CC12 CC2
    by_cases he : er = 0
    · obtain ⟨f1, f2, f3⟩ := HB.out he
      subst he
      have HF := Lib.hid f1
      have HA := Lib.hid f3
      clear f1 f3
      go_wp2_with fail
      refine (all_any v cs _ CC3.out HF.out f2).mono ?_
      rintro e w4 ⟨rfl, c4⟩
      rw [HA.out]
      dsimp only
      have b4 := b3.trans (c4.mono b3.size)
      clear c4 b3 CC3
      go_wp2_with fail
      refine (low b4 (awake11_any _ (HW.out.keep b4))).mono ?_
      rintro e w5 ⟨rfl, b5⟩
      go_wp2_with fail
      go_ret
      exact ⟨rfl, b5⟩
    · have hne : (er != 0) = true := by simpa using he
      clear he
      go_wp2_with fail
      refine (low b3 (awake11_any _ (HW.out.keep b3))).mono ?_
      rintro e w5 ⟨rfl, b5⟩
      go_wp2_with fail
      go_ret
      exact ⟨rfl, b5⟩
  · go_enter Tryd.func7, Tryd.ntmps7
    go_wp2_with fail
    refine (awake11_any _ HW.out).mono ?_
    rintro e x1 ⟨rfl, b1⟩
    go_wp2_with fail
    go_ret
    exact ⟨rfl, b1⟩

theorem laidOut : laidOutB Tryd.prog = true := by kernel_rfl
set_option maxRecDepth 100000 in
theorem lifted (os : Os) (started : os.Started) (H : Type) (enc : TypeId × Value → H) :
    ReturnsInHanded {} Tryd.checked os 7 .any (fun w args => (Rows.codecSomeSpec.pre enc Tryd.prog Tryd.f7 [] false w args ∧ laidMetH Tryd.prog wlaid w) ∧ sizedMet enc Tryd.prog Tryd.f7 (OpenSpec.ofChange Rows.codecSomeSpec) false w args)
      (Rows.codecSomeSpec.post enc Tryd.prog Tryd.f7 false true false false) := by
  refine returnsInHanded_of_change_and (C := Tryd.checked) (X := fun w _ => laidMetH Tryd.prog wlaid w) (fun _ _ _ hh h => h.of_heap hh) own started (by kernel_rfl) Tryd.func7
    (ChangeSpec.witness_shaped (enc := enc) (C := Tryd.checked) (os := os) (X := fun w _ => laidMetH Tryd.prog wlaid w) false (World.doorLaid Tryd.prog 400 os) #[.string ByteArray.empty] 8 rfl (World.shaped_of_RefB (by kernel_rfl) (by kernel_rfl)) (by kernel_rfl) (by kernel_rfl) (by kernel_rfl) (door_met os _)) ?_
  intro W base args ds gs before hval0 hW _ _ hL _
  have hval : ∀ (j : Nat) t v, Tryd.f7.params[j]? = some t → args[j]? = some v → Value.okWide Tryd.prog W .any base t v := hval0
  have hW' := hW
  obtain ⟨p, q, hA0, hV, rfl, hfz, hnd⟩ := hW
  have hA : DataW.TrodAll enc Tryd.prog W 0 (fun _ => true) true Tryd.f7.params.toList args.toList ds p := hA0
  rw [Tryd.params7] at hA hval
  obtain ⟨v0, vs0, d0, ds0, p0, q0, hargs, rfl, rfl, h0, r0⟩ := trodAll_cons hA
  obtain ⟨rfl, rfl, rfl⟩ := trodAll_nil r0
  obtain rfl : args = #[v0] := by cases args; simp_all
  obtain ⟨rfl, rfl⟩ := trodVars_none hV
  obtain ⟨a0, rfl, rfl, rfl, w0⟩ := open_string Tryd.underlying9 (hval 0 9 v0 rfl rfl) h0
  have hw := of_laid hL
  clear hA0 hval0
  refine (walk a0 W w0 hw).mono fun e W' ⟨he, bel⟩ => ?_
  subst he
  exact ⟨_, rfl, _, _, _, [], _, [], hW', trodAll_mk1 (shut_bool Tryd.underlying4 _), (trodAll_cons_mk (shut_string Tryd.underlying9 w0) trodAll_mk0), rfl, bel.frame _, fun h => by cases h⟩

theorem over : Rows.CodecSomeSaid :=
  OpenClaim.holds_of_wide 7 Tryd.f7 rfl rfl rfl rfl rfl rfl rfl ⟨rfl, rfl, rfl, rfl, rfl⟩ rfl rfl rfl rfl rfl (by kernel_rfl) Tryd.func7 (by kernel_rfl)
    (of_decide_eq_true (by kernel_rfl)) (by unfold Func.isWrapper; first | (rw [if_pos (by decide +kernel)]; kernel_rfl) | (rw [if_neg (by decide +kernel)]; exact ⟨rfl, rfl⟩))
    (fun os started H enc _ => lifted os started H enc)

theorem proved : Rows.CodecSomeCardSaid :=
  Claim7.holds_tied_plain_at .later [] [.data] true (true, "a6c2658c4bbb71df0a1a0b409eba55bab08e23a9184530bebeffa009706320c1") false
    over (fun _ h => by cases h) (by kernel_rfl) (fun _ h => by cases h) codecSome_row_tie rfl ⟨rfl, rfl⟩ (by kernel_rfl) rfl
    (fun f fn hf hfn => by
      obtain rfl : f = 7 := Option.some.inj ((show Tryd.prog.funcNamed "compline/complinelaw11.CodecSome" = some 7 by kernel_rfl).symm.trans hf) |>.symm
      obtain rfl : fn = Tryd.f7 := (Option.some.inj (Tryd.func7.symm.trans hfn)).symm
      exact ⟨by kernel_rfl, fun j t ht => by
        rw [Tryd.params7] at ht
        have hm : t ∈ [9] := by simpa using Array.mem_of_getElem? ht
        have hall : ([9].all fun u => !Tryd.prog.wantsStandIn u) = true := by kernel_rfl
        exact (show Tryd.prog.wantsStandIn t = false by simpa using List.all_eq_true.1 hall t hm)⟩)
    (by kernel_rfl)
end Go.Proofs.YtcdbnabbhlnigaaDoor.codecSome
#print axioms Go.Proofs.YtcdbnabbhlnigaaDoor.codecSome.proved
