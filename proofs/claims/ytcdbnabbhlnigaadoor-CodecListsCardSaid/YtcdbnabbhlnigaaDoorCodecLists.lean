/- CodecLists, as a card: for any commands their bytes, got as they were, or why they have none, where codec.words starts as the program's text lays it; no other condition. -/
import Derived.Test.YtcdbnabbhlnigaaDoorBase
import Derived.Test.YtcdbnabbhlnigaaDoorSome2
import Derived.Laws.MakeOwn
import Derived.Carry
import Derived.Deep.Slices
namespace Go.Proofs.YtcdbnabbhlnigaaDoor.codecLists
open Go.ChangeShapes Go.WideShapes Go.ChangeAt Go.RowKit Go.Deep
open Go.ChangeMaps (open_string shut_string)

theorem made1025 : ∃ C : Array Value, ∀ w : World, (Instr.makeSlice 39 (.int .i64 1025) (.int .i64 1025)).run Tryd.prog w = .ok (.slice (some ⟨w.heap.size, 0, none⟩) 1025 1025) (w.alloc (.cells C 29)) := by
  obtain ⟨i0, hi, hz0, hz1, hz2⟩ := info_parts infoC
  exact ⟨_, fun w => run_makeSlice w 39 29 i0 (cval zeroC) Tryd.underlying39 hi hz0 .i64 .i64 1025 1025 (by decide) (by decide) (by rw [hz1]; decide) (by rw [hz2]; decide) (by decide)⟩
set_option maxHeartbeats 4000000 in
set_option maxRecDepth 100000 in
theorem walk (a : Option Addr) (n cap : Nat) (l : List Cm) (long : Bool) (w : World) (hA : l.length = n ∧ Cms w (.slice a n cap) l ∧ FitAll l) (hw : Words w) :
    Calls Tryd.prog 6 #[.slice a n cap, .bool long] w fun e w' => e = .returned (.bool true) ∧ Below w.heap.size w w' := by
  obtain ⟨rfl, hC, hF⟩ := hA
  have HW := Lib.hid hw
  have HC := Lib.hid hC
  have HF := Lib.hid hF
  have hcl : l.length ≤ maxLen := by obtain ⟨_, _, hv, h1, h2, _⟩ := hC; omega
  unfold maxLen at hcl
  clear hw hC hF
  by_cases hn : l.length ≤ 60
  · cases long
    · obtain ⟨⟨s, er⟩, hg⟩ : ∃ g, allOf l = g := ⟨_, rfl⟩
      have HG := Lib.hid hg
      have hss : s.size ≤ 1000000 := by
        have := all_size l
        rw [hg] at this
        dsimp only at this
        omega
      have HB : Hid (er = 0 → someOf s = (l, 0)) := Lib.hid (fun h => by
        have := some_all' l HF.out (by omega) (by rw [hg]; exact h)
        rw [hg] at this
        exact this)
      clear hg
      go_enter Tryd.func6, Tryd.ntmps6
      go_wp2_with fail
      refine (all_any _ l _ HC.out HF.out (by omega)).mono ?_
      rintro e w1 ⟨rfl, b1⟩
      rw [HG.out]
      dsimp only
      go_wp2_with fail
      refine (low b1 (refall_any _ l _ (HC.out.keep b1) HF.out (by omega))).mono ?_
      rintro e w2 ⟨rfl, b2⟩
      rw [HG.out]
      dsimp only
      by_cases he : er = 0
      · subst he
        have HS := Lib.hid (HB.out rfl)
        go_wp2_with fail
        refine (some_any s (by omega) _).mono ?_
        rintro e w3 ⟨v, rfl, C3, c3⟩
        rw [HS.out] at C3 ⊢
        dsimp only at C3 ⊢
        have CC3 := Lib.hid C3
        have b3 := b2.trans (c3.mono b2.size)
        clear C3 c3
        go_wp2_with fail
        refine (awake11_any _ (HW.out.keep b3)).mono ?_
        rintro e w4 ⟨rfl, c4⟩
        have CC4 := Lib.hid (CC3.out.keep c4)
        have b4 := b3.trans (c4.mono b3.size)
        clear c4 CC3
        go_wp2_with fail
        refine (low b4 (csame_self v _ l _ CC4.out (HC.out.keep b4))).mono ?_
        rintro e w5 ⟨rfl, b5⟩
        go_wp2_with fail
        go_ret
        exact ⟨rfl, b5⟩
      · have hne : (er != 0) = true := by simpa using he
        clear he
        go_wp2_with fail
        refine (low b2 (awake11_any _ (HW.out.keep b2))).mono ?_
        rintro e w5 ⟨rfl, b5⟩
        go_wp2_with fail
        go_ret
        exact ⟨rfl, b5⟩
    · obtain ⟨C, hmk⟩ := made1025
      have b0 := (Below.refl w.heap.size w).alloc (Nat.le_refl _) (.cells C 29)
      go_enter Tryd.func6, Tryd.ntmps6
      go_wp2_with fail
      clear hmk
      generalize w.alloc (.cells C 29) = W0 at *
      refine (low b0 (all_over _ 1025 _ (by decide) (by decide) _)).mono ?_
      rintro e w1 ⟨rfl, b1⟩
      go_wp2_with fail
      refine (low b1 (refall_over _ 1025 _ (by decide) (by decide) _)).mono ?_
      rintro e w2 ⟨rfl, b2⟩
      go_wp2_with fail
      refine (low b2 (awake11_any _ (HW.out.keep b2))).mono ?_
      rintro e w5 ⟨rfl, b5⟩
      go_wp2_with fail
      go_ret
      exact ⟨rfl, b5⟩
  · go_enter Tryd.func6, Tryd.ntmps6
    go_wp2_with fail
    refine (awake11_any _ HW.out).mono ?_
    rintro e x1 ⟨rfl, b1⟩
    go_wp2_with fail
    go_ret
    exact ⟨rfl, b1⟩

theorem laidOut : laidOutB Tryd.prog = true := by kernel_rfl
set_option maxRecDepth 100000 in
theorem lifted (os : Os) (started : os.Started) (H : Type) (enc : TypeId × Value → H) :
    ReturnsInHanded {} Tryd.checked os 6 .any (fun w args => (Rows.codecListsSpec.pre enc Tryd.prog Tryd.f6 [] false w args ∧ laidMetH Tryd.prog wlaid w) ∧ sizedMet enc Tryd.prog Tryd.f6 (OpenSpec.ofChange Rows.codecListsSpec) false w args)
      (Rows.codecListsSpec.post enc Tryd.prog Tryd.f6 false true false false) := by
  refine returnsInHanded_of_change_and (C := Tryd.checked) (X := fun w _ => laidMetH Tryd.prog wlaid w) (fun _ _ _ hh h => h.of_heap hh) own started (by kernel_rfl) Tryd.func6
    (ChangeSpec.witness_shaped (enc := enc) (C := Tryd.checked) (os := os) (X := fun w _ => laidMetH Tryd.prog wlaid w) false (World.doorLaid Tryd.prog 400 os) #[.slice none 0 0, .bool false] 8 rfl (World.shaped_of_RefB (by kernel_rfl) (by kernel_rfl)) (by kernel_rfl) (by kernel_rfl) (by kernel_rfl) (door_met os _)) ?_
  intro W base args ds gs before hval0 hW _ _ hL _
  have hval : ∀ (j : Nat) t v, Tryd.f6.params[j]? = some t → args[j]? = some v → Value.okWide Tryd.prog W .any base t v := hval0
  have hW' := hW
  obtain ⟨p, q, hA0, hV, rfl, hfz, hnd⟩ := hW
  have hA : DataW.TrodAll enc Tryd.prog W 0 (fun _ => true) true Tryd.f6.params.toList args.toList ds p := hA0
  rw [Tryd.params6] at hA hval
  obtain ⟨v0, vs0, d0, ds0, p0, q0, hargs, rfl, rfl, h0, r0⟩ := trodAll_cons hA
  obtain ⟨v1, vs1, d1, ds1, p1, q1, rfl, rfl, rfl, h1, r1⟩ := trodAll_cons r0
  obtain ⟨rfl, rfl, rfl⟩ := trodAll_nil r1
  obtain rfl : args = #[v0, v1] := by cases args; simp_all
  obtain ⟨rfl, rfl⟩ := trodVars_none hV
  obtain ⟨a0, len0, cap0, rfl⟩ := okWide_slice Tryd.underlying39 (hval 0 39 v0 rfl rfl)
  have k0 := h0
  have lt0 : ∀ x ∈ p0, x.block < W.heap.size := by obtain ⟨m, hm⟩ := k0; exact DataW.trod_lt m _ _ _ hm
  obtain ⟨l0, w0⟩ := open_cmds h0
  obtain ⟨a1, rfl, rfl, rfl⟩ := open_bool Tryd.underlying4 (hval 1 4 v1 rfl rfl) h1
  have hw := of_laid hL
  clear hA0 hval0
  refine (walk a0 len0 cap0 l0 a1 W w0 hw).mono fun e W' ⟨he, bel⟩ => ?_
  subst he
  exact ⟨_, rfl, _, _, _, [], _, [], hW', trodAll_mk1 (shut_bool Tryd.underlying4 _), (trodAll_cons_mk (Below.trod laidOut (by kernel_rfl) (of_decide_eq_true (by kernel_rfl)) k0 bel lt0) (trodAll_cons_mk (shut_bool Tryd.underlying4 a1) trodAll_mk0)), rfl, bel.frame _, fun h => by cases h⟩

theorem over : Rows.CodecListsSaid :=
  OpenClaim.holds_of_wide 6 Tryd.f6 rfl rfl rfl rfl rfl rfl rfl ⟨rfl, rfl, rfl, rfl, rfl⟩ rfl rfl rfl rfl rfl (by kernel_rfl) Tryd.func6 (by kernel_rfl)
    (of_decide_eq_true (by kernel_rfl)) (by unfold Func.isWrapper; first | (rw [if_pos (by decide +kernel)]; kernel_rfl) | (rw [if_neg (by decide +kernel)]; exact ⟨rfl, rfl⟩))
    (fun os started H enc _ => lifted os started H enc)

theorem proved : Rows.CodecListsCardSaid :=
  Claim7.holds_tied_plain_at .later [] [.data] true (true, "a6c2658c4bbb71df0a1a0b409eba55bab08e23a9184530bebeffa009706320c1") false
    over (fun _ h => by cases h) (by kernel_rfl) (fun _ h => by cases h) codecLists_row_tie rfl ⟨rfl, rfl⟩ (by kernel_rfl) rfl
    (fun f fn hf hfn => by
      obtain rfl : f = 6 := Option.some.inj ((show Tryd.prog.funcNamed "compline/complinelaw11.CodecLists" = some 6 by kernel_rfl).symm.trans hf) |>.symm
      obtain rfl : fn = Tryd.f6 := (Option.some.inj (Tryd.func6.symm.trans hfn)).symm
      exact ⟨by kernel_rfl, fun j t ht => by
        rw [Tryd.params6] at ht
        have hm : t ∈ [39, 4] := by simpa using Array.mem_of_getElem? ht
        have hall : ([39, 4].all fun u => !Tryd.prog.wantsStandIn u) = true := by kernel_rfl
        exact (show Tryd.prog.wantsStandIn t = false by simpa using List.all_eq_true.1 hall t hm)⟩)
    (by kernel_rfl)
end Go.Proofs.YtcdbnabbhlnigaaDoor.codecLists
#print axioms Go.Proofs.YtcdbnabbhlnigaaDoor.codecLists.proved
