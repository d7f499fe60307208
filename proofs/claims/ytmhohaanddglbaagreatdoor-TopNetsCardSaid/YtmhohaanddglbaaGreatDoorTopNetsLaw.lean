/- TopNets, as a card: for any configuration and any trades it answers true, where calendar.words starts as the program's text lays it; no other condition. -/
import Derived.Test.YtmhohaanddglbaaGreatDoorM01
import Derived.Test.YtmhohaanddglbaaGreatDoorM12
import Derived.Carry
import Derived.Deep.Slices
namespace Go.Proofs.YtmhohaanddglbaaGreatDoor.topNets
open Go.ChangeShapes Go.WideShapes Go.ChangeAt Go.RowKit Go.Deep
open Go.ChangeMaps (open_string shut_string)
theorem walk (vm vs vc : Value) (C : Cfg) (a : Option Addr) (n cap : Nat) (l : List Tr) (w : World) (hc : CSl w vm vs vc C) (hl : Sl eTr 6 w (.slice a n cap) l ∧ ∀ t ∈ l, TrIn t) (hw : Words w) :
    Calls Tryz.prog 4 #[cfgV vm vs vc C, .slice a n cap] w fun e w' => e = .returned (.bool true) ∧ Bw w w' :=
  lX vm vs vc (.slice a n cap) C l w hc hl.1 hl.2 hw
theorem laidOut : laidOutB Tryz.prog = true := by kernel_rfl
set_option maxRecDepth 100000 in
theorem lifted (os : Os) (started : os.Started) (H : Type) (enc : TypeId × Value → H) :
    ReturnsInHanded {} Tryz.checked os 4 .any (fun w args => (Rows.topNetsSpec.pre enc Tryz.prog Tryz.f4 [] false w args ∧ laidMetH Tryz.prog wlaid w) ∧ sizedMet enc Tryz.prog Tryz.f4 (OpenSpec.ofChange Rows.topNetsSpec) false w args)
      (Rows.topNetsSpec.post enc Tryz.prog Tryz.f4 false true false false) := by
  refine returnsInHanded_of_change_and (C := Tryz.checked) (X := fun w _ => laidMetH Tryz.prog wlaid w) (fun _ _ _ hh h => h.of_heap hh) rW started (by kernel_rfl) Tryz.func4
    (ChangeSpec.witness_shaped (enc := enc) (C := Tryz.checked) (os := os) (X := fun w _ => laidMetH Tryz.prog wlaid w) false (World.doorLaid Tryz.prog 400 os) #[zeroCfg, .slice none 0 0] 8 rfl (World.shaped_of_RefB (by kernel_rfl) (by kernel_rfl)) (by kernel_rfl) (by kernel_rfl) (by kernel_rfl) (rX os _)) ?_
  intro W base args ds gs before hval0 hW _ _ hL _
  have hval : ∀ (j : Nat) t v, Tryz.f4.params[j]? = some t → args[j]? = some v → Value.okWide Tryz.prog W .any base t v := hval0
  have hW' := hW
  obtain ⟨p, q, hA0, hV, rfl, hfz, hnd⟩ := hW
  have hA : DataW.TrodAll enc Tryz.prog W 0 (fun _ => true) true Tryz.f4.params.toList args.toList ds p := hA0
  rw [Tryz.params4] at hA hval
  obtain ⟨v0, vs0, d0, ds0, p0, q0, hargs, rfl, rfl, h0, r0⟩ := trodAll_cons hA
  obtain ⟨v1, vs1, d1, ds1, p1, q1, rfl, rfl, rfl, h1, r1⟩ := trodAll_cons r0
  obtain ⟨rfl, rfl, rfl⟩ := trodAll_nil r1
  obtain rfl : args = #[v0, v1] := by cases args; simp_all
  obtain ⟨rfl, rfl⟩ := trodVars_none hV
  have k0 := h0
  have lt0 : ∀ x ∈ p0, x.block < W.heap.size := by obtain ⟨m, hm⟩ := k0; exact DataW.trod_lt m _ _ _ hm
  obtain ⟨vm0, vs0, vc0, C0, rfl, w0⟩ := wb (hval 0 26 v0 rfl rfl) h0
  obtain ⟨a1, len1, cap1, rfl⟩ := okWide_slice Tryz.underlying49 (hval 1 49 v1 rfl rfl)
  have k1 := h1
  have lt1 : ∀ x ∈ p1, x.block < W.heap.size := by obtain ⟨m, hm⟩ := k1; exact DataW.trod_lt m _ _ _ hm
  obtain ⟨l1, w1⟩ := lZ h1
  have hw := wA hL
  clear hA0 hval0
  refine (walk vm0 vs0 vc0 C0 a1 len1 cap1 l1 W w0 w1 hw).mono fun e W' ⟨he, bel⟩ => ?_
  subst he
  exact ⟨_, rfl, _, _, _, [], _, [], hW', trodAll_mk1 (shut_bool Tryz.underlying4 _), (trodAll_cons_mk (Below.trod laidOut (by kernel_rfl) (of_decide_eq_true (by kernel_rfl)) k0 bel lt0) (trodAll_cons_mk (Below.trod laidOut (by kernel_rfl) (of_decide_eq_true (by kernel_rfl)) k1 bel lt1) trodAll_mk0)), rfl, bel.frame _, fun h => by cases h⟩
theorem k0 : fact0 Tryz.pinned.checked.prog 4 Tryz.f4 Rows.topNetsSpec Rows.topNetsRow = true := by kernel_rfl
theorem k1 : fact1 Tryz.pinned.checked.prog 4 Tryz.f4 Rows.topNetsSpec Rows.topNetsRow = true := by kernel_rfl
theorem k2 : fact2 Tryz.pinned.checked.prog 4 Tryz.f4 Rows.topNetsSpec Rows.topNetsRow = true := by kernel_rfl
theorem k3 : fact3 Tryz.pinned.checked.prog 4 Tryz.f4 Rows.topNetsSpec Rows.topNetsRow = true := by kernel_rfl
theorem k4 : fact4 Tryz.pinned.checked.prog 4 Tryz.f4 Rows.topNetsSpec Rows.topNetsRow = true := by kernel_rfl
theorem k5 : fact5 Tryz.pinned.checked.prog 4 Tryz.f4 Rows.topNetsSpec Rows.topNetsRow = true := by kernel_rfl
theorem k6 : fact6 Tryz.pinned.checked.prog 4 Tryz.f4 Rows.topNetsSpec Rows.topNetsRow = true := by kernel_rfl
theorem k7 : fact7 Tryz.pinned.checked.prog 4 Tryz.f4 Rows.topNetsSpec Rows.topNetsRow = true := by kernel_rfl
theorem k8 : fact8 Tryz.pinned.checked.prog 4 Tryz.f4 Rows.topNetsSpec Rows.topNetsRow = true := by kernel_rfl
theorem k9 : fact9 Tryz.pinned.checked.prog 4 Tryz.f4 Rows.topNetsSpec Rows.topNetsRow = true := by kernel_rfl
theorem k10 : fact10 Tryz.pinned.checked.prog 4 Tryz.f4 Rows.topNetsSpec Rows.topNetsRow = true := by kernel_rfl
theorem k11 : fact11 Tryz.pinned.checked.prog 4 Tryz.f4 Rows.topNetsSpec Rows.topNetsRow = true := by kernel_rfl
theorem k12 : fact12 Tryz.pinned.checked.prog 4 Tryz.f4 Rows.topNetsSpec Rows.topNetsRow = true := by kernel_rfl
theorem k13 : fact13 Tryz.pinned.checked.prog 4 Tryz.f4 Rows.topNetsSpec Rows.topNetsRow = true := by kernel_rfl
theorem k14 : fact14 Tryz.pinned.checked.prog 4 Tryz.f4 Rows.topNetsSpec Rows.topNetsRow = true := by kernel_rfl
theorem k15 : fact15 Tryz.pinned.checked.prog 4 Tryz.f4 Rows.topNetsSpec Rows.topNetsRow = true := by kernel_rfl
theorem k16 : fact16 Tryz.pinned.checked.prog 4 Tryz.f4 Rows.topNetsSpec Rows.topNetsRow = true := by kernel_rfl
theorem k17 : fact17 Tryz.pinned.checked.prog 4 Tryz.f4 Rows.topNetsSpec Rows.topNetsRow = true := by kernel_rfl
theorem k18 : fact18 Tryz.pinned.checked.prog 4 Tryz.f4 Rows.topNetsSpec Rows.topNetsRow = true := by kernel_rfl
theorem k19 : fact19 Tryz.pinned.checked.prog 4 Tryz.f4 Rows.topNetsSpec Rows.topNetsRow = true := by kernel_rfl
theorem k20 : fact20 Tryz.pinned.checked.prog 4 Tryz.f4 Rows.topNetsSpec Rows.topNetsRow = true := by kernel_rfl
theorem k21 : fact21 Tryz.pinned.checked.prog 4 Tryz.f4 Rows.topNetsSpec Rows.topNetsRow = true := by kernel_rfl
theorem k22 : fact22 Tryz.pinned.checked.prog 4 Tryz.f4 Rows.topNetsSpec Rows.topNetsRow = true := by kernel_rfl
theorem k23 : fact23 Tryz.pinned.checked.prog 4 Tryz.f4 Rows.topNetsSpec Rows.topNetsRow = true := by kernel_rfl
theorem k24 : fact24 Tryz.pinned.checked.prog 4 Tryz.f4 Rows.topNetsSpec Rows.topNetsRow = true := by kernel_rfl
theorem k25 : fact25 Tryz.pinned.checked.prog 4 Tryz.f4 Rows.topNetsSpec Rows.topNetsRow = true := by kernel_rfl
theorem k26 : fact26 Tryz.pinned.checked.prog 4 Tryz.f4 Rows.topNetsSpec Rows.topNetsRow = true := by kernel_rfl
theorem k27 : fact27 Tryz.pinned.checked.prog 4 Tryz.f4 Rows.topNetsSpec Rows.topNetsRow = true := by kernel_rfl
theorem k28 : fact28 Tryz.pinned.checked.prog 4 Tryz.f4 Rows.topNetsSpec Rows.topNetsRow = true := by kernel_rfl
theorem k29 : fact29 Tryz.pinned.checked.prog 4 Tryz.f4 Rows.topNetsSpec Rows.topNetsRow = true := by kernel_rfl
theorem k30 : fact30 Tryz.pinned.checked.prog 4 Tryz.f4 Rows.topNetsSpec Rows.topNetsRow = true := by kernel_rfl
theorem k31 : fact31 Tryz.pinned.checked.prog 4 Tryz.f4 Rows.topNetsSpec Rows.topNetsRow = true := by kernel_rfl
theorem joined : joinedFacts Tryz.pinned.checked.prog 4 Tryz.f4 Rows.topNetsSpec Rows.topNetsRow = true := oW k0 k1 k2 k3 k4 k5 k6 k7 k8 k9 k10 k11 k12 k13 k14 k15 k16 k17 k18 k19 k20 k21 k22 k23 k24 k25 k26 k27 k28 k29 k30 k31
theorem o1 : Tryz.pinned.checked.prog.funcNamed Rows.topNetsRow.func = some 4 := by kernel_rfl
theorem o2 : decide (Tryz.f4.isInstance Tryz.pinned.checked.prog Rows.topNetsRow.origin Rows.topNetsRow.targs) = true := by kernel_rfl
theorem o3 : Tryz.f4.isWrapper Tryz.pinned.checked.prog Rows.topNetsRow.wrapper Rows.topNetsRow.mainSum := by
  unfold Func.isWrapper
  first | (rw [if_pos (by decide +kernel)]; kernel_rfl) | (rw [if_neg (by decide +kernel)]; exact ⟨rfl, rfl⟩)
theorem over : Rows.TopNetsSaid :=
  OpenClaim.holds_of_wide 4 Tryz.f4 rfl rfl rfl rfl rfl rfl rfl ⟨rfl, rfl, rfl, rfl, rfl⟩ rfl rfl rfl rfl rfl o1 Tryz.func4 joined
    (of_decide_eq_true o2) o3 (fun os started H enc _ => lifted os started H enc)
theorem p1 : Rows.topNetsRow.wfByText (OpenSpec.ofChange Rows.topNetsSpec) = true := by kernel_rfl
theorem p2 : Tryz.pinned.checked.prog.mainIs = some (true, "c1beaf98b258450ee8dabec6dd9396e465fbeca816d961dea85c85d0d7b4bd98".toList) := by kernel_rfl
theorem p3 : false = Tryz.pinned.checked.prog.looks [] := by kernel_rfl
theorem p4 : ([26, 49].all fun u => !Tryz.prog.wantsStandIn u) = true := by kernel_rfl
theorem p5 : false = Rows.topNetsRow.goesBy Tryz.pinned.checked.prog := oX zc _ rfl
theorem p6 (f : FuncId) (fn : Func) (hf : Tryz.pinned.checked.prog.funcNamed Rows.topNetsRow.func = some f) (hfn : Tryz.pinned.checked.prog.funcs[f]? = some fn) : false = Tryz.pinned.checked.prog.looks [] ∧ ∀ (j : Nat) t, fn.params[j]? = some t → Tryz.pinned.checked.prog.wantsStandIn t = false := by
  obtain rfl : f = 4 := (Option.some.inj (o1.symm.trans hf)).symm
  obtain rfl : fn = Tryz.f4 := (Option.some.inj (Tryz.func4.symm.trans hfn)).symm
  exact ⟨p3, fun j t ht => by
    rw [Tryz.params4] at ht
    have hm : t ∈ [26, 49] := by simpa using Array.mem_of_getElem? ht
    exact (show Tryz.prog.wantsStandIn t = false by simpa using List.all_eq_true.1 p4 t hm)⟩
theorem proved : Rows.TopNetsCardSaid :=
  Claim7.holds_tied_plain_at .later [] [.data] true (true, "c1beaf98b258450ee8dabec6dd9396e465fbeca816d961dea85c85d0d7b4bd98") false
    over (fun _ h => by cases h) p1 (fun _ h => by cases h) topNets_row_tie rfl ⟨rfl, rfl⟩ p2 rfl p6 p5
end Go.Proofs.YtmhohaanddglbaaGreatDoor.topNets
#print axioms Go.Proofs.YtmhohaanddglbaaGreatDoor.topNets.proved
