/- TopShares, as a card: for any configuration and any commands it answers true, where calendar.words starts as the program's text lays it; no other condition. -/
import Derived.Test.YtmhohaanddglbaaGreatDoorM08
import Derived.Test.YtmhohaanddglbaaGreatDoorM09
namespace Go.Proofs.YtmhohaanddglbaaGreatDoor.topShares
open Go.ChangeShapes Go.WideShapes Go.ChangeAt Go.RowKit Go.Deep
open Go.ChangeMaps (open_string shut_string)
theorem walk (vm vs vc:Value) (C:bZ) (a:Option Addr) (n cap:Nat) (l:List Cm) (w:World) (hc:dM w vm vs vc C) (hl:Sl rJ 7 w (.slice a n cap) l∧∀t∈l,t.Fit) (hw:kO w):
    Calls Tryz.prog 3 #[eT vm vs vc C,.slice a n cap] w fun e w'=>e=.returned (.bool true)∧Below w.heap.size w w':=
  acP vm vs vc (.slice a n cap) C l w hc hl.1 hl.2 hw
theorem laidOut:laidOutB Tryz.prog=true:=by kernel_rfl
set_option maxRecDepth 100000 in
theorem lifted (os:Os) (started:os.Started) (H:Type) (enc:TypeId×Value→H):
    ReturnsInHanded {} Tryz.checked os 3 .any (fun w args=>(Rows.topSharesSpec.pre enc Tryz.prog Tryz.f3 [] false w args∧laidMetH Tryz.prog sF w)∧sizedMet enc Tryz.prog Tryz.f3 (OpenSpec.ofChange Rows.topSharesSpec) false w args)
      (Rows.topSharesSpec.post enc Tryz.prog Tryz.f3 false true false false):=by
  refine returnsInHanded_of_change_and (C:=Tryz.checked) (X:=fun w _=>laidMetH Tryz.prog sF w) (fun _ _ _ hh h=>h.of_heap hh) Gn started (by kernel_rfl) Tryz.func3
    (ChangeSpec.witness_shaped (enc:=enc) (C:=Tryz.checked) (os:=os) (X:=fun w _=>laidMetH Tryz.prog sF w) false (World.doorLaid Tryz.prog 400 os) #[Mw,.slice none 0 0] 8 rfl (World.shaped_of_RefB (by kernel_rfl) (by kernel_rfl)) (by kernel_rfl) (by kernel_rfl) (by kernel_rfl) (Gp os _)) ?_
  intro W base args ds gs before hval0 hW _ _ hL _
  have hval:∀(j:Nat) t v,Tryz.f3.params[j]?=some t→args[j]?=some v→Value.okWide Tryz.prog W .any base t v:=hval0
  have hW':=hW
  obtain⟨p,q,hA0,hV,rfl,hfz,hnd⟩:=hW
  have hA:DataW.TrodAll enc Tryz.prog W 0 (fun _=>true) true Tryz.f3.params.toList args.toList ds p:=hA0
  rw[Tryz.params3]at hA hval
  obtain⟨v0,vs0,d0,ds0,p0,q0,hargs,rfl,rfl,h0,r0⟩:=trodAll_cons hA
  obtain⟨v1,vs1,d1,ds1,p1,q1,rfl,rfl,rfl,h1,r1⟩:=trodAll_cons r0
  obtain⟨rfl,rfl,rfl⟩:=trodAll_nil r1
  obtain rfl:args=#[v0,v1]:=by cases args;simp_all
  obtain⟨rfl,rfl⟩:=trodVars_none hV
  have k0:=h0
  have lt0:∀x∈p0,x.block<W.heap.size:=by obtain⟨m,hm⟩:=k0;exact DataW.trod_lt m _ _ _ hm
  obtain⟨vm0,vs0,vc0,C0,rfl,w0⟩:=Mx (hval 0 26 v0 rfl rfl) h0
  obtain⟨a1,len1,cap1,rfl⟩:=okWide_slice Tryz.underlying27 (hval 1 27 v1 rfl rfl)
  have k1:=h1
  have lt1:∀x∈p1,x.block<W.heap.size:=by obtain⟨m,hm⟩:=k1;exact DataW.trod_lt m _ _ _ hm
  obtain⟨l1,w1⟩:=My h1
  have hw:=Gq hL
  clear hA0 hval0
  refine(walk vm0 vs0 vc0 C0 a1 len1 cap1 l1 W w0 w1 hw).mono fun e W' ⟨he,eK⟩=> ?_
  subst he
  exact⟨_,rfl,_,_,_,[],_,[],hW',trodAll_mk1 (shut_bool Tryz.underlying4 _),(trodAll_cons_mk (Below.trod laidOut (by kernel_rfl) (of_decide_eq_true (by kernel_rfl)) k0 eK lt0) (trodAll_cons_mk (Below.trod laidOut (by kernel_rfl) (of_decide_eq_true (by kernel_rfl)) k1 eK lt1) trodAll_mk0)),rfl,eK.frame _,fun h=>by cases h⟩
theorem k0:Bv Tryz.pinned.checked.prog 3 Tryz.f3 Rows.topSharesSpec Rows.topSharesRow=true:=by kernel_rfl
theorem k1:Bx Tryz.pinned.checked.prog 3 Tryz.f3 Rows.topSharesSpec Rows.topSharesRow=true:=by kernel_rfl
theorem k2:By Tryz.pinned.checked.prog 3 Tryz.f3 Rows.topSharesSpec Rows.topSharesRow=true:=by kernel_rfl
theorem k3:Bz Tryz.pinned.checked.prog 3 Tryz.f3 Rows.topSharesSpec Rows.topSharesRow=true:=by kernel_rfl
theorem k4:BA Tryz.pinned.checked.prog 3 Tryz.f3 Rows.topSharesSpec Rows.topSharesRow=true:=by kernel_rfl
theorem k5:BB Tryz.pinned.checked.prog 3 Tryz.f3 Rows.topSharesSpec Rows.topSharesRow=true:=by kernel_rfl
theorem k6:BD Tryz.pinned.checked.prog 3 Tryz.f3 Rows.topSharesSpec Rows.topSharesRow=true:=by kernel_rfl
theorem k7:BH Tryz.pinned.checked.prog 3 Tryz.f3 Rows.topSharesSpec Rows.topSharesRow=true:=by kernel_rfl
theorem k8:BI Tryz.pinned.checked.prog 3 Tryz.f3 Rows.topSharesSpec Rows.topSharesRow=true:=by kernel_rfl
theorem k9:BJ Tryz.pinned.checked.prog 3 Tryz.f3 Rows.topSharesSpec Rows.topSharesRow=true:=by kernel_rfl
theorem k10:BL Tryz.pinned.checked.prog 3 Tryz.f3 Rows.topSharesSpec Rows.topSharesRow=true:=by kernel_rfl
theorem k11:BM Tryz.pinned.checked.prog 3 Tryz.f3 Rows.topSharesSpec Rows.topSharesRow=true:=by kernel_rfl
theorem k12:BN Tryz.pinned.checked.prog 3 Tryz.f3 Rows.topSharesSpec Rows.topSharesRow=true:=by kernel_rfl
theorem k13:BO Tryz.pinned.checked.prog 3 Tryz.f3 Rows.topSharesSpec Rows.topSharesRow=true:=by kernel_rfl
theorem k14:BP Tryz.pinned.checked.prog 3 Tryz.f3 Rows.topSharesSpec Rows.topSharesRow=true:=by kernel_rfl
theorem k15:BR Tryz.pinned.checked.prog 3 Tryz.f3 Rows.topSharesSpec Rows.topSharesRow=true:=by kernel_rfl
theorem k16:BT Tryz.pinned.checked.prog 3 Tryz.f3 Rows.topSharesSpec Rows.topSharesRow=true:=by kernel_rfl
theorem k17:BU Tryz.pinned.checked.prog 3 Tryz.f3 Rows.topSharesSpec Rows.topSharesRow=true:=by kernel_rfl
theorem k18:BV Tryz.pinned.checked.prog 3 Tryz.f3 Rows.topSharesSpec Rows.topSharesRow=true:=by kernel_rfl
theorem k19:BZ Tryz.pinned.checked.prog 3 Tryz.f3 Rows.topSharesSpec Rows.topSharesRow=true:=by kernel_rfl
theorem k20:B6 Tryz.pinned.checked.prog 3 Tryz.f3 Rows.topSharesSpec Rows.topSharesRow=true:=by kernel_rfl
theorem k21:B7 Tryz.pinned.checked.prog 3 Tryz.f3 Rows.topSharesSpec Rows.topSharesRow=true:=by kernel_rfl
theorem k22:B8 Tryz.pinned.checked.prog 3 Tryz.f3 Rows.topSharesSpec Rows.topSharesRow=true:=by kernel_rfl
theorem k23:Ca Tryz.pinned.checked.prog 3 Tryz.f3 Rows.topSharesSpec Rows.topSharesRow=true:=by kernel_rfl
theorem k24:Cb Tryz.pinned.checked.prog 3 Tryz.f3 Rows.topSharesSpec Rows.topSharesRow=true:=by kernel_rfl
theorem k25:Cc Tryz.pinned.checked.prog 3 Tryz.f3 Rows.topSharesSpec Rows.topSharesRow=true:=by kernel_rfl
theorem k26:Cd Tryz.pinned.checked.prog 3 Tryz.f3 Rows.topSharesSpec Rows.topSharesRow=true:=by kernel_rfl
theorem k27:Ce Tryz.pinned.checked.prog 3 Tryz.f3 Rows.topSharesSpec Rows.topSharesRow=true:=by kernel_rfl
theorem k28:Cf Tryz.pinned.checked.prog 3 Tryz.f3 Rows.topSharesSpec Rows.topSharesRow=true:=by kernel_rfl
theorem k29:Cg Tryz.pinned.checked.prog 3 Tryz.f3 Rows.topSharesSpec Rows.topSharesRow=true:=by kernel_rfl
theorem k30:Ci Tryz.pinned.checked.prog 3 Tryz.f3 Rows.topSharesSpec Rows.topSharesRow=true:=by kernel_rfl
theorem k31:Cj Tryz.pinned.checked.prog 3 Tryz.f3 Rows.topSharesSpec Rows.topSharesRow=true:=by kernel_rfl
theorem joined:joinedFacts Tryz.pinned.checked.prog 3 Tryz.f3 Rows.topSharesSpec Rows.topSharesRow=true:=Gr k0 k1 k2 k3 k4 k5 k6 k7 k8 k9 k10 k11 k12 k13 k14 k15 k16 k17 k18 k19 k20 k21 k22 k23 k24 k25 k26 k27 k28 k29 k30 k31
theorem o1:Tryz.pinned.checked.prog.funcNamed Rows.topSharesRow.func=some 3:=by kernel_rfl
theorem o2:decide (Tryz.f3.isInstance Tryz.pinned.checked.prog Rows.topSharesRow.origin Rows.topSharesRow.targs)=true:=by kernel_rfl
theorem o3:Tryz.f3.isWrapper Tryz.pinned.checked.prog Rows.topSharesRow.wrapper Rows.topSharesRow.mainSum:=by
  unfold Func.isWrapper
  first|(rw[if_pos (by decide+kernel)];kernel_rfl)|(rw[if_neg (by decide+kernel)];exact⟨rfl,rfl⟩)
theorem over:Rows.TopSharesSaid:=
  OpenClaim.holds_of_wide 3 Tryz.f3 rfl rfl rfl rfl rfl rfl rfl ⟨rfl,rfl,rfl,rfl,rfl⟩ rfl rfl rfl rfl rfl o1 Tryz.func3 joined
    (of_decide_eq_true o2) o3 (fun os started H enc _=>lifted os started H enc)
theorem p1:Rows.topSharesRow.wfByText (OpenSpec.ofChange Rows.topSharesSpec)=true:=by kernel_rfl
theorem p2:Tryz.pinned.checked.prog.mainIs=some (true,"c1beaf98b258450ee8dabec6dd9396e465fbeca816d961dea85c85d0d7b4bd98".toList):=by kernel_rfl
theorem p3:false=Tryz.pinned.checked.prog.looks []:=by kernel_rfl
theorem p4:([26,27].all fun u=> !Tryz.prog.wantsStandIn u)=true:=by kernel_rfl
theorem p5:false=Rows.topSharesRow.goesBy Tryz.pinned.checked.prog:=Gt Gu _ rfl
theorem p6 (f:FuncId) (fn:Func) (hf:Tryz.pinned.checked.prog.funcNamed Rows.topSharesRow.func=some f) (hfn:Tryz.pinned.checked.prog.funcs[f]?=some fn):false=Tryz.pinned.checked.prog.looks []∧∀(j:Nat) t,fn.params[j]?=some t→Tryz.pinned.checked.prog.wantsStandIn t=false:=by
  obtain rfl:f=3:=(Option.some.inj (o1.symm.trans hf)).symm
  obtain rfl:fn=Tryz.f3:=(Option.some.inj (Tryz.func3.symm.trans hfn)).symm
  exact⟨p3,fun j t ht=>by
    rw[Tryz.params3]at ht
    have hm:t∈[26,27]:=by simpa using Array.mem_of_getElem? ht
    exact(show Tryz.prog.wantsStandIn t=false by simpa using List.all_eq_true.1 p4 t hm)⟩
theorem proved:Rows.TopSharesCardSaid:=
  Claim7.holds_tied_plain_at .later [] [.data] true (true,"c1beaf98b258450ee8dabec6dd9396e465fbeca816d961dea85c85d0d7b4bd98") false
    over (fun _ h=>by cases h) p1 (fun _ h=>by cases h) topShares_row_tie rfl ⟨rfl,rfl⟩ p2 rfl p6 p5
end Go.Proofs.YtmhohaanddglbaaGreatDoor.topShares
#print axioms Go.Proofs.YtmhohaanddglbaaGreatDoor.topShares.proved
