/- Texts of the proof of TopNets, joined: Notice, Cut0, Cut1, Fire, Fire2, First3, Tick, Acc, Top0, DNew, Top1, LTick, LDay, Plain, LAw, LAw2. -/
import Derived.Test.YtmhohaanddglbaaGreatDoorM01
import Derived.Test.YtmhohaanddglbaaGreatDoorM02
import Derived.Test.YtmhohaanddglbaaGreatDoorM06
import Derived.Test.YtmhohaanddglbaaGreatDoorM07
import Derived.Test.YtmhohaanddglbaaGreatDoorM09
import Derived.RangeFuncNested
import Derived.RangeFuncBound
import Derived.RangeFuncCalls
import Derived.RangeFuncLeaves
import Derived.Shelf.Abstract
import Derived.Shelf.RegionOpen
import Derived.OwnWalkIn
import Derived.TacticsInMore
import Derived.LoopNIn
import Derived.LoopIn
import Derived.Maps.AppendAt
import Derived.Deep.LoopGhost
set_option linter.all false
set_option maxRecDepth 100000
set_option maxHeartbeats 16000000
namespace Go
def Boxed.c:=@Boxed.cell
end Go
namespace Go.Proofs.YtmhohaanddglbaaGreatDoor
open Go.RowKit Go.Shelf
section
attribute [local go_sem] Oper.semAt_some
def notK (C:Cfg)(x:Cy)(n:Nat):List (Int×Int):=(List.range n).filterMap fun (i:Nat)=>if 0<C.lead∧x.cut<x.fund - (2 - (i:Int)) * C.lead then some ((i:Int)+1,x.fund - (2 - (i:Int)) * C.lead) else none
theorem dD (C:Cfg)(x:Cy)(n:Nat):notK C x (n+1)=notK C x n++if 0<C.lead∧x.cut<x.fund - (2 - (n:Int)) * C.lead then [((n:Int)+1,x.fund - (2 - (n:Int)) * C.lead)] else []:=by
 unfold notK;rw [List.range_succ,List.filterMap_append];congr 1
 by_cases h:0<C.lead∧x.cut<x.fund - (2 - (n:Int)) * C.lead
 ·simp [h]
 ·simp [h]
theorem gR (C:Cfg)(x:Cy)(n:Nat):(notK C x n).length≤n:=by
 unfold notK;refine z5 (Ak _ _) ?_;simp
theorem jf {C:Cfg}(h:¬ 0<C.lead)(x:Cy)(n:Nat):notK C x n=[]:=by
 unfold notK;rw [List.filterMap_eq_nil_iff];intro i _;simp [h]
def KB (a b:Nat)(W W':World):Prop:=W'.heap[a]?=W.heap[a]?∧W'.heap[b]?=W.heap[b]?
theorem KB.refl (a b:Nat)(W:World):KB a b W W:=⟨rfl,rfl⟩
theorem KB.trans {a b:Nat}{U V W:World}(h:KB a b U V)(k:KB a b V W):KB a b U W:=⟨k.1.trans h.1,k.2.trans h.2⟩
abbrev nEnc (p:Int×Int):Array Value:=#[.int .i64 p.1,.int .i64 p.2]
theorem qK (F:Fence)(n:Nat)(h:F.fn 314)(hro:F.round=none)(hn:1≤n)(l bc bx:Nat)(vm vs vc:Value)(C:Cfg)(x:Cy)(hC:Valid C)(hx:0≤x.fund∧x.fund≤100000)(J Jx:List (Int×Int)→World→Prop)
  (hY:∀pre y W,J pre W→pre.length<2→YieldAt F (n - 1) Tryz.prog l #[.int .i64 y.1,.int .i64 y.2] W fun e W'=>
   (e=.returned (.bool true)∧J (pre++[y]) W'∧KB bc bx W W')∨(e=.returned (.bool false)∧Jx (pre++[y]) W'))
  (W:World) (hc:Blk W bc 26 (cfgC vm vs vc C)) (hbx:Blk W bx 63 (cCy x)) (h0:J [] W) :
  CallsIn F n Tryz.prog 314 #[.func (.yield l) #[] #[],ptr bc,ptr bx] W fun e W'=>(∃v,e=.returned v)∧
   ((∃ys,ys=notK C x 2∧J ys W')∨(∃pre,True∧Jx pre W')):=by
 refine callsIn_of_wp Tryz.func314 rfl h ?_ hro;simp only [Tryz.ntmps314,AP,Ay,AL,Nat.reduceAdd,Nat.reduceSub,Array.replicate_succ,Array.replicate_zero,List.push_toArray,List.append_toArray,Bl,List.cons_append];gi_wp2
 gi_loopw [4] (fun p wr=>∃k:Nat,k≤2∧p=.int .i64 ((k+1:Nat):Int)∧J (notK C x k) wr∧KB bc bx W wr) (fun p _=>3 - (intOf p).toNat)
 case atStart=>exact ⟨0,by omega,rfl,h0,KB.refl _ _ _⟩
 case round=>
  obtain ⟨k,O,rfl,D,m⟩:=hrel;have d:=aa D;have P:=hC.lead;have I:=aa (m.1.trans hc);have M:=aa (m.2.trans hbx);have t:Blk wr bc 26 (cfgC vm vs vc C):=I.o;have f:Blk wr bx 63 (cCy x):=M.o;have Q:=t.c 5;have N:=f.c 0;have R:=f.c 1;clear D t f;obtain rfl | rfl | rfl:k=0∨k=1∨k=2:=by omega
  ·by_cases hl0:0<C.lead
   ·have z:=dT hl0;have G:wrap64 (2 * C.lead)=2 * C.lead:=IntWalk.wrap64_in _ (by omega);have L:IntKind.i64.wrap (2 * C.lead)=2 * C.lead:=Ax _ (by omega);have H:wrap64 (x.fund - 2 * C.lead)=x.fund - 2 * C.lead:=IntWalk.wrap64_in _ (by omega);have E:IntKind.i64.wrap (x.fund - 2 * C.lead)=x.fund - 2 * C.lead:=Ax _ (by omega);have s:Hid (notK C x 1=notK C x 0++if x.cut<x.fund - 2 * C.lead then [((1:Int),x.fund - 2 * C.lead)] else []):=aa (by rw [dD];simp [hl0]);by_cases hc2:x.cut<x.fund - 2 * C.lead
    ·have u:=dT hc2;have j:Hid (notK C x 1=notK C x 0++[((1:Int),x.fund - 2 * C.lead)]):=aa (by rw [s.o,if_pos hc2]);obtain ⟨fn,r,b,q,A,B⟩:=hY _ ((1:Int),x.fund - 2 * C.lead) wr d.o (by have:=gR C x 0;omega);dsimp only at A;clear hc2;gi_wp2
     refine B.mono ?_;rintro e K (⟨rfl,g,i⟩ | ⟨rfl,a⟩)
     ·gi_wp2
      go_roundw
      case rel=>exact ⟨1,by omega,rfl,by rw [j.o];exact g,m.trans i⟩
      case measure=>decide
     ·gi_wp2
      refine bodyPost_ret (results_none rfl _ _ _) rfl ?_;exact ⟨⟨_,rfl⟩,.inr ⟨_,trivial,a⟩⟩
    ·have u:=dF hc2;have j:Hid (notK C x 1=notK C x 0):=aa (by rw [s.o,if_neg hc2];simp);clear hc2;gi_wp2
     refine ⟨fun _ h=>(by cases h),?_⟩;gi_wp2
     go_roundw
     case rel=>exact ⟨1,by omega,rfl,by rw [j.o];exact d.o,m⟩
     case measure=>decide
   ·have z:=dF hl0;gi_wp2
    go_end0;exact ⟨⟨_,rfl⟩,.inl (by have h:=d.o;rw [jf (Int.not_lt.2 hl0)] at h ⊢;exact h)⟩
  ·by_cases hl0:0<C.lead
   ·have z:=dT hl0;have G:wrap64 (1 * C.lead)=1 * C.lead:=IntWalk.wrap64_in _ (by omega);have L:IntKind.i64.wrap (1 * C.lead)=1 * C.lead:=Ax _ (by omega);have H:wrap64 (x.fund - C.lead)=x.fund - C.lead:=IntWalk.wrap64_in _ (by omega);have E:IntKind.i64.wrap (x.fund - C.lead)=x.fund - C.lead:=Ax _ (by omega);have s:Hid (notK C x 2=notK C x 1++if x.cut<x.fund - C.lead then [((2:Int),x.fund - C.lead)] else []):=aa (by rw [dD];simp [hl0]);by_cases hc2:x.cut<x.fund - C.lead
    ·have u:=dT hc2;have j:Hid (notK C x 2=notK C x 1++[((2:Int),x.fund - C.lead)]):=aa (by rw [s.o,if_pos hc2]);obtain ⟨fn,r,b,q,A,B⟩:=hY _ ((2:Int),x.fund - C.lead) wr d.o (by have:=gR C x 1;omega);dsimp only at A;clear hc2;gi_wp2
     refine B.mono ?_;rintro e K (⟨rfl,g,i⟩ | ⟨rfl,a⟩)
     ·gi_wp2
      go_roundw
      case rel=>exact ⟨2,by omega,rfl,by rw [j.o];exact g,m.trans i⟩
      case measure=>decide
     ·gi_wp2
      refine bodyPost_ret (results_none rfl _ _ _) rfl ?_;exact ⟨⟨_,rfl⟩,.inr ⟨_,trivial,a⟩⟩
    ·have u:=dF hc2;have j:Hid (notK C x 2=notK C x 1):=aa (by rw [s.o,if_neg hc2];simp);clear hc2;gi_wp2
     refine ⟨fun _ h=>(by cases h),?_⟩;gi_wp2
     go_roundw
     case rel=>exact ⟨2,by omega,rfl,by rw [j.o];exact d.o,m⟩
     case measure=>decide
   ·have z:=dF hl0;gi_wp2
    go_end0;exact ⟨⟨_,rfl⟩,.inl (by have h:=d.o;rw [jf (Int.not_lt.2 hl0)] at h ⊢;exact h)⟩
  ·gi_wp2
   go_end0;exact ⟨⟨_,rfl⟩,.inl ⟨_,rfl,d.o⟩⟩
theorem uH (F:Fence)(n:Nat)(h:F.fn 255)(hro:F.round=none)(vm vs vc:Value)(C:Cfg)(x:Cy)(w:World):CallsIn F n Tryz.prog 255 #[cfgV vm vs vc C,vCy x] w fun e w'=>e=.returned (.func (.func 314) #[] #[ptr w.heap.size,ptr (w.heap.size+1)])∧w'=(w.alloc (.cells (cfgC vm vs vc C) 26)).alloc (.cells (cCy x) 63):=by
 refine callsIn_of_wp Tryz.func255 rfl h ?_ hro;simp only [Tryz.ntmps255,AP,Ay,AL,Nat.reduceAdd,Nat.reduceSub,Array.replicate_succ,Array.replicate_zero,List.push_toArray,List.append_toArray,Bl,List.cons_append];gi_wp2
 go_ret;exact ⟨rfl,rfl⟩
theorem lC (F:Fence)(n:Nat)(h:F.fn 314)(hro:F.round=none)(hn:1≤n)(bc bx:Nat)(vm vs vc:Value)(C:Cfg)(x:Cy)(hC:Valid C)(hx:0≤x.fund∧x.fund≤100000)(w:World)(hc:Blk w bc 26 (cfgC vm vs vc C))(hbx:Blk w bx 63 (cCy x)) :
  SeqStopsK F n Tryz.prog 314 #[ptr bc,ptr bx] nEnc (KB bc bx) (fun ys=>ys=notK C x 2) (fun _=>True) 2 w:=fun l J Jx W hW _ _ hY h0=>
 qK F n h hro hn l bc bx vm vs vc C x hC hx J Jx hY W (hc.keep hW) (hbx.keep hW) h0
def planT (m:Int)(p:Int×Int):Tm:=⟨p.2,2,m,p.1⟩
def planM (C:Cfg)(i m:Int):List Tm:=(notK C (cycOf C i) 2).map (planT m)
theorem uI (vm vs vc:Value)(C:Cfg)(i m:Int)(w:World)(hc:CSl w vm vs vc C)(hv:Valid C)(hi:okC C i)(hm:okM C m)(hx:0≤(cycOf C i).fund∧(cycOf C i).fund≤100000):Calls Tryz.prog 208 #[cfgV vm vs vc C,.int .i64 i,.int .i64 m] w fun e w'=>∃u,e=.returned (.tuple #[u,.int .i64 0])∧w'.ownsRow w.heap.size 197 4 u (planM C i m).length (flat eTm (planM C i m))∧Bw w w':=by
 refine (callsIn_wide (n:=5)).1 ?_;have hF:Fence.wide.fn 208:=trivial;have al:Fence.wide.fn 254:=trivial;have am:Fence.wide.fn 112:=trivial;have ad:Fence.wide.fn 255:=trivial;have j:Fence.wide.round=none:=rfl;have T:Bw w ((w.alloc (.cells (cfgC vm vs vc C) 26)).alloc (.cells #[.int .i64 m] 3)):=Bn.alloc (by simp) _;have H:=aa (ln vm vs vc C i _ (hc.keep T) hv);have ah:Hid ((if okC C i then (0:Int) else 8)=0):=aa (if_pos hi);rw [ah.o] at H;have HX:=aa hx;have ae:Hid (planM C i m=(notK C (cycOf C i) 2).map (planT m)):=aa rfl;rw [ae.o];generalize cycOf C i=x at *;clear hi;refine callsIn_of_wp_marks Tryz.func208 rfl hF ?_ j;simp only [Tryz.ntmps208,AP,Ay,AL,Nat.reduceAdd,Nat.reduceSub,Array.replicate_succ,Array.replicate_zero,List.push_toArray,List.append_toArray,Bl,List.cons_append];have HB:Hid (Blk ((w.alloc (.cells (cfgC vm vs vc C) 26)).alloc (.cells #[.int .i64 m] 3)) w.heap.size 26 (cfgC vm vs vc C)):=aa ((Blk.new w 26 _).alloc _);have V:Hid (Blk ((w.alloc (.cells (cfgC vm vs vc C) 26)).alloc (.cells #[.int .i64 m] 3)) (w.heap.size+1) 3 #[.int .i64 m]):=aa (heap_alloc2_new _ _ _);have HC:=aa hc;have HM:=aa hm;have HV:=aa hv;clear hc hv hm hx
 gi_wp2_with (gi_at_call 254;refine (callsIn_wide.2 H.o).mono ?_;rintro e I ⟨rfl,z⟩;have B1:=aa ((HB.o.keep z).alloc (.cells (cCy x) 63));have M1:=aa ((V.o.keep z).alloc (.cells (cCy x) 63));have X1:=aa (Blk.new I 63 (cCy x));have S:=aa ((T.trans (z.mono T.size)).alloc (z5 T.size z.size) (.cells (cCy x) 63));obtain ⟨p0,p1,p2,p3,p4,p5,p6,p7⟩:=s8 B1.o;have m0:=M1.o.c 0;have ao:w.heap.size+2≤I.heap.size:=(by have h:=z.size;simpa using h);clear z)
 have M:=aa (aG vm vs vc C _ (HC.o.keep S.o) m);rw [if_pos HM.o] at M;obtain ⟨Y,hY⟩:∃Y,I.alloc (.cells (cCy x) 63)=Y:=⟨_,rfl⟩;have ar:I.heap.size<Y.heap.size:=by rw [←hY];simp
 gi_wp2_with (first
  | (gi_at_call 112;refine (callsIn_wide.2 M.o).mono ?_;rintro e a ⟨g,rfl,k⟩;have B2:=aa (((B1.o.keep k).alloc (.cells (cMb g) 125)).alloc (.cells #[.slice none 0 0] 148));have M2:=aa (((M1.o.keep k).alloc (.cells (cMb g) 125)).alloc (.cells #[.slice none 0 0] 148));have U:=aa (((X1.o.keep k).alloc (.cells (cMb g) 125)).alloc (.cells #[.slice none 0 0] 148));have C2:=aa (((S.o.trans (k.mono S.o.size)).alloc (z5 S.o.size k.size) (.cells (cMb g) 125)).alloc (by have h1:=S.o.size;have X:=k.size;simp at h1 X ⊢;omega) (.cells #[.slice none 0 0] 148));obtain ⟨p0,p1,p2,p3,p4,p5,p6,p7⟩:=s8 B2.o;have m0:=M2.o.c 0;have x0:=U.o.c 0;have x1:=U.o.c 1;have x2:=U.o.c 2;have x3:=U.o.c 3;have ap:Y.heap.size≤a.heap.size:=(by rw [←hY];exact k.size);clear k)
  | (gi_at_call 255;refine (uH Fence.wide _ ad j vm vs vc C x _).mono ?_;rintro e w3 ⟨rfl,rfl⟩))
 obtain ⟨i0,hi,af,ai,ac⟩:=info_parts fK;have N:Hid (Go.Boxed ((((a.alloc (.cells (cMb g) 125)).alloc (.cells #[.slice none 0 0] 148)).alloc (.cells (cfgC vm vs vc C) 26)).alloc (.cells (cCy x) 63)) (a.heap.size+1) 148 (.slice none 0 0)):=aa (by have h:=((Go.Boxed.new (a.alloc (.cells (cMb g) 125)) 148 (.slice none 0 0)).alloc (.cells (cfgC vm vs vc C) 26)).alloc (.cells (cCy x) 63);simpa using h);have t:Hid (Blk ((((a.alloc (.cells (cMb g) 125)).alloc (.cells #[.slice none 0 0] 148)).alloc (.cells (cfgC vm vs vc C) 26)).alloc (.cells (cCy x) 63)) (a.heap.size+1+1) 26 (cfgC vm vs vc C)):=aa (by have h:=(Blk.new ((a.alloc (.cells (cMb g) 125)).alloc (.cells #[.slice none 0 0] 148)) 26 (cfgC vm vs vc C)).alloc (.cells (cCy x) 63);simpa using h);have y:Hid (Blk ((((a.alloc (.cells (cMb g) 125)).alloc (.cells #[.slice none 0 0] 148)).alloc (.cells (cfgC vm vs vc C) 26)).alloc (.cells (cCy x) 63)) (a.heap.size+1+1+1) 63 (cCy x)):=aa (by have h:=Blk.new (((a.alloc (.cells (cMb g) 125)).alloc (.cells #[.slice none 0 0] 148)).alloc (.cells (cfgC vm vs vc C) 26)) 63 (cCy x);simpa using h);have R:=aa ((M2.o.alloc (.cells (cfgC vm vs vc C) 26)).alloc (.cells (cCy x) 63));have E:=aa ((C2.o.alloc C2.o.size (.cells (cfgC vm vs vc C) 26)).alloc (z5 C2.o.size (by simp)) (.cells (cCy x) 63))
 have ak:((((a.alloc (.cells (cMb g) 125)).alloc (.cells #[.slice none 0 0] 148)).alloc (.cells (cfgC vm vs vc C) 26)).alloc (.cells (cCy x) 63)).heap.size=a.heap.size+1+1+1+1:=by simp
 have ab:w.heap.size+1<a.heap.size+1:=by omega
 obtain ⟨r,s⟩:∃r,(((a.alloc (.cells (cMb g) 125)).alloc (.cells #[.slice none 0 0] 148)).alloc (.cells (cfgC vm vs vc C) 26)).alloc (.cells (cCy x) 63)=r:=⟨_,rfl⟩;rw [show (((a.alloc (.cells #[.int .i64 g.coll,.int .i64 g.fund] 125)).alloc (.cells #[.slice none 0 0] 148)).alloc (.cells (cfgC vm vs vc C) 26)).alloc (.cells (cCy x) 63)=r from s];rw [s] at N t y R E ak;clear s p0 p1 p2 p3 p4 p5 p6 p7 m0 x0 x1 x2 x3;refine wpIn_rangeFunc_ownG j (by omega) (gf:=314) (lb:=#[ptr (a.heap.size+1+1),ptr (a.heap.size+1+1+1)]) rfl trivial (enters_of Tryz.func314 (by kernel_rfl) rfl)
  (lC Fence.wide (5 - 1) trivial j (by omega) (a.heap.size+1+1) (a.heap.size+1+1+1) vm vs vc C x HV.o HX.o r t.o y.o) KB.trans (fun W l o o' hl h h1 X=>by have b:=belowK_b (w:=r) (zY r.heap.size) W l o o' hl h h1 X;exact ⟨b.block _ (by omega),b.block _ (by omega)⟩) (zZ _ _) (fun _=>rfl)
  (fun (d:List (Int×Int)) W=>(∃v,Go.Boxed W (a.heap.size+1) 148 v∧W.ownsRow (a.heap.size+1) 197 4 v (d.map (planT m)).length (flat eTm (d.map (planT m)))∧True)∧Below (a.heap.size+1) r W∧Blk W (a.heap.size+1+1) 26 (cfgC vm vs vc C)∧Blk W (a.heap.size+1+1+1) 63 (cCy x))
  (fun _ _ _=>False)
  (OwnFrom.and (Own.from (holdsRow_own (a.heap.size+1) (a.heap.size+1) 148 197 4 (fun (d:List (Int×Int))=>(d.map (planT m)).length) (fun (d:List (Int×Int))=>flat eTm (d.map (planT m))) (fun _ _=>True)) _) (OwnFrom.and (ownFrom_below (by omega) (by omega)) (fun _ _ _ row hs hg hr=>⟨(hg.block _ hs.1.lt (fun e=>by have h:=(hr _ e.symm).1;omega)).trans hs.1,(hg.block _ hs.2.lt (fun e=>by have h:=(hr _ e.symm).1;omega)).trans hs.2⟩)))
  (fun _ _ _ _ _ hs _ _=>hs)
  ⟨⟨_,N.o,⟨by simp [flat],Or.inl ⟨rfl,rfl⟩⟩,trivial⟩,zZ _ _,t.o,y.o⟩
  (fun p=>{ tmps:=#[cfgV vm vs vc C,.int .i64 i,.int .i64 m,ptr w.heap.size,undef,ptr (w.heap.size+1),.slice none 0 0,.int .i64 0,ptr I.heap.size,.int .i64 0,ptr a.heap.size,.int .i64 0,ptr (a.heap.size+1),.int .i64 p.1,.int .i64 p.2,.tuple #[vCy x,.int .i64 0],.agg #[vm,vs,vc,.int .i64 C.line,.int .i64 C.capital,.int .i64 C.lead,.int .i64 C.trades,.int .i64 C.bids],.int .i64 i,.tuple #[vCy x,.int .i64 0],vCy x,.int .i64 0,.int .i64 0,.bool false,undef,.tuple #[vMb g,.int .i64 0],.agg #[vm,vs,vc,.int .i64 C.line,.int .i64 C.capital,.int .i64 C.lead,.int .i64 C.trades,.int .i64 C.bids],.int .i64 m,.tuple #[vMb g,.int .i64 0],vMb g,.int .i64 0,.int .i64 0,.bool false,undef,.agg #[vm,vs,vc,.int .i64 C.line,.int .i64 C.capital,.int .i64 C.lead,.int .i64 C.trades,.int .i64 C.bids],.agg #[.int .i64 x.cut,.int .i64 x.fund,.int .i64 x.buyin,.int .i64 x.close],.func (.func 314) #[] #[ptr (a.heap.size+1+1),ptr (a.heap.size+1+1+1)],.int .i64 p.1,.int .i64 p.2,undef,undef,undef,undef,undef,undef,undef,undef],defers:=[] }) ?assign ?body ?done ?stop
 case assign=>
  intro l p W K P;gi_wp2
  exact P
 case body=>
  rintro l d p W ⟨⟨v,hv,f,_⟩,A,B,O⟩ aq;have J:=aa B;have Q:=aa O;clear B O;have F:=aa hv;have q:=aa f;have HB:=aa A;have hc:=hv.c;have au:W.cell? ⟨w.heap.size+1,0,none⟩=some (.int .i64 m):=(A.c (p:=⟨w.heap.size+1,0,none⟩) ab).trans (R.o.c 0);have an:=A.size;have Z:(d.map (planT m)).length≤2:=by rw [Ad];omega
  have G:Hid ((d++[p]).map (planT m)=d.map (planT m)++[planT m p]):=aa (by simp);obtain ⟨L,hL⟩:∃L,d.map (planT m)=L:=⟨_,rfl⟩;rw [hL] at q G Z;obtain ⟨nv,kv,rfl⟩:=ag f;rw [hL] at F q hc;have aj:Hid (flat eTm L++eTm (planT m p)=flat eTm (L++[planT m p])):=aa (by simp [flat]);clear hv f A hL;gi_wp2_with (gi_at_builtin;refine wpListIn_append_own _ rfl _ _ 148 rfl (a.heap.size+1) 197 i0 (.agg #[.int .i64 0,.int .i64 0,.int .i64 0,.int .i64 0]) 4 32 Tryz.underlying148 hi af ai ac rfl (by decide) (.slice nv L.length kv) L.length (flat eTm L) rfl (q.o.alloc _) ⟨W.heap.size,0,none⟩ 1 1 (eTm (planT m p)) rfl rfl (yL W (planT m p) _ rfl) (oneTm _) (by unfold maxLen;omega) (by omega) (by simp;omega) ?_;intro v' w4 hown' hgrow _;obtain ⟨g',cap',rfl⟩:=ownsRow_succ hown';obtain ⟨hv1,hv2,hr2,hk2,hb2⟩:=F.o.appended (by decide) q.o (by omega) (zY _) hown' hgrow;have ax:=hv1.c;have av:=hv1.frozen)
  have n1:=((J.o.alloc (.cells (cTm (planT m p)) 197)).grown (q.o.alloc _) hgrow (by decide)).far 0 (.slice (some ⟨g',0,none⟩) (L.length+1) cap') (show a.heap.size+1+1≠a.heap.size+1 by omega);have n2:=((Q.o.alloc (.cells (cTm (planT m p)) 197)).grown (q.o.alloc _) hgrow (by decide)).far 0 (.slice (some ⟨g',0,none⟩) (L.length+1) cap') (show a.heap.size+1+1+1≠a.heap.size+1 by omega);exact ⟨hk2.from _,⟨n1.trans J.o.symm,n2.trans Q.o.symm⟩,⟨_,hv2,by rw [G.o,z8,←aj.o];exact hr2,trivial⟩,HB.o.trans hb2,n1,n2⟩
 case done=>
  rintro D ys W hD rfl ⟨⟨v,hv,f,_⟩,A,_⟩ P;have hc:=hv.c;have q:=aa f;clear f hv;gi_wp2
  refine ⟨by simp,.inl ⟨_,_,rfl,run_takeDeferred P,?_⟩⟩;refine ⟨.tuple #[v,.int .i64 0],by simp [results,Tryz.results208,go_sem],v,rfl,?_,?_⟩
  ·exact aw (ownsRow_putObj q.o _ P rfl) (by omega)
  ·exact (E.o.trans (A.mono (by omega))).trans (belowK_b (w:=r) (by omega) W D _ _ hD P rfl rfl)
 case stop=>
  rintro D c d W _ _ h _;exact h.elim
end
end Go.Proofs.YtmhohaanddglbaaGreatDoor
namespace Go.Proofs.YtmhohaanddglbaaGreatDoor
open Go.RowKit
theorem gS (D:DS):∀k,(D.placeK k).obs=D.obs∧(D.placeK k).log=D.log∧(D.placeK k).cycles=D.cycles:=by
 intro k;induction k with
 | zero=>exact ⟨rfl,rfl,rfl⟩
 | succ k ih=>exact ih
theorem nH {l:List Ob}(h:∀x∈l,In64 x.done)(c:Int)(nets:List Lg):∀x∈(sopenM l c nets).2,In64 x.done:=by
 unfold sopenM;repeat' split
 all_goals try exact h
 intro x a;rcases AJ.1 a with a | a
 ·exact h x a
 ·obtain ⟨y,_,rfl⟩:=AD.1 a;show In64 (0:Int)
  unfold In64;omega
theorem eR {Y:YS}(ok:YOk Y){legs:List Lg}(hf:Fair legs)(hn:legs.length≤1024){r:Int}{D':DS}(h:NetRel Y.D legs r D'):YOk { Y with D:=D' }∧D'.log.length≤Y.D.log.length+1024∧D'.C=Y.C:=by
 unfold NetRel at h;split at h
 ·obtain ⟨_,rfl⟩:=h;exact ⟨ok,by omega,ok.dc⟩
 split at h
 ·obtain ⟨_,rfl⟩:=h;exact ⟨ok,by omega,ok.dc⟩
 rename_i i
 obtain ⟨a,n,d,h⟩:=h;obtain ⟨hl,b⟩:=iS d hf hn;have b:∀x∈a,In64 x.amt:=fun x hx=>by have:=b x hx;unfold In64;omega
 split at h
 ·obtain ⟨_,rfl⟩:=h;exact ⟨ok,by omega,ok.dc⟩
 split at h
 ·obtain ⟨_,rfl⟩:=h;exact ⟨ok,by omega,ok.dc⟩
 have g:=jH ok.dok b (wrap64 (Y.D.cycles+1));have f:=nH ok.d64 (wrap64 (Y.D.cycles+1)) a;split at h
 ·obtain ⟨_,rfl⟩:=h;exact ⟨⟨ok.dc,ok.gc,ok.dok.obs' g.1 g.2,ok.gok,ok.told,ok.whl,ok.cyc,ok.clk2,ok.cn,f⟩,Nat.le_add_right _ _,ok.dc⟩
 ·obtain ⟨_,rfl⟩:=h;obtain ⟨e1,e2,e3⟩:=gS ((Y.D.opened a).tell (evNet a)) Y.D.C.mem.length;have l:=tD ((Y.D.opened a).tell (evNet a)) Y.D.C.mem.length;have c:(Y.D.netted a).log=Y.D.log++evNet a:=e2;have j:(Y.D.netted a).cycles=wrap64 (Y.D.cycles+1):=e3;have k:Y.D.cycles≤4:=by have:=ok.cfg.c2;rw [ok.dc] at i;omega
  have m:wrap64 (Y.D.cycles+1)=Y.D.cycles+1:=by have:=ok.cn;unfold wrap64;omega
  refine ⟨⟨?_,ok.gc,?_,ok.gok,?_,ok.whl,ok.cyc,ok.clk2,?_,?_⟩,?_,?_⟩
  ·exact l.trans ok.dc
  ·exact ((ok.dok.opened b).tell _).placeK _
  ·show Y.told≤(Y.D.netted a).log.length
   rw [c,z8];have:=ok.told
   omega
  ·show 0≤(Y.D.netted a).cycles∧(Y.D.netted a).cycles≤100000
   rw [j,m];have:=ok.cn
   omega
  ·show ∀x∈(Y.D.netted a).obs,In64 x.done
   have:(Y.D.netted a).obs=(sopenM Y.D.obs (wrap64 (Y.D.cycles+1)) a).2:=e1
   rw [this];exact f
  ·rw [c,z8];unfold evNet;rw [Ad];omega
  ·exact l.trans ok.dc
def cutL (Y:YS):Nat→List Tm
 | 0=>[]
 | k+1=>cutL Y k++if Y.lacks ((k:Int)+1)=true then planM Y.C Y.cycle ((k:Int)+1) else []
def YS.cutW (Y:YS)(k:Nat):YS:={ Y with whl:=Y.whl++cutL Y k }
theorem lD (Y:YS):∀(n k:Nat),k≤n→cutL Y k <+: cutL Y n:=by
 intro n;induction n with
 | zero=>intro k a;rw [Nat.le_zero.1 a];exact List.prefix_refl _
 | succ n ih=>
  intro k a;by_cases h:k=n+1
  ·rw [h];exact List.prefix_refl _
  ·exact (ih k (by omega)).trans (List.prefix_append _ _)
theorem uJ {Y:YS}{n k:Nat}(hk:k<n)(hnd:(Y.whl++cutL Y n).Nodup)(hl:((Y.whl++cutL Y n).length:Int)≤Y.C.room)(h:Y.lacks ((k:Int)+1)=true){j:Nat}(hj:j<(planM Y.C Y.cycle ((k:Int)+1)).length) :
  (planM Y.C Y.cycle ((k:Int)+1))[j]∉Y.whl++cutL Y k++(planM Y.C Y.cycle ((k:Int)+1)).take j∧((Y.whl++cutL Y k++(planM Y.C Y.cycle ((k:Int)+1)).take j).length:Int)<Y.C.room:=by
 have a:Y.whl++cutL Y (k+1) <+: Y.whl++cutL Y n:=(List.prefix_append_right_inj _).2 (lD Y n (k+1) hk);have e:Y.whl++cutL Y (k+1)=Y.whl++cutL Y k++planM Y.C Y.cycle ((k:Int)+1):=by
  show Y.whl++(cutL Y k++_)=_
  rw [if_pos h,Au]
 rw [e] at a;generalize planM Y.C Y.cycle ((k:Int)+1)=l at *;have b:=a.sublist.nodup hnd;have g:=a.length_le;have c:l=l.take j++l[j] :: l.drop (j+1):=by
  rw [List.getElem_cons_drop,List.take_append_drop]
 refine ⟨?_,?_⟩
 ·rw [c,←Au] at b;have f:=List.nodup_append.1 b;intro d;have i:l.take j=(l.take j++l[j] :: l.drop (j+1)).take j:=by rw [←c]
  exact f.2.2 _ d _ (As ..) rfl
 ·rw [z8,Aa];rw [z8] at g;omega
theorem lE {Y:YS}{n k:Nat}(hk:k≤n)(hl:((Y.whl++cutL Y n).length:Int)≤Y.C.room):((Y.whl++cutL Y k).length:Int)≤Y.C.room:=by
 have:=((List.prefix_append_right_inj Y.whl).2 (lD Y n k hk)).length_le
 omega
section
attribute [local go_sem ↓] Go.wp_at_zero Go.wp_at_succ
def CutPost (B q:Nat)(cs:Array Value)(A:YA)(Y:YS)(w:World)(e:Ending)(w':World):Prop:=∃A' r D',e=.returned (.tuple #[])∧NetRel Y.D Y.G.legs r D'∧YSp B w w' A A' (({ Y with D:=D' }:YS).cutW Y.C.mem.length)∧Blk w' q 197 cs∧A'.vt.ownBlock≠some q
theorem uK {B:Nat}{A:YA}{Y:YS}{w:World}{q:Nat}{cs:Array Value}(hq:Blk w q 197 cs)(hqv:A.vt.ownBlock≠some q)(h:DyA w B A Y)(ok:YOk Y)(hg:∀t∈Y.G.list,TrGood t)(hf:Fair Y.G.legs)(hn:Y.G.legs.length≤1024)(hi:okC Y.C Y.cycle)(hx:0≤(cycOf Y.C Y.cycle).fund∧(cycOf Y.C Y.cycle).fund≤100000)(hlog:Y.D.log.length≤800000)
  (hW:∀r D',NetRel Y.D Y.G.legs r D'→(({ Y with D:=D' }:YS).cutW Y.C.mem.length).whl.Nodup∧((({ Y with D:=D' }:YS).cutW Y.C.mem.length).whl.length:Int)≤Y.C.room) :
  Calls Tryz.prog 170 #[ptr A.gy] w (CutPost B q cs A Y w):=by
 have bk:=aa hq;have ba:=aa hqv;have p8:w.cell? ⟨A.gy,8,none⟩=some (ptr A.D.gd):=h.blk.c 8;have p9:w.cell? ⟨A.gy,9,none⟩=some (ptr A.G.gr):=h.blk.c 9;have J:=And.intro p8 p9;have aB:=aa h;have OK:=aa ok;have ay:=aa (fun W (h:RegAt W B A.G Y.G)=>pZ h ok.gok.ok hg);have aH:=aa (fun W v (h:DyA W B A Y) (hv:Sl eLg 3 W v Y.G.legs)=>tE h.desk ok.dok h.kok h.lt (by have:=ok.cn;unfold In64;omega) v Y.G.legs hv hn hf (by omega));have aS:=aa (fun r D' (h:NetRel Y.D Y.G.legs r D')=>eR ok hf hn h);have ax:=aa hW;obtain ⟨n0,k0,aI⟩:=ag h.cfg.m;have be:=aa aI;have HI:=aa hi;have HX:=aa hx;have HV:=aa ok.cfg;have a8:=ok.cfg.m2;obtain ⟨M,hM⟩:∃M,Y.C.mem.length=M:=⟨_,rfl⟩;have HM:=aa hM;have bx:M≤16:=by omega
 have aL:Hid (∀e w',CutPost B q cs A Y w e w'↔∃f r D',e=.returned (.tuple #[])∧NetRel Y.D Y.G.legs r D'∧YSp B w w' A f (({ Y with D:=D' }:YS).cutW M)∧Blk w' q 197 cs∧f.vt.ownBlock≠some q):=aa (fun _ _=>by rw [←hM];exact Iff.rfl);clear hq hqv h ok hg hf hn hi hx hlog hW aI p8 p9 a8 hM;go_enter Tryz.func170,Tryz.ntmps170;go_wp2_with fail;go_region_held3 (fun W=>W.cell? ⟨A.gy,8,none⟩=some (ptr A.D.gd)∧W.cell? ⟨A.gy,9,none⟩=some (ptr A.G.gr)) (first | exact J | assumption | go_keep)
  (first | (go_at_call 207;refine (ay.o w.drew aB.o.reg.d).mono ?_;rintro e w2 ⟨v2,rfl,o2,c2⟩;have Y2:=aa ((YSp.same aB.o.d c2).before (zZ w.heap.size w).drew);have S2:=aa (Sl.own kLg o2);have Q2:=aa ((Blk.d (wd:=w.drew) bk.o).keep c2);have bc:=And.intro (show w2.cell? ⟨A.gy,8,none⟩=some (ptr A.D.gd) from Y2.o.at'.blk.c 8) (show w2.cell? ⟨A.gy,9,none⟩=some (ptr A.G.gr) from Y2.o.at'.blk.c 9)) | (go_at_call 206;refine (aH.o _ _ Y2.o.at' S2.o).mono ?_;rintro e w3 ⟨r,D3,D',rfl,st3,hr⟩;have Y3:=aa (Y2.o.trans (Y2.o.at'.deskS st3));have HR:=aa hr;have Q3:=aa (Q2.o.modT st3.mod (by decide));have a4:=And.intro (show w3.cell? ⟨A.gy,8,none⟩=some (ptr A.D.gd) from (by rw [←st3.gd];exact Y3.o.at'.blk.c 8)) (show w3.cell? ⟨A.gy,9,none⟩=some (ptr A.G.gr) from Y3.o.at'.blk.c 9)))
 all_goals
  obtain ⟨ac,a6,bl⟩:=aS.o _ _ HR.o;obtain ⟨hnd,hlen⟩:=ax.o _ _ HR.o;rw [HM.o] at hnd hlen;have p0:w3.cell? ⟨A.gy,0,none⟩=some (.slice n0 M k0):=by rw [←HM.o,←be.o];exact Y3.o.at'.blk.c 0
  have ae:Hid (∀w' f,YSp B w w' A f (({ Y with D:=D' }:YS).cutW M)→Blk w' q 197 cs→f.vt.ownBlock≠some q→CutPost B q cs A Y w (.returned (.tuple #[])) w'):=aa (fun w' f h Q h3=>(aL.o _ _).2 ⟨f,r,D',rfl,HR.o,h,Q,h3⟩);have U:Hid (Valid ({ Y with D:=D' }:YS).C):=HV;have az:Hid (okC ({ Y with D:=D' }:YS).C ({ Y with D:=D' }:YS).cycle):=HI;have aO:Hid (0≤(cycOf ({ Y with D:=D' }:YS).C ({ Y with D:=D' }:YS).cycle).fund∧(cycOf ({ Y with D:=D' }:YS).C ({ Y with D:=D' }:YS).cycle).fund≤100000):=HX;have aZ:Hid (({ Y with D:=D' }:YS).C.mem.length=M):=HM;have aA:Hid ((({ Y with D:=D' }:YS).whl++cutL { Y with D:=D' } M).Nodup):=aa hnd;have R:Hid (((({ Y with D:=D' }:YS).whl++cutL { Y with D:=D' } M).length:Int)≤({ Y with D:=D' }:YS).C.room):=aa hlen;have n:=aa ac;obtain ⟨a,aK⟩:∃a:YS,{ Y with D:=D' }=a:=⟨_,rfl⟩;rw [aK] at n aA R aZ aO az U ae Y3;clear aK ac a6 bl hnd hlen aL HV HI HX HM ax aS ay aH HR J bc a4;go_wp2_with fail;go_loopw [23] (fun vi wr=>∃(k:Nat) (f:YA),k≤M∧vi=.int .i64 k∧YSp B w wr A f (a.cutW k)∧Blk wr q 197 cs∧f.vt.ownBlock≠some q) (fun vi _=>M - (intOf vi).toNat)
  case atStart=>exact ⟨0,{ A with D:=D3 },Af _,rfl,by unfold YS.cutW cutL;rw [Bm];exact Y3.o,Q3.o,ba.o⟩
  case round=>
   obtain ⟨k,f,hk,rfl,I,aF,ai⟩:=hrel;have s:=aa I;have ap:=aa aF;have H:=aa ai;clear I aF ai;by_cases hlt:k<M
   ·have br:(0:Int)≤(k:Int):=by omega
    have bp:(k:Int)<(M:Int):=by omega
    have y:wrap64 ((k:Int)+1)=(k:Int)+1:=by unfold wrap64;omega
    have a7:Hid (YOk (a.cutW k)):=aa ⟨n.o.dc,n.o.gc,n.o.dok,n.o.gok,n.o.told,lE (Nat.le_of_lt hlt) R.o,n.o.cyc,n.o.clk2,n.o.cn,n.o.d64⟩;obtain ⟨b,hb⟩:∃b,a.lacks ((k:Int)+1)=b:=⟨_,rfl⟩;have an:=aa (fun W A (h:DyA W B A (a.cutW k))=>gP h a7.o ((k:Int)+1));rw [show (a.cutW k).lacks ((k:Int)+1)=b from hb] at an;have HB:=aa hb;clear hb;cases b with
    | false=>
     have ak:Hid (a.cutW (k+1)=a.cutW k):=aa (by
      unfold YS.cutW;rw [cutL,HB.o,if_neg (by simp),Bm])
     go_wp2_with (go_at_call 110;refine (by rw [←s.o.gy];exact an.o _ _ s.o.at':Calls Tryz.prog 110 #[ptr A.gy,.int .i64 ((k:Int)+1)] wr _).mono ?_;rintro e P ⟨rfl,c4⟩;have N:=aa (s.o.keep c4);have Q4:=aa (ap.o.keep c4);clear y)
     go_roundw
     case rel=>exact ⟨k+1,f,by omega,by go_num,by rw [ak.o];exact N.o,Q4.o,H.o⟩
     case measure=>exact ar (by omega)
    | true=>
     have aM:=aa (fun W A (h:DyA W B A (a.cutW k))=>uI A.vm A.vs A.vc a.C a.cycle ((k:Int)+1) W h.cfg.sl U.o az.o (by unfold okM;rw [aZ.o];omega) aO.o);obtain ⟨l,hl⟩:∃l,planM a.C a.cycle ((k:Int)+1)=l:=⟨_,rfl⟩;have am:=aa (fun j (hj:j<(planM a.C a.cycle ((k:Int)+1)).length)=>uJ hlt aA.o R.o HB.o hj);rw [hl] at aM am;have ak:Hid (a.cutW (k+1)={ a.cutW k with whl:=(a.cutW k).whl++l }):=aa (by
      unfold YS.cutW;rw [cutL,HB.o,if_pos rfl,←Au,hl])
     have bo:l.length≤48:=by
      have L:=lE (k:=k+1) hlt R.o;have Q:=jO U.o;rw [cutL,HB.o,if_pos rfl,hl,z8,z8] at L;omega
     clear hl;go_wp2_with (go_at_call 110;refine (by rw [←s.o.gy];exact an.o _ _ s.o.at':Calls Tryz.prog 110 #[ptr A.gy,.int .i64 ((k:Int)+1)] wr _).mono ?_;rintro e P ⟨rfl,c4⟩;have N:=aa (s.o.keep c4);have Q4:=aa (ap.o.keep c4);clear y)
     have y:wrap64 ((k:Int)+1)=(k:Int)+1:=by unfold wrap64;omega
     have al:IntKind.i64.wrap ((k:Int)+1)=(k:Int)+1:=Ax _ (by omega);have aU:=And.intro (show S8 A.gy f.vm f.vs f.vc a.C P from by rw [←N.o.gy];exact N.o.at'.s8) (show P.cell? ⟨A.gy,13,none⟩=some (.int .i64 a.cycle) from by rw [←N.o.gy];exact N.o.at'.blk.c 13);go_region_held3 (fun W=>S8 A.gy f.vm f.vs f.vc a.C W∧W.cell? ⟨A.gy,13,none⟩=some (.int .i64 a.cycle)) (first | exact aU | assumption | go_keep)
      (first | (go_at_call 208;refine (aM.o P.drew f N.o.at'.d).mono ?_;rintro e w5 ⟨v5,rfl,o5,c5⟩;have Y5:=aa (N.o.trans ((YSp.same N.o.at'.d c5).before (zZ _ _).drew));have O5:=aa o5;have Q5:=aa ((Blk.d (wd:=P.drew) Q4.o).keep c5);have aY:q<P.drew.heap.size:=(by exact Q4.o.lt);have bf:Hid (∀q,f.vt.ownBlock=some q→v5.ownBlock≠some q):=aa (fun q hq e=>(by have L:=(N.o.at'.whl.own.lt q hq).2;have Q:=(o5.lt q e).1;have h3:P.drew.heap.size=P.heap.size:=rfl;omega));obtain ⟨n5,k5,rfl⟩:=ag o5;have a5:=And.intro (show S8 A.gy f.vm f.vs f.vc a.C w5 from (by rw [←Y5.o.gy];exact Y5.o.at'.s8)) (show w5.cell? ⟨A.gy,13,none⟩=some (.int .i64 a.cycle) from (by rw [←Y5.o.gy];exact Y5.o.at'.blk.c 13))))
     all_goals
      clear y al aU a5 o5 c5;obtain ⟨B0,aR⟩:∃B0,P.drew.heap.size=B0:=⟨_,rfl⟩;rw [aR] at O5 aY;obtain ⟨wo,hwo⟩:∃wo,wo=wr:=⟨_,rfl⟩;subst hwo;have bv:Hid (∀j,(a.cutW k).whl++l.take j=({ a.cutW k with whl:=(a.cutW k).whl++l.take j }:YS).whl):=aa fun _=>rfl
      clear aR;go_wp2_with fail;go_loopw [47] (fun vi wr=>∃(j:Nat) (V:YA),j≤l.length∧vi=.int .i64 j∧YSp B w wr A V { a.cutW k with whl:=(a.cutW k).whl++l.take j }∧V.gw=f.gw∧wr.ownsRow B0 197 4 (.slice n5 l.length k5) l.length (flat eTm l)∧(∀q,V.vt.ownBlock=some q→(Value.slice n5 l.length k5).ownBlock≠some q)∧Blk wr q 197 cs∧V.vt.ownBlock≠some q) (fun vi _=>l.length - (intOf vi).toNat)
      case atStart=>exact ⟨0,f,Af _,rfl,by rw [List.take_zero,Bm];exact Y5.o,rfl,O5.o,bf.o,Q5.o,H.o⟩
      case round=>
       obtain ⟨j,V,hj,rfl,I,av,ao,aP,a1,ad⟩:=hrel;have O:=aa a1;have Z:=aa ad;have i:=aa I;have aX:=aa ao;have bi:=aa (Sl.own kTm ao);have bh:=aa aP;have E:=aa av;clear I ao aP av a1 ad;by_cases hltj:j<l.length
       ·skip
        obtain ⟨a',aG,aV,_,bz,bd,aJ⟩:=bi.o;obtain ⟨e1,e2⟩:n5=a'∧k5=aG:=by simpa using aV
        subst e1 e2;obtain ⟨b,a9,rfl,bq,a0⟩:=aJ (by omega);obtain ⟨r0,r1,r2,r3⟩:=jV (a0 j hltj);have bs:(0:Int)≤(j:Int):=by omega
        have bA:(j:Int)<(l.length:Int):=by omega
        unfold maxLen at bd;obtain ⟨K,z⟩:∃K:YS,{ a.cutW k with whl:=(a.cutW k).whl++l.take j }=K:=⟨_,rfl⟩;have bb:Hid (({ a.cutW k with whl:=(a.cutW k).whl++l.take (j+1) }:YS)={ K with whl:=K.whl++[l[j]] }):=aa (by rw [←z];simp only;rw [z9 hltj,Au]);have a2:Hid (l[j]∉K.whl):=aa (by rw [←z];exact (am.o j hltj).1);have aw:Hid ((K.whl.length:Int)<K.C.room):=aa (by rw [←z];exact (am.o j hltj).2);have a3:Hid (K.whl.length≤48):=aa (by have L:=aw.o;have Q:=jO U.o;have h3:K.C=a.C:=(by rw [←z];rfl);rw [h3] at L;omega);rw [z] at i;clear a0 aJ aV z;generalize l[j]=x at *;have cX:Bw wr (wr.alloc (.cells (cTm x) 197)):=Bn;obtain ⟨X,hX⟩:∃X,wr.alloc (.cells (cTm x) 197)=X:=⟨_,rfl⟩;have bg:=aa hX;have F:Hid (Blk X wr.heap.size 197 (cTm x)):=aa (by rw [←hX];exact Blk.new wr 197 (cTm x));have p:Hid (YSp B w X A V K):=aa (by rw [←hX];exact i.o.keep cX);have QX:Hid (Blk X q 197 cs):=aa (by rw [←hX];exact O.o.alloc _);have af:Hid (X.ownsRow B0 197 4 (.slice (some ⟨b,a9,none⟩) l.length k5) l.length (flat eTm l)):=aa (by rw [←hX];exact ah aX.o cX);have bt:b<wr.heap.size:=(aX.o.lt b rfl).2;have bm:wr.heap.size<X.heap.size:=F.o.lt;have bn:f.gw<wr.heap.size:=by rw [←E.o];exact i.o.at'.whl.blk.lt
        have aN:∀q T cs,Blk X q T cs→T=150→q≠b:=by
         rintro q T cs hq rfl rfl;exact aD hq af.o (by decide) q rfl rfl
        have ab:f.gw≠q:=fun e=>by
         have L:=i.o.at'.whl.blk;have Q:=O.o;rw [E.o,e] at L;unfold Blk at L Q;rw [L] at Q;simp at Q
        have aE:q<wr.heap.size:=O.o.lt;have aW:=aa (fun W (hW:W.heap=X.heap) (hD:DyA W B V K)=>lA E.o hD a3.o x a2.o aw.o [b,wr.heap.size,q] (by
          rw [E.o];simp only [Aq,Be,or_false,not_or];exact ⟨aN _ _ _ (by rw [←E.o];exact p.o.at'.whl.blk) rfl,by omega,ab⟩) (fun q' hq=>by
          have L:=bh.o q' hq;have Q:=(i.o.at'.whl.own.lt q' hq).2;simp only [Aq,Be,or_false,not_or];exact ⟨fun e=>L (by rw [e];rfl),by omega,fun e=>Z.o (e ▸ hq)⟩) (fun q' hq=>by
          rw [hW];simp only [Aq,Be,or_false] at hq;rcases hq with rfl | rfl | rfl <;> omega))
        obtain ⟨t0,t1,t2,t3⟩:X.cell? ⟨wr.heap.size,0,none⟩=some (.int .i64 x.due)∧X.cell? ⟨wr.heap.size,1,none⟩=some (.int .i64 x.kind)∧X.cell? ⟨wr.heap.size,2,none⟩=some (.int .i64 x.mem)∧X.cell? ⟨wr.heap.size,3,none⟩=some (.int .i64 x.level):=⟨F.o.c 0,F.o.c 1,F.o.c 2,F.o.c 3⟩;have J:=And.intro (qH p.o.at' p.o.gy E.o) (And.intro t0 (And.intro t1 (And.intro t2 t3)));clear hX cX t0 t1 t2 t3 aN ab aE;go_wp2_with fail;rw [show wr.alloc (.cells #[.int .i64 x.due,.int .i64 x.kind,.int .i64 x.mem,.int .i64 x.level] 197)=X from bg.o];go_region_held3 (fun W=>W.cell? ⟨A.gy,10,none⟩=some (ptr f.gw)∧W.cell? ⟨wr.heap.size,0,none⟩=some (.int .i64 x.due)∧W.cell? ⟨wr.heap.size,1,none⟩=some (.int .i64 x.kind)∧W.cell? ⟨wr.heap.size,2,none⟩=some (.int .i64 x.mem)∧W.cell? ⟨wr.heap.size,3,none⟩=some (.int .i64 x.level)) (first | exact J | exact s5 | assumption | go_keep)
         (first | (go_at_call 101;refine (aW.o X.drew rfl p.o.at'.d).mono ?_;rintro e w5 ⟨A5,rfl,aq,g5,aQ,u⟩;have aj:=aa (p.o.trans (aq.before (zZ _ _).drew));have G5:=aa g5;have aT:=aa aQ;have bj:=aa u;have Q8:=aa ((u q (by simp)).trans QX.o:Blk w5 q 197 cs);have B5:Blk w5 wr.heap.size 197 (cTm x):=(u _ (by simp)).trans F.o;have s5:=And.intro (qH aj.o.at' aj.o.gy g5) (And.intro (B5.c 0) (And.intro (B5.c 1) (And.intro (B5.c 2) (B5.c 3))));clear aq g5 aQ u))
        all_goals
         rename_i S
         clear S s5 J;go_wp2_with fail;go_roundw
         case rel=>exact ⟨j+1,A5,by omega,by go_num,by rw [bb.o];exact aj.o,G5.o,au af.o (fun g hg=>bj.o g (by have e9:b=g:=(by simpa [Value.ownBlock] using hg);subst e9;exact As ..)),fun q hq e=>aT.o q hq (by have e9:b=q:=(by simpa [Value.ownBlock] using e);subst e9;exact As ..),Q8.o,fun e=>aT.o q e (by simp)⟩
         case measure=>exact ar (by omega)
       ·obtain rfl:j=l.length:=by omega
        have bu:¬ ((l.length:Int)<(l.length:Int)):=by omega
        have aC:Hid (YSp B w wr A V (a.cutW (k+1))):=aa (by rw [ak.o];have h:=i.o;rw [Ap] at h;exact h);clear i;go_wp2_with fail;go_roundw
        case rel=>exact ⟨k+1,V,by omega,by go_num,aC.o,O.o,Z.o⟩
        case measure=>exact ar (by omega)
   ·obtain rfl:k=M:=by omega
    have bw:¬ ((k:Int)<(k:Int)):=by omega
    go_wp2_with fail;go_end0;exact ae.o _ _ s.o ap.o H.o
def YS.cutDone (Y:YS)(D':DS):YS:=({ Y with D:=D' }:YS).cutW Y.C.mem.length
def FireCut (B:Nat)(A:YA)(Y:YS)(w:World)(e:Ending)(w':World):Prop:=∃A' r D',e=.returned (.tuple #[])∧NetRel Y.D Y.G.legs r D'∧YSp B w w' A A' ((Y.cutDone D').come ((Y.cutDone D').next 1 false))∧YOk ((Y.cutDone D').come ((Y.cutDone D').next 1 false))
theorem uL {B:Nat}{A:YA}{Y:YS}{w:World}(t:Tm)(ht:t.kind=1)(h:DyA w B A Y)(ok:YOk Y)(hg:∀t∈Y.G.list,TrGood t)(hf:Fair Y.G.legs)(hn:Y.G.legs.length≤1024)(hi:okC Y.C Y.cycle)(hx:0≤(cycOf Y.C Y.cycle).fund∧(cycOf Y.C Y.cycle).fund≤100000)(hlog:Y.log.length+2 * Y.D.log.length≤800000)
  (hW:∀r D',NetRel Y.D Y.G.legs r D'→(Y.cutDone D').whl.Nodup∧((Y.cutDone D').whl.length:Int)≤Y.C.room) :
  Calls Tryz.prog 118 #[ptr A.gy,vTm t] w (FireCut B A Y w):=by
 obtain ⟨J,V,N,z⟩:=t;obtain rfl:V=1:=ht;obtain ⟨W1,hW1⟩:∃W1,w.alloc (.cells (cTm ⟨J,1,N,z⟩) 197)=W1:=⟨_,rfl⟩;have P:Bw w W1:=by rw [←hW1];exact Bn
 have u:Hid (Blk W1 w.heap.size 197 (cTm ⟨J,1,N,z⟩)):=aa (by rw [←hW1];exact Blk.new w 197 _);have x:A.vt.ownBlock≠some w.heap.size:=fun e=>by have:=(h.whl.own.lt _ e).2;omega
 have O:=aa h;have s:=aa (uK u.o x (h.keep P) ok hg hf hn hi hx (by omega) hW);have S:=aa (fun r D' (i:NetRel Y.D Y.G.legs r D')=>(⟨(eR ok hf hn i).1,(eR ok hf hn i).2.1,hW r D' i⟩:YOk { Y with D:=D' }∧D'.log.length≤Y.D.log.length+1024∧(Y.cutDone D').whl.Nodup∧((Y.cutDone D').whl.length:Int)≤Y.C.room));have K:=aa hlog;have X:W1.cell? ⟨w.heap.size,1,none⟩=some (.int .i64 1):=u.o.c 1;have M:=aa hW1;clear h ok hg hf hn hi hx hlog hW x hW1;go_enter Tryz.func118,Tryz.ntmps118;go_wp2_with fail;rw [show w.alloc (.cells #[.int .i64 J,.int .i64 1,.int .i64 N,.int .i64 z] 197)=W1 from M.o];go_wp2_with (go_at_call 170;refine s.o.mono ?_;rintro e U ⟨T,r,b,rfl,i,m,g,E⟩;have Q:=aa i;have l:=aa ((YSp.same O.o P).trans m);have Q2:=aa g;have Z:U.cell? ⟨w.heap.size,1,none⟩=some (.int .i64 1):=g.c 1;clear X i m g E)
 obtain ⟨a,F,k,f⟩:=S.o _ _ Q.o;have q:Hid (YOk (Y.cutDone b)):=aa ⟨a.dc,a.gc,a.dok,a.gok,a.told,f,a.cyc,a.clk2,a.cn,a.d64⟩;have I:Hid ((Y.cutDone b).log.length+(Y.cutDone b).D.log.length≤999000):=aa (by
  have:=K.o
  show Y.log.length+b.log.length≤999000
  omega)
 have y:Hid (∀w' A',YSp B w w' A A' ((Y.cutDone b).come ((Y.cutDone b).next 1 false))→FireCut B A Y w (.returned (.tuple #[])) w'):=aa (fun w' A' h=>⟨A',r,b,rfl,Q.o,h,q.o.come _⟩);have d:Hid (YSp B w U A T (Y.cutDone b)):=aa l.o;have j:=aa (fun W A (h:DyA W B A (Y.cutDone b))=>i8 h 1 false);have v:=aa (fun W A (h:DyA W B A (Y.cutDone b))=>eQ h q.o I.o ((Y.cutDone b).next 1 false));generalize Y.cutDone b=Yc at *;obtain ⟨p,R⟩:∃p,Yc.next 1 false=p:=⟨_,rfl⟩;rw [R] at j v y;clear a F k f S s l R;have H:Hid (T.gy=A.gy):=aa d.o.gy;rw [←H.o];refine (j.o _ _ d.o.at').mono ?_;rintro e w3 ⟨rfl,c3⟩;have n:=aa (d.o.keep c3);go_wp2_with (go_at_call 102;refine (v.o _ _ n.o.at').mono ?_;rintro e w4 ⟨A4,rfl,st4⟩;have L:=aa (n.o.trans st4))
 go_end0;exact y.o _ _ L.o
def DueTo (B:Nat)(Y:YS)(P:DS→Prop):Prop:=∀W A,DyA W B A Y→Calls Tryz.prog 171 #[ptr A.D.gd] W fun e w'=>∃(y:Int) (A2:DA) (D2:DS),e=.returned (.tuple #[.bool false,.int .i64 y])∧DSp B (ownL A.vl) W w' A.D A2 D2∧P D2
def SettlesTo (B:Nat)(Y:YS)(P:DS→Prop):Prop:=∀W A,DyA W B A Y→Calls Tryz.prog 172 #[ptr A.D.gd] W fun e w'=>∃(r:Int) (A2:DA) (D2:DS),e=.returned (.int .i64 r)∧DSp B (ownL A.vl) W w' A.D A2 D2∧P D2
def YS.funded (Y:YS)(D:DS):YS:=({ Y with D:=D }:YS).come (({ Y with D:=D }:YS).next 3 false)
def FireFund (B:Nat)(A:YA)(Y:YS)(P:DS→Prop)(w:World)(e:Ending)(w':World):Prop:=∃A' D,e=.returned (.tuple #[])∧P D∧YSp B w w' A A' (Y.funded D)
theorem qL {B:Nat}{A:YA}{Y:YS}{w:World}(t:Tm)(ht:t.kind=3)(h:DyA w B A Y)(P2 P3:DS→Prop)(hd:DueTo B Y P2)(hs:∀D2,P2 D2→SettlesTo B { Y with D:=D2 } P3)(hok:∀D3,P3 D3→YOk { Y with D:=D3 }∧Y.log.length+D3.log.length≤999000) :
  Calls Tryz.prog 118 #[ptr A.gy,vTm t] w (FireFund B A Y P3 w):=by
 obtain ⟨q,Q,x,k⟩:=t;obtain rfl:Q=3:=ht;obtain ⟨W1,hW1⟩:∃W1,w.alloc (.cells (cTm ⟨q,3,x,k⟩) 197)=W1:=⟨_,rfl⟩;have K:Bw w W1:=by rw [←hW1];exact Bn
 have v:Hid (Blk W1 w.heap.size 197 (cTm ⟨q,3,x,k⟩)):=aa (by rw [←hW1];exact Blk.new w 197 _);have I:=aa h;have i:=aa (h.keep K);have O:=aa (hd W1 A i.o);have M:=aa hs;have N:=aa hok;have R:W1.cell? ⟨w.heap.size,1,none⟩=some (.int .i64 3):=v.o.c 1;have J:W1.cell? ⟨A.gy,8,none⟩=some (ptr A.D.gd):=i.o.blk.c 8;have H:=aa hW1;have C:(w.alloc (.cells #[.int .i64 q,.int .i64 3,.int .i64 x,.int .i64 k] 197)).cell? ⟨A.gy,8,none⟩=some (ptr A.D.gd):=by rw [show w.alloc (.cells #[.int .i64 q,.int .i64 3,.int .i64 x,.int .i64 k] 197)=W1 from hW1];exact J
 clear h hd hs hok hW1;go_enter Tryz.func118,Tryz.ntmps118;go_wp2_with fail;clear C;rw [show w.alloc (.cells #[.int .i64 q,.int .i64 3,.int .i64 x,.int .i64 k] 197)=W1 from H.o];go_wp2_with (first | (go_at_call 171;refine O.o.mono ?_;rintro e U ⟨y,S,D2,rfl,l,F⟩;have z:=aa (i.o.deskS l);have T:=aa (v.o.modT l.mod (by decide));have X:U.cell? ⟨A.gy,8,none⟩=some (ptr S.gd):=z.o.at'.blk.c 8;have E:=aa (M.o _ F _ _ z.o.at');clear R J) | (go_at_call 172;refine E.o.mono ?_;rintro e w3 ⟨r,A3,D3,rfl,st3,hp3⟩;have L:=aa ((YSp.same I.o K).trans (z.o.trans (z.o.at'.deskS st3)));have P:=aa (T.o.modT st3.mod (by decide));have V:w3.cell? ⟨w.heap.size,1,none⟩=some (.int .i64 3):=P.o.c 1;have n:=aa hp3))
 obtain ⟨b,s⟩:=N.o _ n.o;have u:=aa b;have j:Hid (({ Y with D:=D3 }:YS).log.length+({ Y with D:=D3 }:YS).D.log.length≤999000):=aa s;have a:Hid (∀w' A',YSp B w w' A A' (Y.funded D3)→FireFund B A Y P3 w (.returned (.tuple #[])) w'):=aa (fun w' A' h=>⟨A',D3,rfl,n.o,h⟩);have f:Hid (YSp B w w3 A { A with D:=A3 } ({ Y with D:=D3 }:YS)):=aa L.o;have d:=aa (fun W A (h:DyA W B A { Y with D:=D3 })=>i8 h 3 false);have g:=aa (fun W A (h:DyA W B A { Y with D:=D3 })=>eQ h u.o j.o (({ Y with D:=D3 }:YS).next 3 false));unfold YS.funded at a;obtain ⟨Yc,hYc⟩:∃Yc:YS,{ Y with D:=D3 }=Yc:=⟨_,rfl⟩;rw [hYc] at a d g f;obtain ⟨p,hp⟩:∃p,Yc.next 3 false=p:=⟨_,rfl⟩;rw [hp] at d g a;clear b s hp hYc j u L N M O;refine (d.o _ _ f.o.at').mono ?_;rintro e w5 ⟨rfl,c5⟩;have m:=aa (f.o.keep c5);go_wp2_with (go_at_call 102;refine (g.o _ _ m.o.at').mono ?_;rintro e w4 ⟨A4,rfl,st4⟩;have G:=aa (m.o.trans st4))
 go_end0;exact a.o _ _ G.o
def FirstPost2 (B g:Nat)(room:Int)(v0:Value)(l:List Tm)(K:List Nat)(now:Int)(w:World)(e:Ending)(w':World):Prop:=∃P v,P.Perm (List.range l.length)∧(l.length<20→P=orderM (l.map keyT))∧e=.returned (.tuple #[vTm ((firstM l P now).getD zTm),.bool (firstM l P now).isSome])∧WheelAt w' B g room v (afterM l (firstM l P now))∧ModT B [150] K w w'∧∀k,v.ownBlock=some k→v0.ownBlock=some k∨w.heap.size≤k
theorem lF {w:World}{B g:Nat}{room:Int}{v:Value}{l:List Tm}(h:WheelAt w B g room v l)(hn:l.length≤9000)(K:List Nat)(hK:g∉K)(hB:B≤w.heap.size)(now:Int):Calls Tryz.prog 117 #[ptr g,.int .i64 now] w (FirstPost2 B g room v l K now w):=by
 obtain ⟨F,j⟩:∃F,w.alloc (.cells #[.int .i64 0,.int .i64 0,.int .i64 0,.int .i64 0] 197)=F:=⟨_,rfl⟩;have O:Bw w F:=by rw [←j];exact Bn
 have ad:Hid (Blk F w.heap.size 197 #[.int .i64 0,.int .i64 0,.int .i64 0,.int .i64 0]):=aa (by rw [←j];exact Blk.new w 197 _);have HH:=aa (h.keep O);have HA:=aa (tI (h.keep O) hn);have ae:=aa j;have L:=aa (fun k (hk:v.ownBlock=some k)=>(h.own.lt k hk).2);clear h j;go_enter Tryz.func117,Tryz.ntmps117;go_wp2_with fail;rw [show w.alloc (.cells #[.int .i64 0,.int .i64 0,.int .i64 0,.int .i64 0] 197)=F from ae.o];refine HA.o.mono ?_;rintro e w2 ⟨v2,P,rfl,hp,hx,Q,M⟩;have HP:=aa hp;have HX:=aa hx;obtain ⟨S,hS⟩:∃S,(P.map fun i=>l.getD i zTm)=S:=⟨_,rfl⟩;rw [hS] at Q;have X:Hid (firstM l P now=headM S now):=aa (by unfold firstM;rw [hS]);have HO:=aa Q;obtain ⟨n2,k2,rfl⟩:=ag Q;have C:=aa (ad.o.keep M);have n:=aa (HH.o.keep M);have H:=O.trans (M.mono O.size);clear hp hx hS Q M;dsimp only;have p:=aa (show g≠w.heap.size from fun e=>by
  have Z:=n.o.blk;have U:=C.o;rw [e] at Z;unfold Blk at Z U;rw [Z] at U;simp at U)
 cases S with
 | nil=>
  have d:Hid (firstM l P now=none):=aa X.o;go_wp2_with (refine aF rfl 197 _ _ rfl rfl w.heap.size #[.int .i64 0,.int .i64 0,.int .i64 0,.int .i64 0] rfl rfl (by kernel_rfl) (by simp [Value.oneCell']) _ C.o rfl ?_;intro W5 a;have f:=aa a;have E:=a.row.c 0;have I:=a.row.c 1;have D:=a.row.c 2;have J:=a.row.c 3;clear a)
  refine bodyPost_ret (v:=.tuple #[.agg #[.int .i64 0,.int .i64 0,.int .i64 0,.int .i64 0],.bool false]) (by simp [results,Tryz.results117,go_sem,E,I,D,J]) rfl ?_;refine ⟨P,v,HP.o,HX.o,by rw [d.o];rfl,?_,kO f.o H,fun k hk=>Or.inl hk⟩;rw [d.o];exact ⟨(f.o.far _ p.o).trans n.o.blk,au n.o.own fun k hk=>f.o.far k (by have:=L.o k hk;omega),n.o.l1⟩
 | cons t r=>
  obtain ⟨a',z,s,_,ao,ak,x⟩:=Sl.own kTm HO.o;obtain ⟨e1,e2⟩:n2=a'∧k2=z:=by simpa using s
  subst e1 e2;obtain ⟨b,al,rfl,ac,y⟩:=x (by simp);obtain ⟨q0,q1,q2,q3⟩:=jV (y 0 (by simp));rw [Nat.zero_mul,AU] at q0 q1 q2 q3;simp only [Aw] at q0 q1 q2 q3;have af:(0:Int)<(((t :: r).length:Nat):Int):=by simp only [Ay];omega
  have V:=aa (fun (W:World) (m:ModT B [150] K w2 W)=>Sl.own kTm (ai HO.o m (by decide)));obtain ⟨N,R⟩:∃N,(t :: r).length=N:=⟨_,rfl⟩;have HN:=aa R;rw [R] at af ⊢;have an:((N:Int)==0)=false:=by simp;omega
  have am:¬ (N:Int)=0:=by omega
  by_cases hd:now<t.due
  ·have d:Hid (firstM l P now=none):=aa (by rw [X.o];show (if now<t.due then none else some t)=_;rw [if_pos hd]);have T:=dT hd;clear y x s R hd;go_wp2_with (refine aF rfl 197 _ _ rfl rfl w.heap.size #[.int .i64 0,.int .i64 0,.int .i64 0,.int .i64 0] rfl rfl (by kernel_rfl) (by simp [Value.oneCell']) _ C.o rfl ?_;intro W5 a;have f:=aa a;have E:=a.row.c 0;have I:=a.row.c 1;have D:=a.row.c 2;have J:=a.row.c 3;clear a)
   refine bodyPost_ret (v:=.tuple #[.agg #[.int .i64 0,.int .i64 0,.int .i64 0,.int .i64 0],.bool false]) (by simp [results,Tryz.results117,go_sem,E,I,D,J]) rfl ?_;refine ⟨P,v,HP.o,HX.o,by rw [d.o];rfl,?_,kO f.o H,fun k hk=>Or.inl hk⟩;rw [d.o];exact ⟨(f.o.far _ p.o).trans n.o.blk,au n.o.own fun k hk=>f.o.far k (by have:=L.o k hk;omega),n.o.l1⟩
  ·have d:Hid (firstM l P now=some t):=aa (by rw [X.o];show (if now<t.due then none else some t)=_;rw [if_neg hd]);have T:=dF hd;have q:=kN n.o hn K hK (z5 hB H.size) t;obtain ⟨rc,A⟩:∃rc:Int,(if t∈l then (0:Int) else 8)=rc:=⟨_,rfl⟩;rw [A] at q;have Y:=aa q;clear q A;have aj:b<w2.heap.size:=ac;clear y x s R hd;go_wp2_with (first | (go_at_call 169;refine Y.o.mono ?_;rintro e w3 ⟨v3,rfl,hw3,hf3,hm3⟩;have u:=aa hw3;have G:=aa hf3;have ab:=aa hm3;have R3:=aa (C.o.modT hm3 (by decide));have HQ:=kP (V.o w3 hm3);obtain ⟨y0,y1,y2,y3⟩:=HQ;clear hw3 hf3 hm3) | (refine aF rfl 197 _ _ rfl rfl w.heap.size #[.int .i64 t.due,.int .i64 t.kind,.int .i64 t.mem,.int .i64 t.level] rfl rfl (by kernel_rfl) (by simp [Value.oneCell']) _ R3.o rfl ?_;intro W5 a;have f:=aa a;have E:=a.row.c 0;have I:=a.row.c 1;have D:=a.row.c 2;have J:=a.row.c 3;clear a))
   refine bodyPost_ret (v:=.tuple #[.agg #[.int .i64 t.due,.int .i64 t.kind,.int .i64 t.mem,.int .i64 t.level],.bool true]) (by simp [results,Tryz.results117,go_sem,E,I,D,J]) rfl ?_;refine ⟨P,v3,HP.o,HX.o,by rw [d.o];rfl,?_,tJ ((ModT.below H).trans ab.o) f.o,fun k hk=>Or.inr (z5 H.size (G.o k hk))⟩;rw [d.o];have ah:=C.o.lt;exact ⟨(f.o.far _ p.o).trans u.o.blk,au u.o.own fun k hk=>f.o.far k (by have:=G.o k hk;omega),u.o.l1⟩
def FiresTo (B:Nat)(Y:YS)(t:Tm)(Q:YS→Prop):Prop:=∀W A,DyA W B A Y→Calls Tryz.prog 118 #[ptr A.gy,vTm t] W fun e w'=>∃A' Y',e=.returned (.tuple #[])∧YSp B W w' A A' Y'∧Q Y'
theorem DyA.setT {B:Nat}{A:YA}{Y:YS}{w:World}{q:Nat}{cs:Array Value}(h:DyA w B A Y)(hq:Blk w q 197 cs)(hqv:A.vt.ownBlock≠some q)(hB:B≤q)(i:Nat)(u:Value):YSp B w (w.setCell ⟨q,i,none⟩ u) A A Y:=by
 have m:ModT B [197] (ownL A.vt) w (w.setCell ⟨q,i,none⟩ u):=ModT.set hq (by simp) hB (fun hm=>hqv (aN.1 hm));exact ⟨⟨h.blk.modT m (by decide),h.cfg.modT m (by decide) (by decide) (by decide),h.desk.modT m (by decide),h.reg.modT m (by decide) (by decide) (by decide) (by decide) (by decide) (by decide) (by decide) (by decide),⟨h.whl.blk.modT m (by decide),fL h.whl.own m (fun k hk=>aN.2 hk),h.whl.l1⟩,ai h.log m (by decide),h.apart,h.l1,h.words.modT m h.l0,h.l0⟩,(m.mono (by decide)).less (by simp),rfl⟩
def YS.pop (Y:YS)(o:Option Tm):YS:={ Y with whl:=afterM Y.whl o }
def FirstBy (Y:YS)(o:Option Tm):Prop:=∃P,P.Perm (List.range Y.whl.length)∧(Y.whl.length<20→P=orderM (Y.whl.map keyT))∧firstM Y.whl P Y.clk2=o
theorem nI {B:Nat}{A:YA}{Y:YS}{w:World}{gw:Nat}(e:A.gw=gw)(h:DyA w B A Y)(hn:Y.whl.length≤48)(q:Nat)(hq:q<w.heap.size)(hqv:∀k,A.vt.ownBlock=some k→k≠q):Calls Tryz.prog 117 #[ptr gw,.int .i64 Y.clk2] w fun e w'=>∃o A',e=.returned (.tuple #[vTm (Option.getD o zTm),.bool o.isSome])∧FirstBy Y o∧YSp B w w' A A' (Y.pop o)∧A'.gw=gw∧A'.vt.ownBlock≠some q∧(∀T cs,T≠150→Blk w q T cs→Blk w' q T cs):=by
 subst e;refine (lF h.whl (by omega) [] (by simp) h.lt Y.clk2).mono ?_;rintro e w' ⟨P,v,c,f,rfl,b,a,d⟩;refine ⟨_,{ A with vt:=v },rfl,⟨P,c,f,rfl⟩,h.wheelS (a.mono (by decide)) b,rfl,?_,fun T cs hT hb=>hb.modT a (by simpa using hT)⟩;intro e;rcases d q e with h1 | h1
 ·exact hqv q h1 rfl
 ·omega
def YS.clk (Y:YS):YS:={ Y with clk2:=Y.clk2+1 }
def TickQ (Y:YS)(I:YS→Prop)(n er:Int)(Y':YS):Prop:=n=Y.clk2+1∧er=0∧∃Y1,I Y1∧FirstBy Y1 none∧Y'=Y1.pop none
theorem dE {B:Nat}{Y:YS}(c:Cm)(ok:YOk Y)(I:YS→Prop)(μ:YS→Nat)(h0:I Y.clk)(hI:∀Y1,I Y1→YOk Y1∧Y1.log.length+Y1.D.log.length≤999000∧Y1.clk2=Y.clk2+1)
  (hf:∀Y1 t,I Y1→FirstBy Y1 (some t)→FiresTo B (Y1.pop (some t)) t fun Y2=>I Y2∧μ Y2<μ Y1):Handles B 80 Y c (TickQ Y I):=by
 intro w A h;obtain ⟨W1,hW1⟩:∃W1,w.alloc (.cells (ccells c) 38)=W1:=⟨_,rfl⟩;have c1:Bw w W1:=by rw [←hW1];exact Bn
 have an:=aa h;have M:=aa (h.keep c1);have HI:=aa hI;have HF:=aa hf;have am:=aa hW1;have H0:=aa h0;have ao:(w.alloc (.cells #[.int .i64 c.kd,.int .i64 c.id,.int .i64 c.mb,.int .i64 c.ot,.int .i64 c.sc,.int .i64 c.qt,.int .i64 c.pr] 38)).cell? ⟨A.gy,12,none⟩=some (.int .i64 Y.clk2):=by rw [show w.alloc (.cells #[.int .i64 c.kd,.int .i64 c.id,.int .i64 c.mb,.int .i64 c.ot,.int .i64 c.sc,.int .i64 c.qt,.int .i64 c.pr] 38)=W1 from hW1];exact M.o.blk.c 12
 have ak:(w.alloc (.cells #[.int .i64 c.kd,.int .i64 c.id,.int .i64 c.mb,.int .i64 c.ot,.int .i64 c.sc,.int .i64 c.qt,.int .i64 c.pr] 38)).frozen? ⟨A.gy,12,none⟩=false:=by rw [show w.alloc (.cells #[.int .i64 c.kd,.int .i64 c.id,.int .i64 c.mb,.int .i64 c.ot,.int .i64 c.sc,.int .i64 c.qt,.int .i64 c.pr] 38)=W1 from hW1];exact M.o.blk.free 12
 have ax:=ok.clk2;have ap:wrap64 (Y.clk2+1)=Y.clk2+1:=by unfold wrap64;omega
 have V:IntKind.i64.wrap (Y.clk2+1)=Y.clk2+1:=Ax _ (by omega);clear h ok hI hf h0 hW1;go_enter Tryz.func80,Tryz.ntmps80;go_wp2_with fail;rw [show w.alloc (.cells #[.int .i64 c.kd,.int .i64 c.id,.int .i64 c.mb,.int .i64 c.ot,.int .i64 c.sc,.int .i64 c.qt,.int .i64 c.pr] 38)=W1 from am.o];have aq:Hid (YSp B w (W1.setCell ⟨A.gy,12,none⟩ (.int .i64 (Y.clk2+1))) A A Y.clk):=aa ((YSp.same an.o c1).trans (M.o.setClock (Y.clk2+1)));clear ao ak ap V;generalize W1.setCell ⟨A.gy,12,none⟩ (.int .i64 (Y.clk2+1))=W2 at *;go_loopg [] (μ Y.clk) (fun gk wr=>∃(Y1:YS) (l:YA),I Y1∧μ Y1≤gk∧YSp B w wr A l Y1)
 case atStart=>exact ⟨Y.clk,A,H0.o,zY _,aq.o⟩
 case round=>
  obtain ⟨Y1,l,H,af,K⟩:=hrel;have g:=aa K;have z:=aa H;have aj:=aa af;obtain ⟨OK1',hl1,hck1⟩:=HI.o _ H;have ay:=aa OK1';have ah:=aa hck1;have hG:l.gy=A.gy:=K.gy;have N:=aa hG;have ae:=aa (fun (W:World) (hD:DyA W B l Y1)=>(And.intro (show W.cell? ⟨A.gy,10,none⟩=some (ptr l.gw) from (by rw [←N.o];exact hD.blk.c 10)) (show W.cell? ⟨A.gy,12,none⟩=some (.int .i64 Y1.clk2) from (by rw [←N.o];exact hD.blk.c 12))));have u:=aa (fun (W:World) (m:YA) (o:Option Tm) (hg:m.gy=l.gy) (hw:m.gw=l.gw) (hD:DyA W B m (Y1.pop o))=>(And.intro (show W.cell? ⟨A.gy,10,none⟩=some (ptr l.gw) from (by rw [←N.o,←hg,←hw];exact hD.blk.c 10)) (show W.cell? ⟨A.gy,12,none⟩=some (.int .i64 Y1.clk2) from (by rw [←N.o,←hg];exact hD.blk.c 12))));have c9:Bw wr (wr.alloc (.cells #[.int .i64 0,.int .i64 0,.int .i64 0,.int .i64 0] 197)):=Bn;have L:=aa (g.o.keep c9);have ad:=ae.o wr g.o.at';have ac:=ae.o _ L.o.at';have T:=aa (fun (W:World) (hD:DyA W B l Y1) (q:Nat) (hq:q<W.heap.size) (hqv:∀k,l.vt.ownBlock=some k→k≠q)=>nI rfl hD OK1'.wn q hq hqv);have R:∀k,l.vt.ownBlock=some k→k≠wr.heap.size:=fun k hk=>Nat.ne_of_lt (g.o.at'.whl.own.lt k hk).2
  have ag:∀k,l.vt.ownBlock=some k→k≠A.gy:=fun k hk e=>aD g.o.at'.blk g.o.at'.whl.own (by decide) k hk (by rw [e,N.o])
  have U:A.gy<wr.heap.size:=by rw [←N.o];exact g.o.at'.blk.lt
  have s:=g.o.at'.lt;clear H af K OK1' hl1 hck1 hG;go_wp2_with fail;go_region_held3 (fun W=>W.cell? ⟨A.gy,10,none⟩=some (ptr l.gw)∧W.cell? ⟨A.gy,12,none⟩=some (.int .i64 Y1.clk2)) (first | exact ad | exact ac | assumption | exact hA | exact G | go_keep)
   (first | (go_at_call 117;refine (T.o wr.drew g.o.at'.d A.gy U ag).mono ?_;rintro e n ⟨o,m,rfl,r,f,j,p,E⟩;obtain ⟨t0,ht0⟩:∃t0,Option.getD o zTm=t0:=⟨_,rfl⟩;obtain ⟨b,hb⟩:∃b,o.isSome=b:=⟨_,rfl⟩;rw [ht0,hb];have ab:=aa ht0;have F:=aa hb;have C:=aa r;clear ht0 hb;have i:=aa (g.o.trans (f.before (zZ _ _).drew));have P:=aa (show Blk (n.alloc (.cells #[.int .i64 t0.due,.int .i64 t0.kind,.int .i64 t0.mem,.int .i64 t0.level] 197)) n.heap.size 197 (cTm t0) from Blk.new n 197 (cTm t0));have a:=aa (i.o.keep ((zZ n.heap.size n).alloc (zY _) (.cells #[.int .i64 t0.due,.int .i64 t0.kind,.int .i64 t0.mem,.int .i64 t0.level] 197)));have EA:=i.o.keep ((zZ n.heap.size n).alloc (zY _) (.cells #[.int .i64 0,.int .i64 0,.int .i64 0,.int .i64 0] 197));have Q:=u.o n m o f.gy j i.o.at';have hA:=u.o _ m o f.gy j EA.at';have G:=u.o _ m o f.gy j a.o.at';obtain ⟨X,hX⟩:∃X,n.alloc (.cells #[.int .i64 t0.due,.int .i64 t0.kind,.int .i64 t0.mem,.int .i64 t0.level] 197)=X:=⟨_,rfl⟩;have J:=aa hX;clear hX r f E EA) | (go_at_call 117;refine (T.o (wr.alloc (.cells #[.int .i64 0,.int .i64 0,.int .i64 0,.int .i64 0] 197)).drew L.o.at'.d wr.heap.size (by simp) R).mono ?_;rintro e n ⟨o,m,rfl,r,f,j,p,E⟩;obtain ⟨t0,ht0⟩:∃t0,Option.getD o zTm=t0:=⟨_,rfl⟩;obtain ⟨b,hb⟩:∃b,o.isSome=b:=⟨_,rfl⟩;rw [ht0,hb];have ab:=aa ht0;have F:=aa hb;have C:=aa r;clear ht0 hb;have y:=E 197 #[.int .i64 0,.int .i64 0,.int .i64 0,.int .i64 0] (by decide) (Blk.d (Blk.new wr 197 #[.int .i64 0,.int .i64 0,.int .i64 0,.int .i64 0]));have z0:=y.c 0;have z1:=y.c 1;have z2:=y.c 2;have z3:=y.c 3;have f0:=y.free 0;have f1:=y.free 1;have f2:=y.free 2;have f3:=y.free 3;have i:=aa (L.o.trans (f.before (zZ _ _).drew));have E1:=i.o.at'.setT y p s 0 (.int .i64 t0.due);have M1:=y.set 0 (.int .i64 t0.due);have E2:=E1.at'.setT M1 p s 1 (.int .i64 t0.kind);have M2:=M1.set 1 (.int .i64 t0.kind);have E3:=E2.at'.setT M2 p s 2 (.int .i64 t0.mem);have M3:=M2.set 2 (.int .i64 t0.mem);have E4:=E3.at'.setT M3 p s 3 (.int .i64 t0.level);have M4:=M3.set 3 (.int .i64 t0.level);have P:=aa (show Blk _ wr.heap.size 197 (cTm t0) from M4);have a:=aa (i.o.trans (E1.trans (E2.trans (E3.trans E4))));have Q:=u.o n m o f.gy j i.o.at';have G:=u.o _ m o f.gy j a.o.at';obtain ⟨X,hX⟩:∃X,((((n.setCell ⟨wr.heap.size,0,none⟩ (.int .i64 t0.due)).setCell ⟨wr.heap.size,1,none⟩ (.int .i64 t0.kind)).setCell ⟨wr.heap.size,2,none⟩ (.int .i64 t0.mem)).setCell ⟨wr.heap.size,3,none⟩ (.int .i64 t0.level))=X:=⟨_,rfl⟩;have J:=aa hX;clear hX r f E E1 E2 E3 E4 M1 M2 M3 M4))
  all_goals
   clear Q G ad ac c9 R ag U s;have aw:=aa (C.o);rw [J.o] at a P ⊢;clear J;have al:X.cell? ⟨A.gy,12,none⟩=some (.int .i64 Y1.clk2):=by rw [←a.o.gy];exact a.o.at'.blk.c 12
   cases b with
   | false=>
    have O:o=none:=by
     have:=F.o
     cases o with
     | none=>rfl
     | some x=>simp at this
    have HO:=aa O;have HQ:Hid (TickQ Y I Y1.clk2 0 (Y1.pop o)):=aa ⟨ah.o,rfl,Y1,z.o,by rw [←HO.o];exact C.o,by rw [HO.o]⟩;have HK:Hid (YOk (Y1.pop o)∧(Y1.pop o).log.length+(Y1.pop o).D.log.length≤999000):=aa (by rw [HO.o];exact ⟨(HI.o _ z.o).1,(HI.o _ z.o).2.1⟩);clear O;go_wp2_with fail;refine bodyPost_ret (v:=.tuple #[.int .i64 Y1.clk2,.int .i64 0]) (by simp [results,Tryz.results80,go_sem]) rfl ?_;exact ⟨_,0,m,_,rfl,a.o,HK.o.1,HK.o.2,HQ.o⟩
   | true=>
    have O:o=some t0:=by
     have h1:=F.o;have h2:=ab.o;cases o with
     | none=>simp at h1
     | some x=>simpa using h2
    have S:=aa (HF.o Y1 t0 z.o (by rw [←O];exact C.o) X m (by rw [←O];exact a.o.at'));have au:=aa a.o.gy;have Z:Hid (Calls Tryz.prog 118 #[ptr A.gy,vTm t0] X fun e w'=>∃A' Y',e=.returned (.tuple #[])∧YSp B X w' m A' Y'∧I Y'∧μ Y'<μ Y1):=aa (by rw [←au.o];exact S.o);obtain ⟨x0,x1,x2,x3⟩:X.cell? ⟨_,0,none⟩=some (.int .i64 t0.due)∧X.cell? ⟨_,1,none⟩=some (.int .i64 t0.kind)∧X.cell? ⟨_,2,none⟩=some (.int .i64 t0.mem)∧X.cell? ⟨_,3,none⟩=some (.int .i64 t0.level):=⟨P.o.c 0,P.o.c 1,P.o.c 2,P.o.c 3⟩;clear O S al;go_wp2_with (go_at_call 118;refine Z.o.mono ?_;rintro e w6 ⟨A6,Y6,rfl,st6,hi6,hm6⟩;have av:=aa (a.o.trans st6);have ar:=aa hi6;have ai:=aa (AR hm6 aj.o);clear st6 hi6 hm6)
    go_roundg (μ Y6)
    case measure=>exact ai.o
    case rel=>exact ⟨Y6,A6,ar.o,zY _,av.o⟩
theorem nJ {B:Nat}{A:YA}{Y:YS}{w:World}(h:DyA w B A Y):Calls Tryz.prog 22 #[ptr A.gy] w fun e w'=>e=.returned (.int .i64 Y.phs)∧w'=w:=by
 have a:w.cell? ⟨A.gy,11,none⟩=some (.int .i64 Y.phs):=h.blk.c 11;clear h;go_enter Tryz.func22,Tryz.ntmps22;go_wp2_with fail;go_ret;exact ⟨rfl,rfl⟩
theorem lG {B:Nat}{A:YA}{Y:YS}{w:World}(h:DyA w B A Y)(ok:YOk Y):Calls Tryz.prog 16 #[ptr A.gy] w (RPo eTr 58 6 Y.G.list w):=by
 have i:w.cell? ⟨A.gy,9,none⟩=some (ptr A.G.gr):=h.blk.c 9;have g:=aa (fg h.reg ok.gok.ok);clear h ok;go_enter Tryz.func16,Tryz.ntmps16;go_wp2_with (go_at_call 50;refine g.o.mono ?_;rintro e j ⟨v,rfl,a,f⟩;have b:=aa a;have d:=aa f)
 go_ret;exact ⟨_,rfl,b.o,d.o⟩
theorem uM {B:Nat}{A:YA}{Y:YS}{w:World}(h:DyA w B A Y)(ok:YOk Y):Calls Tryz.prog 19 #[ptr A.gy] w (CPo eOb 71 6 Y.D.obs w):=by
 have j:w.cell? ⟨A.gy,8,none⟩=some (ptr A.D.gd):=h.blk.c 8;have g:=aa (lz h.desk ok.dok);clear h ok;go_enter Tryz.func19,Tryz.ntmps19;go_wp2_with (go_at_call 52;refine g.o.mono ?_;rintro e i ⟨v,rfl,a,f⟩;have b:=aa a;have d:=aa f)
 go_ret;exact ⟨_,rfl,b.o,d.o⟩
theorem uN {B:Nat}{A:YA}{Y:YS}{w:World}(h:DyA w B A Y)(ok:YOk Y)(a:Ac)(ass:Int):Calls Tryz.prog 28 #[ptr A.gy,aval a,.int .i64 ass] w fun e w'=>e=.returned (.tuple #[.int .i64 (Y.D.balP a ass).1,.int .i64 (Y.D.balP a ass).2])∧Bw w w':=
 zf A.gy A.D.gd _ rfl a ass _ _ w h.blk fun W hW=>tu (h.keep hW).desk ok.dok a ass
def DoTo (B:Nat)(Y:YS)(c:Cm)(Q:Int→Int→YS→Prop):Prop:=∀W A,DyA W B A Y→Calls Tryz.prog 9 #[ptr A.gy,cval c] W fun e w'=>∃er n A' Y',e=.returned (vAns er n)∧YSp B W w' A A' Y'∧Q er n Y'
theorem DoTo.at {B:Nat}{Y:YS}{c:Cm}{Q:Int→Int→YS→Prop}(h:DoTo B Y c Q){W:World}{A:YA}{g:Nat}(hA:DyA W B A Y)(e:A.gy=g):Calls Tryz.prog 9 #[ptr g,cval c] W fun e w'=>∃er n A' Y',e=.returned (vAns er n)∧YSp B W w' A A' Y'∧Q er n Y':=by
 subst e;exact h W A hA
theorem fo {B:Nat}{Y:YS}(c:Cm)(he:c.err=0)(hm:mayM Y.phs c.kd=true)(f:Nat)(hf:c.kd+70=f)(eg:∀args w,(callFunc f args).run Tryz.prog w=.ok (.enter f args) w)(Q:Int→Int→YS→Prop)(hh:Handles B f Y c Q):DoTo B Y c fun er n Y'=>∃Y1 n1,Q n1 er Y1∧YOk Y1∧Y'=Y1.hear∧n=if er=0 then n1 else 0:=fun W A h=>
 (zx h c he hm f hf eg Q hh).mono fun _ _ ⟨n,er,A',Y',he,hs,hk,hq⟩=>⟨er,_,A',_,he,hs,Y',n,hq,hk,rfl,rfl⟩
def tickC:Cm:=⟨10,0,0,0,0,0,0⟩
def TicksPost (B:Nat)(A:YA)(P:YS→Prop)(w:World)(e:Ending)(w':World):Prop:=∃A' Y',e=.returned (.tuple #[])∧YSp B w w' A A' Y'∧P Y'
theorem qM {B:Nat}{A:YA}{Y:YS}{w:World}(h:DyA w B A Y)(n:Nat)(hn:n≤100000)(R:Nat→YS→Prop)(h0:R 0 Y)(hd:∀i,i<n→∀Y1,R i Y1→DoTo B Y1 tickC fun _ _ Y2=>R (i+1) Y2):Calls Tryz.prog 18 #[ptr A.gy,.int .i64 n] w (TicksPost B A (R n) w):=by
 have t:=aa h;have s:=aa h0;have C:=aa hd;have x:Hid (∀w' A' Y',YSp B w w' A A' Y'→R n Y'→TicksPost B A (R n) w (.returned (.tuple #[])) w'):=aa (fun w' A' Y' h1 h2=>⟨A',Y',rfl,h1,h2⟩);clear h h0 hd;go_enter Tryz.func18,Tryz.ntmps18;go_wp2_with fail;go_loopw [4] (fun vi wr=>∃(k:Nat) (p:YA) (Y1:YS),k≤n∧vi=.int .i64 k∧YSp B w wr A p Y1∧R k Y1) (fun vi _=>n - (intOf vi).toNat)
 case atStart=>exact ⟨0,A,Y,Af _,rfl,YSp.same t.o (zZ _ _),s.o⟩
 case round=>
  obtain ⟨k,p,Y1,F,rfl,c,l⟩:=hrel;have a:=aa c;have q:=aa l;clear c l;by_cases hlt:k<n
  ·have r:(0:Int)≤(k:Int):=by omega
   have y:(k:Int)<(n:Int):=by omega
   have f:=aa ((C.o k hlt Y1 q.o).at a.o.at' a.o.gy);unfold tickC at f;go_wp2_with (go_at_call 9;refine f.o.mono ?_;rintro e D ⟨E,m,v,u,rfl,b,d⟩;have g:=aa (a.o.trans b);have j:=aa d;clear b d)
   go_roundw
   case rel=>exact ⟨k+1,v,u,by omega,by go_num,g.o,j.o⟩
   case measure=>exact ar (by omega)
  ·obtain rfl:k=n:=by omega
   have z:¬ ((k:Int)<(k:Int)):=by omega
   go_wp2_with fail;go_end0;exact x.o _ _ _ a.o q.o
end
def D0 (C:Cfg):DS:={ C:=C,bal:=List.replicate ((C.secs.length+1) * (6+3 * C.mem.length)) 0,hlds:=[],obs:=[],bids:=[],who:=[],cycles:=0,state:=0,endowed:=false,log:=[] }
def G0 (C:Cfg):GS:={ C:=C,trades:=[],used:=[],acd:=0 }
def Y0 (C:Cfg):YS:={ C:=C,D:=D0 C,G:=G0 C,whl:=[],phs:=0,clk2:=0,cycle:=0,told:=0,log:=[] }
theorem cd (w:World)(B T k:Nat){α:Type}(enc:α→List Value):w.ownsRow B T k (.slice none 0 0) ([]:List α).length (flat enc ([]:List α)):=⟨by simp [flat],Or.inl ⟨rfl,rfl⟩⟩
def YNewPost (C:Cfg)(w:World)(e:Ending)(w':World):Prop:=∃A:YA,e=.returned (.tuple #[ptr A.gy,.int .i64 0])∧DyA w' w.heap.size A (Y0 C)∧Bw w w'
theorem lH (vm vs vc:Value)(C:Cfg)(w:World)(hc:CSl w vm vs vc C)(hv:Valid C)(hw:Words w):Calls Tryz.prog 8 #[cfgV vm vs vc C] w (YNewPost C w):=by
 refine (newY vm vs vc C w hc hv).mono ?_;rintro e p ⟨gy,gd,gr,gw,gv,gb,gh,gs,gx,gt,gu,vb,l,j,i,um,us,uc,o,n,f,g,d,m,rfl,h,c⟩;refine ⟨{ gy:=gy,gw:=gw,D:={ gd:=gd,gv:=gv,gb:=gb,gh:=gh,gs:=gs,gx:=gx,vm:=o,vs:=n,vc:=f,vb:=vb,vh:=.slice none 0 0,vo:=.slice none 0 0,um:=um,us:=us,uc:=uc,vx:=.slice none 0 0,vw:=.slice none 0 0,vl:=.slice none 0 0,pst:=0 },G:={ gr:=gr,gt:=gt,gu:=gu,vm:=g,vs:=d,vc:=m,vt:=.slice none 0 0,vu:=.slice none 0 0 },vm:=l,vs:=j,vc:=i,vt:=.slice none 0 0,vl:=.slice none 0 0 },rfl,?_,c⟩;have a:=h.desk;have b:=h.reg;refine ⟨h.blk,h.cfg,?_,?_,?_,cd _ _ _ _ _,fun k hk=>by simp [Value.ownBlock] at hk,h.l1,hw.keep c,Nat.lt_of_le_of_lt (Af _) hw.lt⟩
 ·exact ⟨a.blk,a.cfg,⟨a.vault.blk,a.vault.book,a.vault.hlds,cd _ _ _ _ _,a.vault.l1,a.vault.l2,a.vault.l3⟩,⟨a.sheet,cd _ _ _ _ _,a.l2⟩,a.box.blk,a.box.cfg,cd _ _ _ _ _,cd _ _ _ _ _,cd _ _ _ _ _,a.l1,a.box.l1⟩
 ·exact ⟨b.blk,b.cfg,b.trades,b.used,cd _ _ _ _ _,cd _ _ _ _ _,b.l1,b.l2,b.l3⟩
 ·exact ⟨h.whl,cd _ _ _ _ _,h.l2⟩
theorem yQ {C:Cfg}(hv:Valid C):YOk (Y0 C):=by
 refine ⟨rfl,rfl,⟨hv,by show (List.replicate _ _).length=_;rw [Bc];rfl,?_,by simp [Y0,D0],?_,by simp [Y0,D0],fun x hx=>by simp [Y0,D0] at hx,by simp [Y0,D0]⟩,?_,Af _,?_,by simp [Y0],by simp [Y0],by simp [Y0,D0],fun x hx=>by simp [Y0,D0] at hx⟩
 ·intro n b;rw [List.eq_of_mem_replicate b];unfold In64;omega
 ·exact List.Pairwise.nil
 ·have a:=hv.trades;have c:0≤C.trades * (C.cyc.length:Int):=Int.mul_nonneg (by omega) (by omega);exact ⟨⟨hv,by simp [Y0,G0],by simp [Y0,G0],List.Pairwise.nil,List.Pairwise.nil⟩,fun x hx=>by simp [Y0,G0] at hx,by simp [Y0,G0],by show (0:Int)≤C.trades;omega,by show ((0:Nat):Int)≤C.trades * (C.cyc.length:Int);omega,fun x hx=>by simp [Y0,G0] at hx,fun x hx=>by simp [Y0,G0] at hx⟩
 ·have a:=hv.c1;show ((0:Nat):Int)≤4 * (C.cyc.length:Int)+2 * (C.mem.length:Int)
  omega
section
attribute [local go_sem ↓] Go.wp_at_zero Go.wp_at_succ
def openC:Cm:=⟨1,0,0,0,0,0,0⟩
def tradeC (t:Tr):Cm:=⟨2,t.id,t.byr,t.slr,t.sec,t.qty,t.prc⟩
theorem bP {B:Nat}{w W W2:World}{A A':YA}{Y:YS}(s:YSp B W W2 A A' Y)(hB:w.heap.size≤B)(h:Bw w W):Bw w W2:=
 ⟨s.mod.os.trans h.os,s.mod.tape.trans h.tape,s.mod.output.trans h.output,z5 h.size s.mod.size,fun k hk=>(s.mod.far k (AR hk h.size) (Or.inl (AR hk hB))).trans (h.block k hk)⟩
theorem qN (a b:Int)(W:World):(Instr.field 35 (.agg #[.int .i64 a,.int .i64 b]) 0).run Tryz.prog W=.ok (.int .i64 a) W:=by kernel_rfl
def TradingPost (R:Nat→YS→Prop)(w:World)(e:Ending)(w':World):Prop:=∃(B:Nat) (A:YA) (m:Nat) (Y:YS),e=.returned (.tuple #[ptr A.gy,.int .i64 m])∧w.heap.size≤B∧DyA w' B A Y∧R m Y∧Bw w w'
theorem lI (vm vs vc v:Value)(C:Cfg)(l:List Tr)(w:World)(hc:CSl w vm vs vc C)(hv:Valid C)(hw:Words w)(hl:Sl eTr 6 w v l)(hn:l.length≤100000)(R:Nat→Nat→YS→Prop)(h0:∀B,DoTo B (Y0 C) openC fun _ _ Y=>R 0 0 Y)
  (hd:∀B k,(hk:k<l.length)→∀m Y,R k m Y→DoTo B Y (tradeC l[k]) fun er _ Y'=>R (k+1) (if er=0 then m+1 else m) Y') :
  Calls Tryz.prog 13 #[cfgV vm vs vc C,v] w (TradingPost (R l.length) w):=by
 obtain ⟨ad,af,rfl,_,h1,h2,n⟩:=hl;unfold maxLen at h2;obtain ⟨W1,hW1⟩:∃W1,w.alloc (.cells (cfgC vm vs vc C) 26)=W1:=⟨_,rfl⟩;have E:Bw w W1:=by rw [←hW1];exact Bn
 have z:=aa (lH vm vs vc C W1 (hc.keep E) hv (hw.keep E));have HC:=aa n;have U:=aa h0;have HD:=aa hd;have S:=aa hW1;have HP:Hid (∀w' B A m Y,w.heap.size≤B→DyA w' B A Y→R l.length m Y→Bw w w'→TradingPost (R l.length) w (.returned (.tuple #[ptr A.gy,.int .i64 m])) w'):=aa (fun w' B A m Y g1 g2 g3 g4=>⟨B,A,m,Y,rfl,g1,g2,g3,g4⟩);have W:=qN;clear hc hv hw h0 hd hW1 n;go_enter Tryz.func13,Tryz.ntmps13;go_wp2_with fail;rw [show w.alloc (.cells #[vm,vs,vc,.int .i64 C.line,.int .i64 C.capital,.int .i64 C.lead,.int .i64 C.trades,.int .i64 C.bids] 26)=W1 from S.o];refine z.o.mono ?_;rintro e w2 ⟨A2,rfl,f,c2⟩;have L2:=aa (E.trans (c2.mono E.size));obtain ⟨B,hB⟩:∃B,W1.heap.size=B:=⟨_,rfl⟩;have u:w.heap.size≤B:=by rw [←hB];exact E.size
 rw [hB] at f;have V:=aa f;have x:=aa ((U.o B).at f rfl);unfold openC at x;obtain ⟨g,L⟩:∃g,A2.gy=g:=⟨_,rfl⟩;have K:=aa L;rw [L] at x ⊢;clear f c2 hB L z U;go_wp2_with (go_at_call 9;refine x.o.mono ?_;rintro e w3 ⟨er,m,A3,Y3,rfl,st3,hr3⟩;have P:=aa (st3.gy.trans K.o);have L3:=aa (bP st3 u L2.o);have Q:=aa st3.at';have O:=aa hr3;clear st3 hr3)
 go_loopg [9,8] (l.length) (fun gk vi vn wr=>∃(k m:Nat) (M:YA) (I:YS),k≤l.length∧l.length - k≤gk∧m≤k∧vi=.int .i64 k∧vn=.int .i64 m∧DyA wr B M I∧M.gy=g∧R k m I∧Bw w wr)
 case atStart=>exact ⟨0,0,A3,Y3,Af _,Nat.sub_le _ _,zY _,rfl,rfl,Q.o,P.o,O.o,L3.o⟩
 case round=>
  obtain ⟨k,G,M,I,hk,ag,ah,rfl,rfl,f,F,hr,r⟩:=hrel;have HY:=aa f;have N:=aa F;have HR:=aa hr;have a:=aa r;clear f F hr r;by_cases hlt:k<l.length
  ·obtain ⟨b,i,rfl,h,H⟩:=HC.o (by omega);obtain ⟨r0,r1,r2,r3,r4,r5⟩:=l4 (H k hlt);have q0:=(a.o.c (p:=⟨b,i+k * 6,none⟩) h).trans r0;have q1:=(a.o.c (p:=⟨b,i+k * 6+1,none⟩) h).trans r1;have q2:=(a.o.c (p:=⟨b,i+k * 6+2,none⟩) h).trans r2;have q3:=(a.o.c (p:=⟨b,i+k * 6+3,none⟩) h).trans r3;have q4:=(a.o.c (p:=⟨b,i+k * 6+4,none⟩) h).trans r4;have q5:=(a.o.c (p:=⟨b,i+k * 6+5,none⟩) h).trans r5;have ab:(0:Int)≤(k:Int):=by omega
   have ac:(k:Int)<(l.length:Int):=by omega
   have T:=aa (HD.o B k hlt G I HR.o);clear H r0 r1 r2 r3 r4 r5;generalize l[k]=t at *;have HX:=aa (fun (o:Obj)=>T.o.at (HY.o.alloc o) N.o);unfold tradeC at HX;go_wp2_with fail;refine (HX.o _).mono ?_;rintro e w5 ⟨er,n5,Z,J,rfl,j,q⟩;have y:=aa (j.gy.trans N.o);have X:=aa (bP j u (a.o.alloc a.o.size _));have D:=aa j.at';by_cases hee:er=0
   ·have s:Hid (R (k+1) (G+1) J):=aa (by rwa [if_pos hee] at q);have d:(er==0)=true:=by simpa using hee
    clear j q hee;unfold vAns;go_wp2_with fail;go_roundg (l.length - (k+1))
    case rel=>exact ⟨k+1,G+1,Z,J,by omega,zY _,by omega,by go_num,by go_num,D.o,y.o,s.o,X.o⟩
    case measure=>omega
   ·have s:Hid (R (k+1) G J):=aa (by rwa [if_neg hee] at q);have d:(er==0)=false:=by simpa using hee
    clear j q hee;unfold vAns;go_wp2_with fail;go_roundg (l.length - (k+1))
    case rel=>exact ⟨k+1,G,Z,J,by omega,zY _,by omega,by go_num,rfl,D.o,y.o,s.o,X.o⟩
    case measure=>omega
  ·obtain rfl:k=l.length:=by omega
   have ae:¬ ((l.length:Int)<(l.length:Int)):=by omega
   rw [←N.o];go_wp2_with fail;go_ret2;exact HP.o _ _ _ _ _ u HY.o HR.o a.o
end
theorem dr:∀(l:List Cy) (a:Int),CycOk a l→(tmM l).Pairwise (fun s t=>s.due<t.due)∧∀t∈tmM l,a<t.due∧t.due≤1000∧t.kind≠2:=by
 intro l;induction l with
 | nil=>intro a _;exact ⟨List.Pairwise.nil,by simp [tmM]⟩
 | cons x l ih=>
  intro a h;have d:a<x.cut∧x.cut<x.fund∧x.fund<x.buyin∧x.buyin<x.close∧x.close≤1000∧CycOk x.close l:=h;obtain ⟨h1,h2,h3,h4,h5,h6⟩:=d;obtain ⟨i1,i2⟩:=ih _ h6;have e:tmM (x :: l)=four x++tmM l:=by simp [tmM]
  rw [e];constructor
  ·rw [List.pairwise_append];refine ⟨?_,i1,?_⟩
   ·simp [four];omega
   ·intro s c t b;have:=i2 t b
    simp [four] at c
    rcases c with rfl | rfl | rfl | rfl <;> (dsimp only;omega)
  ·intro t b;rcases AJ.1 b with b | b
   ·simp [four] at b
    rcases b with rfl | rfl | rfl | rfl <;> (dsimp only;omega)
   ·have:=i2 t b;omega
theorem eB {C:Cfg}(h:Valid C):(tmM C.cyc).Nodup:=
 (dr _ _ h.cyc).1.imp fun h e=>by subst e;omega
theorem eS {C:Cfg}(h:Valid C):∃x l,C.cyc=x :: l∧cycOf C 0=x∧okC C 0∧1≤x.cut∧x.cut<x.fund∧x.fund≤1000∧∀t∈tmM C.cyc,t=⟨x.cut,1,0,0⟩∨x.cut<t.due:=by
 have c:=h.c1;have b:=h.cyc;cases hc:C.cyc with
 | nil=>rw [hc] at c;simp at c
 | cons x l=>
  rw [hc] at b;have g:0<x.cut∧x.cut<x.fund∧x.fund<x.buyin∧x.buyin<x.close∧x.close≤1000∧CycOk x.close l:=b;obtain ⟨c,b,k,i,j,f⟩:=g;have d:okC C 0:=by unfold okC;rw [hc,Ay];omega
  refine ⟨x,l,rfl,by unfold cycOf;rw [if_pos d,hc];rfl,d,by omega,b,by omega,?_⟩;intro t a;have e:tmM (x :: l)=four x++tmM l:=by simp [tmM]
  rw [e] at a;rcases AJ.1 a with a | a
  ·simp [four] at a
   rcases a with rfl | rfl | rfl | rfl
   ·exact Or.inl rfl
   all_goals (right;dsimp only;omega)
  ·have:=(dr l _ f).2 t a
   right;omega
theorem lJ {C:Cfg}{i m:Int}:∀t∈planM C i m,t.kind=2∧t.mem=m∧(cycOf C i).cut<t.due:=by
 intro t a;unfold planM at a;obtain ⟨p,hp,rfl⟩:=AD.1 a;unfold notK at hp;obtain ⟨j,_,hj⟩:=AN.1 hp;split at hj
 ·rename_i b
  injection hj with hj
  subst hj;exact ⟨rfl,rfl,b.2⟩
 ·exact absurd hj (by simp)
theorem uO {C:Cfg}{i m:Int}:(planM C i m).Nodup∧(planM C i m).length≤2:=by
 refine ⟨?_,by unfold planM;rw [Ad];exact gR _ _ _⟩;unfold planM;have e:∀x,notK C x 2=(if 0<C.lead∧x.cut<x.fund - (2 - (0:Int)) * C.lead then [((0:Int)+1,x.fund - (2 - (0:Int)) * C.lead)] else [])++(if 0<C.lead∧x.cut<x.fund - (2 - (1:Int)) * C.lead then [((1:Int)+1,x.fund - (2 - (1:Int)) * C.lead)] else []):=by
  intro x;rw [dD,dD];rfl
 rw [e];split <;> split <;> simp [planT]
theorem oK (Y:YS):∀n:Nat,(∀t∈cutL Y n,t.kind=2∧1≤t.mem∧t.mem≤n∧(cycOf Y.C Y.cycle).cut<t.due)∧(cutL Y n).Nodup∧(cutL Y n).length≤2 * n:=by
 intro n;induction n with
 | zero=>exact ⟨by simp [cutL],by simp [cutL],by simp [cutL]⟩
 | succ n ih=>
  obtain ⟨b,c,g⟩:=ih;unfold cutL;obtain ⟨p1,p2⟩:=uO (C:=Y.C) (i:=Y.cycle) (m:=(n:Int)+1);split
  ·refine ⟨?_,?_,by rw [z8];omega⟩
   ·intro t a;rcases AJ.1 a with a | a
    ·have:=b t a;omega
    ·have:=lJ t a;omega
   ·rw [List.nodup_append];refine ⟨c,p1,?_⟩;intro s d t a e;subst e;have h:=b s d;have f:=lJ s a;omega
  ·refine ⟨?_,by rw [Bm];exact c,by rw [Bm];omega⟩;intro t a;rw [Bm] at a;have:=b t a;omega
theorem uP:∀(T:List Tr),(∀t∈T,TrGood t)→(absL ((T.flatMap lg4).map (·.amt)):Int)≤2 * grL T+549755813888 * (T.length:Int):=by
 intro T;induction T with
 | nil=>intro _;simp [absL,grL]
 | cons t T ih=>
  intro h;have f:=ih fun x hx=>h x (AG _ hx)
  have a:=h t (As ..);have g:=a.v0;have d:=a.q0;have b:absL (((t :: T).flatMap lg4).map (·.amt))=2 * (valM t).1.natAbs+2 * t.qty.natAbs+absL ((T.flatMap lg4).map (·.amt)):=by
   unfold absL;rw [List.flatMap_cons];simp only [lg4,List.cons_append,Bl,Am,AB,Int.natAbs_neg];omega
  have c:grL (t :: T)=(valM t).1+grL T:=by simp [grL]
  rw [b,c,Ay];omega
theorem qO {C:Cfg}{T:List Tr}(h:Accept C T):Fair (T.flatMap lg4):=by
 have a:=uP T h.good;have b:=h.gross;have c:=h.n;unfold Fair;omega
structure Trading (C:Cfg)(T:List Tr)(c:Int)(k:Nat)(Y:YS):Prop where
 ok:YOk Y
 cfg:Y.C=C
 desk:Y.D=(D0 C).endow
 rel:RegRel Y.G T
 whl:Y.whl=tmM C.cyc
 phs:Y.phs=1
 clk2:Y.clk2=c
 cycle:Y.cycle=0
 log:Y.log.length≤k
theorem eT (C:Cfg):(D0 C).endow.log=[]:=rfl
theorem Trading.hear {C:Cfg}{T:List Tr}{c:Int}{k:Nat}{Y:YS}(h:Trading C T c k Y):Trading C T c k Y.hear:=
 ⟨h.ok.hear,h.cfg,h.desk,h.rel,h.whl,h.phs,h.clk2,h.cycle,by
  have:Y.D.log=[]:=by rw [h.desk];rfl
  show (Y.log++Y.D.log.drop Y.told).length≤k
  rw [this];simpa using h.log⟩
structure CutAt (C:Cfg)(T:List Tr)(Y:YS):Prop where
 ok:YOk Y
 cfg:Y.C=C
 phs:Y.phs=2
 list:Y.G.list=T
 nets:∃nets,NetsOk C T nets∧Y.D.obs=nets.map (obOf 1)∧Y.D=(D0 C).endow.netted nets
 clk2:Y.clk2=(cycOf C 0).cut
 cycle:Y.cycle=0
 whl:Y.whl=((tmM C.cyc).filter fun u=>!theTm ⟨(cycOf C 0).cut,1,0,0⟩ u)++cutL Y C.mem.length
 log:Y.log.length≤4000
 dlog:Y.D.log.length≤1024
theorem gT {Y Z:YS}(h1:Y.C=Z.C)(h2:Y.cycle=Z.cycle)(h3:Y.D.obs=Z.D.obs):∀n,cutL Y n=cutL Z n:=by
 intro n;induction n with
 | zero=>rfl
 | succ n ih=>
  unfold cutL;rw [ih];unfold YS.lacks YS.lackL;rw [h1,h2,h3]
theorem CutAt.hear {C:Cfg}{T:List Tr}{Y:YS}(h:CutAt C T Y)(hl:Y.log.length≤2900):CutAt C T Y.hear:=⟨h.ok.hear,h.cfg,h.phs,h.list,h.nets,h.clk2,h.cycle,h.whl.trans (by rw [gT (Y:=Y) (Z:=Y.hear) rfl rfl rfl]),by
 have:=h.dlog
 show (Y.log++Y.D.log.drop Y.told).length≤4000
 rw [z8,Al];omega,h.dlog⟩
theorem nK {B:Nat}{C:Cfg}{T:List Tr}{c:Int}{k:Nat}{Y:YS}(h:Trading C T c k Y)(hk:k≤1000)(hc:0≤c)(hlt:c+1<(cycOf C 0).cut):DoTo B Y tickC fun _ _ Y'=>Trading C T (c+1) k Y':=by
 have o:Valid C:=by rw [←h.cfg];exact h.ok.cfg
 obtain ⟨x,l,r,i,j,y,u,v,q⟩:=eS o;rw [i] at hlt;have a:YOk Y.clk:=⟨h.ok.dc,h.ok.gc,h.ok.dok,h.ok.gok,h.ok.told,h.ok.whl,h.ok.cyc,by show 0≤Y.clk2+1∧Y.clk2+1≤100000;rw [h.clk2];omega,h.ok.cn,h.ok.d64⟩;have b:Y.clk.log.length+Y.clk.D.log.length≤999000:=by
  show Y.log.length+Y.D.log.length≤999000
  rw [h.desk,eT];have:=h.log
  simp only [AL];omega
 have g:=dE (B:=B) (Y:=Y) tickC h.ok (fun Y1=>Y1=Y.clk) (fun _=>0) rfl (fun Y1 e=>by subst e;exact ⟨a,b,rfl⟩) (fun Y1 t e hf=>by
  subst e;obtain ⟨P,p,_,m⟩:=hf;obtain ⟨f,d⟩:=dB p m;have f:t∈tmM C.cyc:=by rw [←h.whl];exact f
  have d:t.due≤Y.clk2+1:=d;rw [h.clk2] at d;rcases q t f with h5 | h5
  ·subst h5;simp only at d;omega
  ·omega)
 intro W A s;refine (fo tickC (by decide) (by rw [h.phs];decide) 80 rfl (fun _ _=>rfl) _ g W A s).mono ?_;rintro e w' ⟨er,n,A',Y',he,hs,Y1,n1,⟨_,_,Y2,rfl,_,rfl⟩,_,rfl,_⟩;refine ⟨er,n,A',_,he,hs,?_⟩;exact Trading.hear (Y:=Y.clk) ⟨a,h.cfg,h.desk,h.rel,h.whl,h.phs,by show Y.clk2+1=c+1;rw [h.clk2],h.cycle,h.log⟩
theorem yb {C:Cfg}{T:List Tr}{G:GS}(hv:Valid C)(hrel:RegRel G T)(hC:G.C=C){r:Int}{D':DS}(h:NetRel (D0 C).endow G.legs r D'):∃nets,NetsOk C G.list nets∧D'.obs=nets.map (obOf 1)∧D'=(D0 C).endow.netted nets∧D'.log.length≤1024:=by
 have d:Accept C G.list:=by rw [←hC];exact d8 hrel
 have i:=hv.c1;unfold NetRel at h;rw [if_neg (show ¬ ((D0 C).endow.state≠0) from fun h=>h rfl),if_neg (show ¬ (((D0 C).endow.C.cyc.length:Int)≤(D0 C).endow.cycles) from by show ¬ ((C.cyc.length:Int)≤0);omega)] at h;obtain ⟨nets,g,a,h⟩:=h;have a:NetsIs C (G.list.flatMap lg4) nets g:=a;obtain ⟨hr0,hok⟩:=xG d a;have f:=hok.len;have c:wrap64 ((D0 C).endow.cycles+1)=1:=by show wrap64 (0+1)=1;unfold wrap64;omega
 have b:sopenM (D0 C).endow.obs (wrap64 ((D0 C).endow.cycles+1)) nets=(0,nets.map (obOf 1)):=by
  rw [c];show sopenM [] 1 nets=_
  unfold sopenM;rw [if_neg (by simp;omega),if_neg (by simp [countS]),if_neg (by simp),if_neg (by rw [hok.twice];simp)];simp
 rw [if_neg (by simp [hr0]),if_neg (by rw [show wholeM ((D0 C).endow.C.secs.length+1) nets=0 from hok.whole];simp),b] at h;rw [if_neg (by simp)] at h;obtain ⟨_,rfl⟩:=h;have h:=gS (((D0 C).endow.opened nets).tell (evNet nets)) (D0 C).endow.C.mem.length;refine ⟨nets,hok,?_,rfl,?_⟩
 ·show ((D0 C).endow.netted nets).obs=_
  unfold DS.netted;rw [h.1];show (sopenM (D0 C).endow.obs (wrap64 ((D0 C).endow.cycles+1)) nets).2=_
  rw [b]
 ·show ((D0 C).endow.netted nets).log.length≤_
  unfold DS.netted;rw [h.2.1];show ([]++evNet nets).length≤1024
  unfold evNet;simpa using f
theorem uQ {B:Nat}{C:Cfg}{T:List Tr}{c:Int}{k:Nat}{Y:YS}(h:Trading C T c k Y)(hk:k≤1000)(hlt:c+1=(cycOf C 0).cut):DoTo B Y tickC fun _ _ Y'=>CutAt C Y.G.list Y':=by
 have Q:Valid C:=by rw [←h.cfg];exact h.ok.cfg
 obtain ⟨x,l,ad,N,ae,h1,h2,h3,h4⟩:=eS Q;rw [N] at hlt;have ag:=Q.c2;have o:=dR C.cyc;have S:YOk Y.clk:=⟨h.ok.dc,h.ok.gc,h.ok.dok,h.ok.gok,h.ok.told,h.ok.whl,h.ok.cyc,by show 0≤Y.clk2+1∧Y.clk2+1≤100000;rw [h.clk2];omega,h.ok.cn,h.ok.d64⟩;have K:Y.clk.log.length+Y.clk.D.log.length≤999000:=by
  show Y.log.length+Y.D.log.length≤999000
  rw [h.desk,eT];have:=h.log
  simp only [AL];omega
 have p:Y.G.C=C:=by rw [←h.cfg];exact h.ok.gc
 obtain ⟨E,g⟩:∃E:Tm,E=⟨x.cut,1,0,0⟩:=⟨_,rfl⟩;have R:E∈tmM C.cyc:=by rw [g,ad];simp [tmM,four]
 obtain ⟨I,L⟩:∃I:YS→Prop,I=fun Z=>Z=Y.clk∨(CutAt C Y.G.list Z∧Z.clk2=x.cut∧(∀t∈Z.whl,x.cut<t.due)∧Z.log.length≤2900):=⟨_,rfl⟩
 have hh:=dE (B:=B) (Y:=Y) tickC h.ok I (fun Z=>if Z.phs=1 then 1 else 0) (by rw [L];exact Or.inl rfl) (fun Y1 e=>by
  rw [L] at e;rcases e with rfl | ⟨e1,e2,e3,e4⟩
  ·exact ⟨S,K,rfl⟩
  ·exact ⟨e1.ok,by have:=e1.dlog;omega,by rw [e2,h.clk2,hlt]⟩) (fun Y1 t e hf=>by
  rw [L] at e;obtain ⟨P,hP,_,hm⟩:=hf;obtain ⟨U,X⟩:=dB hP hm;rcases e with rfl | ⟨e1,e2,e3,e4⟩
  ·have U:t∈tmM C.cyc:=by rw [←h.whl];exact U
   have X:t.due≤Y.clk2+1:=X;rw [h.clk2] at X;have z:t=E:=by
    rcases h4 t U with h5 | h5
    ·rw [h5,g]
    ·omega
   subst z;obtain ⟨a,f⟩:∃a,Y.clk.pop (some t)=a:=⟨_,rfl⟩;have w2:a.whl=(tmM C.cyc).filter fun x=>!theTm t x:=by rw [←f,←h.whl];rfl
   have s2:a.whl.Sublist (tmM C.cyc):=by rw [w2];exact List.filter_sublist
   have d2:∀u∈a.whl,x.cut<u.due∧u.kind≠2:=by
    intro u i;rw [w2,AS] at i;rcases h4 u i.1 with h5 | h5
    ·exfalso;have:=i.2
     rw [h5,←g] at this;simp [theTm] at this
    ·exact ⟨h5,((dr _ _ Q.cyc).2 u i.1).2.2⟩
   have H:(C.room:Int)=4 * (C.cyc.length:Int)+2 * (C.mem.length:Int):=rfl;have q:a.whl.length≤4 * C.cyc.length:=by rw [←o];exact s2.length_le
   have b:a.C=C:=by rw [←f];exact h.cfg
   have y:a.D=(D0 C).endow:=by rw [←f];exact h.desk
   have F:a.G=Y.G:=by rw [←f];rfl
   have P2:a.phs=1:=by rw [←f];exact h.phs
   have K2:a.clk2=x.cut:=by rw [←f];show Y.clk2+1=_;rw [h.clk2,hlt]
   have j:a.cycle=0:=by rw [←f];exact h.cycle
   have L2:a.log=Y.log:=by rw [←f];rfl
   have T2:a.told=Y.told:=by rw [←f];rfl
   have aa:YOk a:=⟨by rw [y,b];rfl,by rw [F,b];exact p,by rw [y,←h.desk];exact h.ok.dok,by rw [F];exact h.ok.gok,by rw [y,←h.desk,T2];exact h.ok.told,by rw [b];omega,by rw [j];omega,by rw [K2];omega,by rw [y,←h.desk];exact h.ok.cn,by rw [y,←h.desk];exact h.ok.d64⟩;have v:Accept C Y.G.list:=by rw [←p];exact d8 h.rel
   have hW:∀r d,NetRel a.D a.G.legs r d→(a.cutDone d).whl.Nodup∧((a.cutDone d).whl.length:Int)≤a.C.room∧∀u∈(a.cutDone d).whl,x.cut<u.due:=by
    intro r d _;have e:(a.cutDone d).whl=a.whl++cutL ({ a with D:=d }:YS) C.mem.length:=by
     show a.whl++cutL _ a.C.mem.length=_
     rw [b]
    have O:(cycOf ({ a with D:=d }:YS).C ({ a with D:=d }:YS).cycle).cut=x.cut:=by
     show (cycOf a.C a.cycle).cut=_
     rw [b,j,N]
    obtain ⟨c1,c2,c3⟩:=oK ({ a with D:=d }:YS) C.mem.length;rw [O] at c1;rw [e];refine ⟨?_,?_,?_⟩
    ·rw [List.nodup_append];refine ⟨s2.nodup (eB Q),c2,?_⟩;intro s M u i e;subst e;exact (d2 s M).2 (c1 s i).1
    ·have hr:a.C.room=4 * (C.cyc.length:Int)+2 * (C.mem.length:Int):=by rw [b];exact H
     rw [z8];omega
    ·intro u i;rcases AJ.1 i with i | i
     ·exact (d2 u i).1
     ·exact (c1 u i).2.2.2
   have V:a.log.length+2 * a.D.log.length≤800000:=by
    rw [L2,y,eT];have:=h.log
    simp only [AL];omega
   have m:a.G.legs=Y.G.list.flatMap lg4:=by rw [F];rfl
   rw [f];intro W A hA;refine (uL t (by rw [g]) hA aa (by rw [F];exact v.good) (by rw [m];exact qO v) (by rw [m,eP];have:=v.n;omega) (by rw [b,j];exact ae) (by rw [b,j,N];omega) V (fun r d hN=>⟨(hW r d hN).1,(hW r d hN).2.1⟩)).mono ?_;rintro e w' ⟨A',r,d,he,hN,M,hok3⟩;refine ⟨A',_,he,M,?_,?_⟩
   ·rw [L];right
    have af:NetRel (D0 C).endow Y.G.legs r d:=by rw [←y,←F];exact hN
    obtain ⟨J,n1,n2,n3,n4⟩:=yb Q h.rel p af;have ac:((a.cutDone d).come ((a.cutDone d).next 1 false)).log.length≤2900:=by
     show (a.log++d.log.drop a.told++[_]).length≤2900
     have:=h.log
     rw [z8,z8,Al,L2];simp only [Ai];omega
    refine ⟨⟨hok3,b,?_,?_,⟨J,n1,n2,n3⟩,by rw [N];exact K2,j,?_,by omega,n4⟩,K2,(hW r d hN).2.2,ac⟩
    ·show (a.cutDone d).next 1 false=2
     show (nextM a.phs 1 false (decide ((a.C.cyc.length:Int)≤a.cycle))).1=2
     rw [P2];cases decide ((a.C.cyc.length:Int)≤a.cycle) <;> decide
    ·show a.G.list=_
     rw [F]
    ·rw [N,←g,←w2,←b];show a.whl++cutL ({ a with D:=d }:YS) a.C.mem.length=_
     rw [gT (Y:=({ a with D:=d }:YS)) (Z:=(a.cutDone d).come ((a.cutDone d).next 1 false)) rfl rfl rfl]
   ·show (if ((a.cutDone d).come ((a.cutDone d).next 1 false)).phs=1 then 1 else 0)<(if Y.clk.phs=1 then 1 else 0)
    rw [if_pos (show Y.clk.phs=1 from h.phs),if_neg]
    ·exact Nat.zero_lt_one
    ·show ¬ (nextM a.phs 1 false (decide ((a.C.cyc.length:Int)≤a.cycle))).1=1
     rw [P2];cases decide ((a.C.cyc.length:Int)≤a.cycle) <;> decide
  ·exfalso;have:=e3 t U
   omega)
 intro W A hA;refine (fo tickC (by decide) (by rw [h.phs];decide) 80 rfl (fun _ _=>rfl) _ hh W A hA).mono ?_;rintro e w' ⟨er,n,A',Y',he,M,Y1,n1,⟨_,_,a,hi,⟨P,hP,hs2,hn⟩,rfl⟩,_,rfl,_⟩;refine ⟨er,n,A',_,he,M,?_⟩;rw [L] at hi;rcases hi with rfl | hi
 ·exfalso;have q:Y.clk.whl=tmM C.cyc:=h.whl;have ab:Y.clk.whl.length<20:=by rw [q,o];omega
  obtain ⟨t,z,_⟩:=i5 hP hs2 ab (x:=E) (by rw [q];exact R) (by show E.due≤Y.clk2+1;rw [g,h.clk2];exact Int.le_of_eq hlt.symm);have z:firstM Y.clk.whl P Y.clk.clk2=some t:=z;rw [hn] at z;exact absurd z (by simp)
 ·exact CutAt.hear hi.1 hi.2.2.2
theorem zE (C:Cfg)(a:Ac)(s:Int):(D0 C).balD a s=0:=by
 unfold DS.balD DS.balP balM;split
 ·show (List.replicate _ 0).getD _ 0=0
  rw [Ah,List.getElem?_replicate];split <;> rfl
 ·rfl
theorem lK {B:Nat}{C:Cfg}(hv:Valid C):DoTo B (Y0 C) openC fun _ _ Y=>Trading C [] 0 2 Y:=by
 have d:=qI (B:=B) (Y:=Y0 C) openC (yQ hv) rfl (fun k b=>by
  have e:(Y0 C).D.balD ⟨8,(k:Int)+1⟩ 0=0:=zE C _ _;rw [e];have b:k<C.mem.length:=b;have h:=(hv.mem _ (Ag b)).1;have c:mbAt (Y0 C).C k=C.mem[k]:=by
   show C.mem.getD k ⟨0,0⟩=_
   rw [Ah,Ab b];rfl
  rw [c];omega) rfl (eB hv) (by show ([]:List Ev).length+2 * ([]:List Ev).length≤900000;decide)
 intro W A g;refine (fo openC (by decide) (by show mayM 0 1=true;decide) 71 rfl (fun _ _=>rfl) _ d W A g).mono ?_;rintro e w' ⟨er,n,A',Y',he,hs,Y1,n1,⟨_,_,rfl⟩,ok,rfl,_⟩;refine ⟨er,n,A',_,he,hs,?_⟩;have f:=(yQ hv).gok;refine Trading.hear (Y:=(Y0 C).open) ⟨ok,rfl,rfl,⟨f,List.Perm.refl _,fun i=>?_,rfl,rfl,by show (0:Int)≤_;decide,fun a=>by show (0:Int)≤_;decide⟩,?_,rfl,rfl,rfl,?_⟩
 ·show hasM RU.rid [] i=true↔i∈([]:List Int)
  simp [hasM]
 ·show []++(tmM C.cyc).take (tmM C.cyc).length=_
  rw [Ap,Bl]
 ·show ([]++List.drop _ _++[_]).length≤2
  simp [YS.opened,DS.endow,DS.post,Y0,D0]
instance (C:Cfg)(L:List Tr)(t:Tr):Decidable (refOk C L t):=by unfold refOk;infer_instance
def accS (C:Cfg)(T:List Tr)(t:Tr):List Tr:=if refOk C T t then T++[t] else T
def accL (C:Cfg)(l:List Tr):List Tr:=l.foldl (accS C) []
theorem dG (C:Cfg)(l:List Tr)(k:Nat)(h:k<l.length):accL C (l.take (k+1))=accS C (accL C (l.take k)) l[k]:=by
 unfold accL;rw [z9 h,List.foldl_append];rfl
theorem lL (C:Cfg)(l:List Tr):∀k:Nat,(accL C (l.take k)).length≤k:=by
 intro k;induction k with
 | zero=>simp [accL]
 | succ k ih=>
  by_cases h:k<l.length
  ·rw [dG C l k h];unfold accS;split
   ·rw [z8,Ai];omega
   ·omega
  ·have:l.take (k+1)=l.take k:=by rw [Ae (by omega),Ae (by omega)]
   rw [this];omega
theorem qP (t:Tr):(tradeC t).err=0:=by
 unfold Cm.err;rw [if_pos];have g:Nat.testBit 63 0=true:=by decide
 have c:Nat.testBit 63 1=true:=by decide
 have b:Nat.testBit 63 2=true:=by decide
 have d:Nat.testBit 63 3=true:=by decide
 have a:Nat.testBit 63 4=true:=by decide
 have f:Nat.testBit 63 5=true:=by decide
 unfold Cm.right tradeC;simp [hasOf,fine,hasF,g,c,b,d,a,f]
structure TrIn (t:Tr):Prop where
 id:In64 t.id
 byr:In64 t.byr
 slr:In64 t.slr
 sec:In64 t.sec
 qty:In64 t.qty
 prc:In64 t.prc
theorem jg {B:Nat}{C:Cfg}{T:List Tr}{k:Nat}{Y:YS}(h:Trading C T 0 k Y)(hk:k≤1000)(t:Tr)(ht:TrIn t):DoTo B Y (tradeC t) fun _ _ Y'=>Trading C (accS C T t) 0 (k+1) Y':=by
 have a:(tradeC t).Fit:=⟨by show In64 2;decide,ht.id,ht.byr,ht.slr,ht.sec,ht.qty,ht.prc⟩;have j:=h.log;have b:Y.D.log=[]:=by rw [h.desk];rfl
 have m:=nF (B:=B) (Y:=Y) (tradeC t) a rfl h.ok (by rw [b];simp only [AL];omega);intro W A s;refine (fo (tradeC t) (qP t) (by rw [h.phs];show mayM 1 2=true;decide) 72 rfl (fun _ _=>rfl) _ m W A s).mono ?_;rintro e w' ⟨er,n,A',Y',he,hs,Y1,n1,hq,ok,rfl,_⟩;refine ⟨er,n,A',_,he,hs,?_⟩;have d:Y.G.C=C:=by rw [←h.cfg];exact h.ok.gc
 have o:TrFit t:=⟨ht.qty,ht.prc⟩;obtain ⟨f,q,l,u⟩:=xK h.rel o;rw [d] at f;have c:Y.isOut t=false:=by
  unfold YS.isOut;rw [h.desk];rfl
 have g:(tradeC t).trade=t:=rfl;rw [g] at hq;unfold YS.trade at hq;by_cases c1:tcM Y.C t≠0
 ·rw [if_pos c1] at hq;obtain ⟨_,_,rfl⟩:n1=0∧er=tcM Y.C t∧Y1=Y:=by simpa using hq
  have:¬ refOk C T t:=fun hr=>c1 (by rw [h.cfg];exact hr.1)
  unfold accS;rw [if_neg this];exact Trading.hear ⟨h.ok,h.cfg,h.desk,h.rel,h.whl,h.phs,h.clk2,h.cycle,by omega⟩
 rw [if_neg c1,if_neg (by rw [c];simp)] at hq;by_cases c2:(Y.G.add t).1≠0
 ·rw [if_pos c2,l c2] at hq;obtain ⟨_,_,rfl⟩:n1=0∧er=(Y.G.add t).1∧Y1=Y:=by simpa using hq
  unfold accS;rw [if_neg (fun hr=>c2 (f.2 hr))];exact Trading.hear ⟨h.ok,h.cfg,h.desk,h.rel,h.whl,h.phs,h.clk2,h.cycle,by omega⟩
 ·rw [if_neg c2] at hq;have i:(Y.G.add t).1=0:=by simpa using c2
  have r:Y1=({ Y with G:=(Y.G.add t).2 }:YS).tell ⟨2,0,0,t.id,0⟩:=by
   have:=congrArg (fun p=>p.2.2) hq
   exact this
  subst r;unfold accS;rw [if_pos (f.1 i)];refine Trading.hear ⟨ok,h.cfg,h.desk,q i,h.whl,h.phs,h.clk2,h.cycle,?_⟩;show (Y.log++Y.D.log.drop Y.told++[_]).length≤k+1
  rw [b];simp
  omega
section
attribute [local go_sem ↓] Go.wp_at_zero Go.wp_at_succ
theorem qQ (w:World):Calls Tryz.prog 58 #[.int .i64 2,.int .i64 2,.int .i64 16] w fun e w'=>e=.returned (.int .i64 2)∧w'=w:=by
 go_enter Tryz.func58,Tryz.ntmps58;go_wp2_with fail;go_ret;exact ⟨rfl,rfl⟩
theorem qR (w:World):Calls Tryz.prog 58 #[.int .i64 1,.int .i64 1,.int .i64 8] w fun e w'=>e=.returned (.int .i64 1)∧w'=w:=by
 go_enter Tryz.func58,Tryz.ntmps58;go_wp2_with fail;go_ret;exact ⟨rfl,rfl⟩
theorem qS (w:World):Calls Tryz.prog 58 #[.int .i64 1,.int .i64 1,.int .i64 4] w fun e w'=>e=.returned (.int .i64 1)∧w'=w:=by
 go_enter Tryz.func58,Tryz.ntmps58;go_wp2_with fail;go_ret;exact ⟨rfl,rfl⟩
structure PMid (w W:World)(vm vs vc:Value)(C:Cfg):Prop where
 own:COw W w.heap.size vm vs vc C
 blk:Blk W (w.heap.size+1) 26 (cfgC vm vs vc C)
 res:∃cs:Array Value,cs.size=8∧Blk W w.heap.size 26 cs
 low:Bw w W
section
variable {w W W2:World}{vm vs vc:Value}{C:Cfg}
theorem PMid.alloc (h:PMid w W vm vs vc C)(o:Obj):PMid w (W.alloc o) vm vs vc C:=by
 have c:Bw W (W.alloc o):=Bn;obtain ⟨d,a,b⟩:=h.res;exact ⟨h.own.keep c,h.blk.keep c,⟨d,a,b.keep c⟩,h.low.alloc h.low.size _⟩
theorem gU {TS:List TypeId}{K:List Nat}(m:ModT w.heap.size TS K W W2)(h:Bw w W):Bw w W2:=
 ⟨m.os.trans h.os,m.tape.trans h.tape,m.output.trans h.output,z5 h.size m.size,fun k hk=>(m.far k (AR hk h.size) (Or.inl hk)).trans (h.block k hk)⟩
theorem PMid.mem (h:PMid w W vm vs vc C)(x:Mb){v':Value}(hg:W.grownBy W2 vm.ownBlock)(ho:W2.ownsRow w.heap.size 125 2 v' (C.mem++[x]).length (flat eMb (C.mem++[x])))(hat:v'.ownBlock=vm.ownBlock∨v'.ownBlock=some W.heap.size):PMid w (W2.setCell ⟨w.heap.size+1,0,none⟩ v') v' vs vc { C with mem:=C.mem++[x] }:=by
 obtain ⟨d,b,a⟩:=h.res;have g:=bU (off:=0) (K:=[w.heap.size]) h.blk h.own.m hg ho hat (by decide) (Nat.le_succ _) (by simp) (fun k hk=>by have:=aD a h.own.m (by decide) k hk;simpa using this);exact ⟨⟨g.own,ai h.own.s g.mod (by decide),ai h.own.c g.mod (by decide)⟩,g.blk,⟨d,b,(g.mod.far _ a.lt (Or.inr (Or.inl (by simp)))).trans a⟩,gU g.mod h.low⟩
theorem PMid.secs (h:PMid w W vm vs vc C)(x:Sc){v':Value}(hg:W.grownBy W2 vs.ownBlock)(ho:W2.ownsRow w.heap.size 127 2 v' (C.secs++[x]).length (flat eSc (C.secs++[x])))(hat:v'.ownBlock=vs.ownBlock∨v'.ownBlock=some W.heap.size):PMid w (W2.setCell ⟨w.heap.size+1,1,none⟩ v') vm v' vc { C with secs:=C.secs++[x] }:=by
 obtain ⟨d,b,a⟩:=h.res;have g:=bU (off:=1) (K:=[w.heap.size]) h.blk h.own.s hg ho hat (by decide) (Nat.le_succ _) (by simp) (fun k hk=>by have:=aD a h.own.s (by decide) k hk;simpa using this);exact ⟨⟨ai h.own.m g.mod (by decide),g.own,ai h.own.c g.mod (by decide)⟩,g.blk,⟨d,b,(g.mod.far _ a.lt (Or.inr (Or.inl (by simp)))).trans a⟩,gU g.mod h.low⟩
theorem PMid.cyc (h:PMid w W vm vs vc C)(x:Cy){v':Value}(hg:W.grownBy W2 vc.ownBlock)(ho:W2.ownsRow w.heap.size 63 4 v' (C.cyc++[x]).length (flat eCy (C.cyc++[x])))(hat:v'.ownBlock=vc.ownBlock∨v'.ownBlock=some W.heap.size):PMid w (W2.setCell ⟨w.heap.size+1,2,none⟩ v') vm vs v' { C with cyc:=C.cyc++[x] }:=by
 obtain ⟨d,b,a⟩:=h.res;have g:=bU (off:=2) (K:=[w.heap.size]) h.blk h.own.c hg ho hat (by decide) (Nat.le_succ _) (by simp) (fun k hk=>by have:=aD a h.own.c (by decide) k hk;simpa using this);exact ⟨⟨ai h.own.m g.mod (by decide),ai h.own.s g.mod (by decide),g.own⟩,g.blk,⟨d,b,(g.mod.far _ a.lt (Or.inr (Or.inl (by simp)))).trans a⟩,gU g.mod h.low⟩
end
def C0:Cfg:=⟨[],[],[],500,200,1,64,32⟩
def pnC:Cfg:=⟨[⟨1000,100⟩,⟨1000,100⟩],[⟨10,12⟩],[⟨4,7,9,10⟩],500,200,1,64,32⟩
def PlainPost (w:World)(e:Ending)(w':World):Prop:=∃vm vs vc,e=.returned (cfgV vm vs vc pnC)∧COw w' w.heap.size vm vs vc pnC∧Bw w w'
theorem qT (w:World):Calls Tryz.prog 27 #[.int .i64 2,.int .i64 1,.int .i64 1] w (PlainPost w):=by
 go_enter Tryz.func27,Tryz.ntmps27;have G:=aa (show PMid w ((w.alloc (.cells #[.slice none 0 0,.slice none 0 0,.slice none 0 0,.int .i64 0,.int .i64 0,.int .i64 0,.int .i64 0,.int .i64 0] 26)).alloc (.cells #[.slice none 0 0,.slice none 0 0,.slice none 0 0,.int .i64 500,.int .i64 200,.int .i64 1,.int .i64 64,.int .i64 32] 26)) (.slice none 0 0) (.slice none 0 0) (.slice none 0 0) C0 from ⟨⟨⟨by simp [flat,C0],Or.inl ⟨rfl,rfl⟩⟩,⟨by simp [flat,C0],Or.inl ⟨rfl,rfl⟩⟩,⟨by simp [flat,C0],Or.inl ⟨rfl,rfl⟩⟩⟩,heap_alloc2_new _ _ _,⟨_,rfl,(Blk.new w 26 _).alloc _⟩,Bn.alloc (by simp) _⟩);go_wp2_with (first | (go_at_call 58;refine (qQ _).mono ?_;rintro e H ⟨rfl,rfl⟩))
 go_loopw [12] (fun vi wr=>∃(k:Nat) (t q r:Value),k≤2∧vi=.int .i64 k∧PMid w wr t q r (⟨List.replicate k ⟨1000,100⟩,[],[],500,200,1,64,32⟩)) (fun vi _=>2 - (intOf vi).toNat)
 case atStart=>exact ⟨0,_,_,_,by omega,rfl,G.o⟩
 case round=>
  obtain ⟨k,t,q,r,K,rfl,l⟩:=hrel;have g:=aa l;have p0:wr.cell? ⟨w.heap.size+1,0,none⟩=some t:=l.blk.c 0;clear l;by_cases hlt:k<2
  ·have y:(0:Int)≤((k:Nat):Int):=by omega
   have z:((k:Nat):Int)<2:=by omega
   have a:=aa (g.o.alloc (.cells (cMb (⟨1000,100⟩:Mb)) 125));have b:((⟨List.replicate k ⟨1000,100⟩,[],[],500,200,1,64,32⟩):Cfg).mem.length=k:=by simp [C0]
   have f:(((⟨List.replicate k ⟨1000,100⟩,[],[],500,200,1,64,32⟩):Cfg).mem++[(⟨1000,100⟩:Mb)]).length=k+1:=by simp
   obtain ⟨B,D,h,j,p⟩:=info_parts ry;obtain ⟨v0,hv0⟩:∃v0,t=v0:=⟨_,rfl⟩;rw [hv0] at p0 a;clear hv0;go_wp2_with (at_builtin;refine aq kMb (by decide) yH _ rfl _ _ 22 rfl w.heap.size 125 B (.agg #[.int .i64 0,.int .i64 0]) 16 Tryz.underlying22 D h j p (by rfl) v0 _ rfl a.o.own.m (some ⟨wr.heap.size,0,none⟩) 1 [(⟨1000,100⟩:Mb)] rfl (Sl.one1b eMb kMb _ 125 _ (by rfl) _ rfl) (by simp only [b,Ay,AL];unfold maxLen;omega) (by simp only [b,Ay,AL];omega) a.o.low.size ?_;intro v' w2 hown hgrow hat;have d:=aa (a.o.mem (⟨1000,100⟩:Mb) hgrow hown hat);have O:=(a.o.blk.grown a.o.own.m hgrow (by decide)).free 0;have M:=(a.o.blk.grown a.o.own.m hgrow (by decide)).c 0;rw [f] at hown;obtain ⟨n2,k2,rfl⟩:=ag hown;clear hown hgrow hat)
   have i:Hid (PMid w _ _ _ _ (⟨List.replicate (k+1) ⟨1000,100⟩,[],[],500,200,1,64,32⟩)):=aa (by rw [List.replicate_succ' (n:=k)];exact d.o);clear d O M b f;go_roundw
   case rel=>exact ⟨k+1,_,_,_,by omega,by first | rfl | go_num | simp,i.o⟩
   case measure=>exact ar (by omega)
  ·obtain rfl:k=2:=by omega
   have A:¬ ((2:Int)<2):=by omega
   go_wp2_with (first | (go_at_call 58;refine (qR _).mono ?_;rintro e H ⟨rfl,rfl⟩))
   go_loopw [23] (fun vi wr=>∃(k:Nat) (t q r:Value),k≤1∧vi=.int .i64 k∧PMid w wr t q r (⟨List.replicate 2 ⟨1000,100⟩,List.replicate k ⟨10,12⟩,[],500,200,1,64,32⟩)) (fun vi _=>1 - (intOf vi).toNat)
   case atStart=>exact ⟨0,_,_,_,by omega,rfl,g.o⟩
   case round=>
    obtain ⟨k,t,q,r,K,rfl,l⟩:=hrel;have g:=aa l;have V:wr.cell? ⟨w.heap.size+1,1,none⟩=some q:=l.blk.c 1;clear l;by_cases hlt:k<1
    ·have y:(0:Int)≤((k:Nat):Int):=by omega
     have z:((k:Nat):Int)<1:=by omega
     have a:=aa (g.o.alloc (.cells (cSc (⟨10,12⟩:Sc)) 127));have b:((⟨List.replicate 2 ⟨1000,100⟩,List.replicate k ⟨10,12⟩,[],500,200,1,64,32⟩):Cfg).secs.length=k:=by simp [C0]
     have f:(((⟨List.replicate 2 ⟨1000,100⟩,List.replicate k ⟨10,12⟩,[],500,200,1,64,32⟩):Cfg).secs++[(⟨10,12⟩:Sc)]).length=k+1:=by simp
     obtain ⟨B,D,h,j,p⟩:=info_parts rA;obtain ⟨v0,hv0⟩:∃v0,q=v0:=⟨_,rfl⟩;rw [hv0] at V a;clear hv0;go_wp2_with (at_builtin;refine aq kSc (by decide) yI _ rfl _ _ 23 rfl w.heap.size 127 B (.agg #[.int .i64 0,.int .i64 0]) 16 Tryz.underlying23 D h j p (by rfl) v0 _ rfl a.o.own.s (some ⟨wr.heap.size,0,none⟩) 1 [(⟨10,12⟩:Sc)] rfl (Sl.one1b eSc kSc _ 127 _ (by rfl) _ rfl) (by simp only [b,Ay,AL];unfold maxLen;omega) (by simp only [b,Ay,AL];omega) a.o.low.size ?_;intro v' w2 hown hgrow hat;have d:=aa (a.o.secs (⟨10,12⟩:Sc) hgrow hown hat);have Q:=(a.o.blk.grown a.o.own.s hgrow (by decide)).free 1;have S:=(a.o.blk.grown a.o.own.s hgrow (by decide)).c 1;rw [f] at hown;obtain ⟨n2,k2,rfl⟩:=ag hown;clear hown hgrow hat)
     have i:Hid (PMid w _ _ _ _ (⟨List.replicate 2 ⟨1000,100⟩,List.replicate (k+1) ⟨10,12⟩,[],500,200,1,64,32⟩)):=aa (by rw [List.replicate_succ' (n:=k)];exact d.o);clear d Q S b f;go_roundw
     case rel=>exact ⟨k+1,_,_,_,by omega,by first | rfl | go_num | simp,i.o⟩
     case measure=>exact ar (by omega)
    ·obtain rfl:k=1:=by omega
     have A:¬ ((1:Int)<1):=by omega
     go_wp2_with (first | (go_at_call 58;refine (qS _).mono ?_;rintro e H ⟨rfl,rfl⟩))
     go_loopw [34] (fun vi wr=>∃(k:Nat) (t q r:Value),k≤1∧vi=.int .i64 k∧PMid w wr t q r (⟨List.replicate 2 ⟨1000,100⟩,List.replicate 1 ⟨10,12⟩,List.replicate k ⟨4,7,9,10⟩,500,200,1,64,32⟩)) (fun vi _=>1 - (intOf vi).toNat)
     case atStart=>exact ⟨0,_,_,_,by omega,rfl,g.o⟩
     case round=>
      obtain ⟨k,t,q,r,K,rfl,l⟩:=hrel;have g:=aa l;have I:wr.cell? ⟨w.heap.size+1,2,none⟩=some r:=l.blk.c 2;clear l;by_cases hlt:k<1
      ·obtain rfl:k=0:=by omega
       have y:(0:Int)≤((0:Nat):Int):=by omega
       have z:((0:Nat):Int)<1:=by omega
       have a:=aa (g.o.alloc (.cells (cCy (⟨4,7,9,10⟩:Cy)) 63));have b:((⟨List.replicate 2 ⟨1000,100⟩,List.replicate 1 ⟨10,12⟩,List.replicate 0 ⟨4,7,9,10⟩,500,200,1,64,32⟩):Cfg).cyc.length=0:=by simp [C0]
       have f:(((⟨List.replicate 2 ⟨1000,100⟩,List.replicate 1 ⟨10,12⟩,List.replicate 0 ⟨4,7,9,10⟩,500,200,1,64,32⟩):Cfg).cyc++[(⟨4,7,9,10⟩:Cy)]).length=0+1:=by simp
       obtain ⟨B,D,h,j,p⟩:=info_parts rB;obtain ⟨v0,hv0⟩:∃v0,r=v0:=⟨_,rfl⟩;rw [hv0] at I a;clear hv0;go_wp2_with (at_builtin;refine aq kCy (by decide) yJ _ rfl _ _ 24 rfl w.heap.size 63 B (.agg #[.int .i64 0,.int .i64 0,.int .i64 0,.int .i64 0]) 32 Tryz.underlying24 D h j p (by rfl) v0 _ rfl a.o.own.c (some ⟨wr.heap.size,0,none⟩) 1 [(⟨4,7,9,10⟩:Cy)] rfl (Sl.one1b eCy kCy _ 63 _ (by rfl) _ rfl) (by simp only [b,Ay,AL];unfold maxLen;omega) (by simp only [b,Ay,AL];omega) a.o.low.size ?_;intro v' w2 hown hgrow hat;have d:=aa (a.o.cyc (⟨4,7,9,10⟩:Cy) hgrow hown hat);have Y:=(a.o.blk.grown a.o.own.c hgrow (by decide)).free 2;have q2:=(a.o.blk.grown a.o.own.c hgrow (by decide)).c 2;rw [f] at hown;obtain ⟨n2,k2,rfl⟩:=ag hown;clear hown hgrow hat)
       have i:Hid (PMid w _ _ _ _ (⟨List.replicate 2 ⟨1000,100⟩,List.replicate 1 ⟨10,12⟩,List.replicate (0+1) ⟨4,7,9,10⟩,500,200,1,64,32⟩)):=aa (by rw [List.replicate_succ' (n:=0)];exact d.o);clear d Y q2 b f;go_roundw
       case rel=>exact ⟨0+1,_,_,_,by omega,by first | rfl | go_num | simp,i.o⟩
       case measure=>exact ar (by omega)
      ·obtain rfl:k=1:=by omega
       have A:¬ ((1:Int)<1):=by omega
       obtain ⟨T,C,u⟩:=g.o.res;have x:=aa u;have E:=aa C;obtain ⟨a1,c1,e1⟩:=ag g.o.own.m;obtain ⟨a2,c2,e2⟩:=ag g.o.own.s;obtain ⟨a3,c3,e3⟩:=ag g.o.own.c;simp only [Bc] at e1 e2 e3;subst e1 e2 e3;obtain ⟨x0,x1,x2,x3,x4,x5,x6,x7⟩:=s8 g.o.blk;clear C u I;go_wp2_with (refine aF rfl 26 _ _ rfl rfl w.heap.size (cfgC (.slice a1 2 c1) (.slice a2 1 c2) (.slice a3 1 c3) pnC) rfl rfl (by kernel_rfl) (by simp [Value.oneCell']) T x.o E.o ?_;intro W5 P5;have J:=aa P5;have U:=P5.row.c 0;have W:=P5.row.c 1;have R:=P5.row.c 2;have Z:=P5.row.c 3;have N:=P5.row.c 4;have X:=P5.row.c 5;have L:=P5.row.c 6;have P:=P5.row.c 7;clear P5)
       refine bodyPost_ret (v:=cfgV (.slice a1 2 c1) (.slice a2 1 c2) (.slice a3 1 c3) pnC) (by simp [results,Tryz.results27,go_sem,U,W,R,Z,N,X,L,P]) rfl ?_;refine ⟨_,_,_,rfl,?_,J.o.low g.o.low (zY _)⟩;have F:ModT w.heap.size [26] [] wr W5:=ModT.put x.o J.o (by simp) (zY _) (by simp);exact ⟨ai g.o.own.m F (by decide),ai g.o.own.s F (by decide),ai g.o.own.c F (by decide)⟩
end
def aTr:Tr:=⟨1,1,2,1,5,9⟩
def aL:List Lg:=[⟨1,0,45⟩,⟨1,1,-5⟩,⟨2,0,-45⟩,⟨2,1,5⟩]
theorem aL_is:[aTr].flatMap lg4=aL:=by decide
def perm4:List (List Lg):=(aL.flatMap fun a=>aL.flatMap fun b=>aL.flatMap fun c=>aL.map fun d=>[a,b,c,d]).filter fun l=>decide l.Nodup
theorem nL {nets:List Lg}(h:NetsOk pnC [aTr] nets):nets∈perm4:=by
 have f:=h.all;have m:=h.is;rw [aL_is] at f m;have l:∀x∈nets,x∈aL:=by
  intro x z;obtain ⟨e,hne⟩:=m x z;have k:netOf aL (sdOf x)≠0:=by rw [←e];exact hne
  have j:amtL aL (sdOf x)≠[]:=fun e2=>k (by unfold netOf;rw [e2];rfl)
  unfold amtL at j;obtain ⟨n,A⟩:=List.exists_mem_of_ne_nil _ j;obtain ⟨y,g,_⟩:=AD.1 A;rw [AS] at g;have o:sdOf y=sdOf x:=by simpa using g.2
  have p:y.amt=netOf aL (sdOf y):=by
   have:∀y∈aL,y.amt=netOf aL (sdOf y):=by decide
   exact this y g.1
  have s:x=y:=by
   rw [o,←e] at p;obtain ⟨D,B,C⟩:=x;obtain ⟨ym,ya,yn⟩:=y;simp only [sdOf,Sd.mk.injEq] at o;simp only at p
   rw [o.1,o.2,p]
  rw [s];exact g.1
 have v:∀y∈aL,y∈nets:=by
  intro y g;have:∀y∈aL,netOf aL (sdOf y)≠0∧(⟨(sdOf y).mem,(sdOf y).ass,netOf aL (sdOf y)⟩:Lg)=y:=by decide
  obtain ⟨t,r⟩:=this y g;have:=f (sdOf y) t
  rwa [r] at this
 have i:nets.Nodup:=by
  have:=h.nd
  exact List.Pairwise.of_map sdOf (fun a b hab e=>hab (by rw [e])) this
 have q:nets.Perm aL:=(List.perm_ext_iff_of_nodup i (by decide)).2 fun x=>⟨l x,v x⟩
 have u:nets.length=4:=q.length_eq;match nets,u with
 | [a,b,c,d],_=>
  unfold perm4;rw [AS];refine ⟨?_,by simpa using i⟩;rw [List.mem_flatMap];refine ⟨a,l a (by simp),?_⟩;rw [List.mem_flatMap];refine ⟨b,l b (by simp),?_⟩;rw [List.mem_flatMap];refine ⟨c,l c (by simp),?_⟩;exact AD.2 ⟨d,l d (by simp),rfl⟩
def cutD (n:List Lg):DS:=(D0 pnC).endow.netted n
def payD (n:List Lg):DS:=(cutD n).paid 1 0 45 ⟨7,1⟩ ⟨1,0⟩ 5
def delD (n:List Lg):DS:=(payD n).paid 2 1 5 ⟨7,2⟩ ⟨1,0⟩ 5
def dueD (n:List Lg):DS:={ (delD n).due1 with state:=2 }
def gotS:List Lg:=[⟨1,1,5⟩]
def gotC:List Lg:=[⟨2,0,45⟩]
def handD (n:List Lg):DS:=((dueD n).give gotS).tell (evEach 14 [])
def cashD (n:List Lg):DS:=((handD n).give gotC).tell (evEach 15 [])
def finD (n:List Lg):DS:=(cashD n).fin [gotC,gotS] []
def sameC (C:Cfg):Bool:=decide (C.mem=pnC.mem)&&decide (C.secs=pnC.secs)&&decide (C.cyc=pnC.cyc)&&decide (C.line=pnC.line)&&decide (C.capital=pnC.capital)&&decide (C.lead=pnC.lead)&&decide (C.trades=pnC.trades)&&decide (C.bids=pnC.bids)
theorem uR {C:Cfg}(h:sameC C=true):C=pnC:=by
 obtain ⟨a,b,c,d,e,f,g,i⟩:=C;unfold sameC at h;simp only [Bool.and_eq_true,decide_eq_true_eq] at h;obtain ⟨⟨⟨⟨⟨⟨⟨rfl,rfl⟩,rfl⟩,rfl⟩,rfl⟩,rfl⟩,rfl⟩,rfl⟩:=h;rfl
structure AOk (D:DS):Prop where
 cfg:D.C=pnC
 bal:D.bal.length=24
 b64:∀x∈D.bal,In64 x
 hlds:D.hlds.length≤2
 rise:D.hlds.Pairwise fun x y=>x.rid<y.rid
 obs:D.obs.length≤1024
 o64:∀x∈D.obs,In64 x.net∧In64 x.done∧In64 x.mem∧0≤x.ass∧x.ass≤1
 who:D.who=[]
 cn:D.cycles=1
 log:D.log.length≤100
def aokB (D:DS):Bool:=sameC D.C&&decide (D.bal.length=24)&&decide (∀x∈D.bal,In64 x)&&decide (D.hlds.length≤2)&&decide (D.hlds.Pairwise fun x y=>x.rid<y.rid)&&decide (D.obs.length≤1024)&&decide (∀x∈D.obs,In64 x.net∧In64 x.done∧In64 x.mem∧0≤x.ass∧x.ass≤1)&&decide (D.who=[])&&decide (D.cycles=1)&&decide (D.log.length≤100)
theorem cQ {D:DS}(h:aokB D=true):AOk D:=by
 unfold aokB at h;simp only [Bool.and_eq_true,decide_eq_true_eq] at h;obtain ⟨⟨⟨⟨⟨⟨⟨⟨⟨i,f⟩,l⟩,g⟩,k⟩,b⟩,j⟩,d⟩,c⟩,a⟩:=h;exact ⟨uR i,f,l,g,k,b,j,d,c,a⟩
theorem zF:∀n∈perm4,(aokB (cutD n)&&aokB (payD n)&&aokB (delD n)&&aokB (dueD n)&&aokB (handD n)&&aokB (cashD n)&&aokB (finD n))=true:=by decide +kernel
theorem yd:∀n∈perm4,(cutD n).state=1∧(payM (cutD n).obs 1 0 45).1=0∧0≤fnd (openM 1 0) (payD n).obs∧wrap64 (sizeM (obAt (payD n).obs (fnd (openM 1 0) (payD n).obs)) - (obAt (payD n).obs (fnd (openM 1 0) (payD n).obs)).done)=0∧(payD n).obs.filterMap (lackF 1)=[]:=by decide +kernel
theorem ye:∀n∈perm4,(payD n).state=1∧(payM (payD n).obs 2 1 5).1=0∧0≤fnd (openM 2 1) (delD n).obs∧wrap64 (sizeM (obAt (delD n).obs (fnd (openM 2 1) (delD n).obs)) - (obAt (delD n).obs (fnd (openM 2 1) (delD n).obs)).done)=0∧(delD n).obs.filterMap (lackF 2)=[]:=by decide +kernel
theorem oL:∀n∈perm4,(delD n).state=1∧(joinM (delD n).who (failedM (delD n).obs)).length≤1000∧(delD n).due1.need≤0∧shortB (dueD n) 1=false∧(dueD n).short 1=0∧(dueD n).good 1=gotS∧5≤(dueD n).balD ⟨1,0⟩ 1∧In64 ((dueD n).balD ⟨1,0⟩ 1):=by decide +kernel
theorem gV:∀n∈perm4,(handD n).good 0=gotC∧45≤(handD n).balD ⟨1,0⟩ 0∧In64 ((handD n).balD ⟨1,0⟩ 0)∧(finD n).balP ⟨7,1⟩ 1=(5,0)∧(delD n).log.length≤(finD n).log.length:=by decide +kernel
theorem dt:Valid pnC:=by
 refine ⟨by decide,by decide,by decide,by decide,by decide,by decide,by decide,by decide,?_,by decide,by decide,by decide,by decide,by decide⟩;exact ⟨by decide,by decide,by decide,by decide,by decide,trivial⟩
theorem eU:cycOf pnC 0=⟨4,7,9,10⟩:=by decide
def W0:List Tm:=[⟨7,3,0,0⟩,⟨9,4,0,0⟩,⟨10,5,0,0⟩]
theorem AOk.dok {D:DS}(h:AOk D):DOk D:=by
 have a:=h.cfg;refine ⟨by rw [a];exact dt,by rw [a];exact h.bal,h.b64,by rw [a];exact h.hlds,h.rise,h.obs,fun x hx=>(h.o64 x hx).1,by rw [h.who];decide⟩
theorem oks {n:List Lg}(hn:n∈perm4):AOk (cutD n)∧AOk (payD n)∧AOk (delD n)∧AOk (dueD n)∧AOk (handD n)∧AOk (cashD n)∧AOk (finD n):=by
 have h:=zF n hn;simp only [Bool.and_eq_true] at h;obtain ⟨⟨⟨⟨⟨⟨d,b⟩,i⟩,c⟩,g⟩,a⟩,f⟩:=h;exact ⟨cQ d,cQ b,cQ i,cQ c,cQ g,cQ a,cQ f⟩
structure Fu (D:DS)(c:Int)(S:List Int)(k:Nat)(Y:YS):Prop where
 ok:YOk Y
 cfg:Y.C=pnC
 desk:Y.D=D
 aok:AOk D
 phs:Y.phs=2
 clk2:Y.clk2=c
 cycle:Y.cycle=0
 whl:(∀t∈Y.whl,t∈W0∨(t.kind=2∧t.mem∈S))∧∀t∈W0,t∈Y.whl
 log:Y.log.length≤k
theorem Fu.hear {D:DS}{c:Int}{S:List Int}{k:Nat}{Y:YS}(h:Fu D c S k Y):Fu D c S (k+100) Y.hear:=
 ⟨h.ok.hear,h.cfg,h.desk,h.aok,h.phs,h.clk2,h.cycle,h.whl,by
  have h1:=h.aok.log;have h2:=h.log;show (Y.log++Y.D.log.drop Y.told).length≤k+100
  rw [z8,Al,h.desk];omega⟩
theorem zH {Y:YS}(h:CutAt pnC [aTr] Y):∃n∈perm4,Fu (cutD n) 4 [1,2] 4000 Y:=by
 obtain ⟨n,b,_,d⟩:=h.nets;have b:=nL b;refine ⟨n,b,h.ok,h.cfg,d,(oks b).1,h.phs,by rw [h.clk2,eU],h.cycle,?_,h.log⟩;have c:=h.whl;rw [eU] at c;have e:((tmM pnC.cyc).filter fun u=>!theTm ⟨(⟨4,7,9,10⟩:Cy).cut,1,0,0⟩ u)=W0:=by decide
 rw [e] at c;rw [c];constructor
 ·intro t a;rcases AJ.1 a with a | a
  ·exact Or.inl a
  ·have:=(oK Y pnC.mem.length).1 t a
   have f:pnC.mem.length=2:=rfl;rw [f] at this;refine Or.inr ⟨this.1,?_⟩;have:t.mem=1∨t.mem=2:=by omega
   simpa using this
 ·intro t a;exact List.mem_append_left _ a
theorem nM {l:List Tm}{S S2:List Int}{m:Int}(hS:∀x∈S,x≠m→x∈S2)(h:(∀t∈l,t∈W0∨(t.kind=2∧t.mem∈S))∧∀t∈W0,t∈l):(∀t∈l.filter (fun x=>!ofMember 2 m x),t∈W0∨(t.kind=2∧t.mem∈S2))∧∀t∈W0,t∈l.filter (fun x=>!ofMember 2 m x):=by
 constructor
 ·intro t a;rw [AS] at a;rcases h.1 t a.1 with h1 | h1
  ·exact Or.inl h1
  ·refine Or.inr ⟨h1.1,hS _ h1.2 fun e=>?_⟩;have:=a.2
   unfold ofMember at this;rw [h1.1,e] at this;simp at this
 ·intro t a;rw [AS];refine ⟨h.2 t a,?_⟩;have:∀t∈W0,t.kind≠2:=by decide
  have:=this t a
  unfold ofMember;simp [this]
def payC:Cm:=⟨4,0,1,0,0,45,0⟩
def delC:Cm:=⟨5,0,2,0,1,5,0⟩
theorem lM {Y Y1:YS}{D:DS}{c:Int}{S S2:List Int}{k:Nat}{m a amt x y:Int}(h:Fu D c S k Y)(hst:D.state=1)(hl:legM pnC m a=0)(hp:(payM D.obs m a amt).1=0)(hf:0≤fnd (openM m a) (D.paid m a amt ⟨7,m⟩ ⟨1,0⟩ 5).obs)
  (hx:wrap64 (sizeM (obAt (D.paid m a amt ⟨7,m⟩ ⟨1,0⟩ 5).obs (fnd (openM m a) (D.paid m a amt ⟨7,m⟩ ⟨1,0⟩ 5).obs)) - (obAt (D.paid m a amt ⟨7,m⟩ ⟨1,0⟩ 5).obs (fnd (openM m a) (D.paid m a amt ⟨7,m⟩ ⟨1,0⟩ 5).obs)).done)=0)
  (hk:(D.paid m a amt ⟨7,m⟩ ⟨1,0⟩ 5).obs.filterMap (lackF m)=[]) (hS:∀x∈S,x≠m→x∈S2) (ha:AOk (D.paid m a amt ⟨7,m⟩ ⟨1,0⟩ 5)) (ok1:YOk Y1) (hq:PayQ Y m a amt x y Y1):y=0∧x=0∧Fu (D.paid m a amt ⟨7,m⟩ ⟨1,0⟩ 5) c S2 k Y1:=by
 unfold PayQ at hq;rw [h.desk,if_neg (by rw [hst];simp)] at hq;obtain ⟨i,b,g⟩:=hq;unfold PayRel at b;rw [h.aok.cfg,if_neg (by rw [hl];simp),if_neg (by rw [hp];simp)] at b;obtain ⟨⟨_,l2,l3⟩,rfl⟩:=b;have f:y=0:=l2.2 hf;have d:({ Y with D:=D.paid m a amt ⟨7,m⟩ ⟨1,0⟩ 5 }:YS).lacks m=false:=by
  unfold YS.lacks YS.lackL;show decide (0<(((D.paid m a amt ⟨7,m⟩ ⟨1,0⟩ 5).obs.filterMap (lackF m)).length:Int))=false
  rw [hk];rfl
 rw [if_pos ⟨f,d⟩] at g;subst g;exact ⟨f,(l3 hf).trans hx,ok1,h.cfg,rfl,ha,h.phs,h.clk2,h.cycle,nM hS h.whl,h.log⟩
theorem yf {B:Nat}{n:List Lg}(hn:n∈perm4){k:Nat}(hk:k≤6000){Y:YS}(h:Fu (cutD n) 4 [1,2] k Y):DoTo B Y payC fun er m Y'=>er=0∧m=0∧Fu (payD n) 4 [2] (k+100) Y':=by
 obtain ⟨d,b,f,c,j⟩:=yd n hn;have i:=h.aok.log;have a:=h.log;have g:=lB (B:=B) (Y:=Y) payC ⟨by decide,by decide,by decide,by decide,by decide,by decide,by decide⟩ h.ok (by rw [h.desk];omega);intro W A hA;refine (fo payC (by decide) (by rw [h.phs];decide) 74 rfl (fun _ _=>rfl) _ g W A hA).mono ?_;rintro e w' ⟨er,n0,A',Y',he,hs,Y1,n1,hq,ok,rfl,rfl⟩;obtain ⟨rfl,rfl,q⟩:=lM (S2:=[2]) h d (by decide) b f c j (by decide) (oks hn).2.1 ok hq;exact ⟨0,_,A',_,he,hs,rfl,rfl,q.hear⟩
theorem yg {B:Nat}{n:List Lg}(hn:n∈perm4){k:Nat}(hk:k≤6000){Y:YS}(h:Fu (payD n) 4 [2] k Y):DoTo B Y delC fun er m Y'=>er=0∧m=0∧Fu (delD n) 4 [] (k+100) Y':=by
 obtain ⟨d,b,f,c,j⟩:=ye n hn;have i:=h.aok.log;have a:=h.log;have g:=uG (B:=B) (Y:=Y) delC ⟨by decide,by decide,by decide,by decide,by decide,by decide,by decide⟩ h.ok (by rw [h.desk];omega);intro W A hA;refine (fo delC (by decide) (by rw [h.phs];decide) 75 rfl (fun _ _=>rfl) _ g W A hA).mono ?_;rintro e w' ⟨er,n0,A',Y',he,hs,Y1,n1,hq,ok,rfl,rfl⟩;unfold DelQ at hq;rw [h.cfg,if_pos (by unfold okM;decide),if_neg (by decide)] at hq;obtain ⟨rfl,rfl,q⟩:=lM (S2:=[]) h d (by decide) b f c j (by decide) (oks hn).2.2.1 ok hq;exact ⟨0,_,A',_,he,hs,rfl,rfl,q.hear⟩
theorem nN {D:DS}{c:Int}{k:Nat}{Y:YS}(h:Fu D c [] k Y):∀t∈Y.whl,t∈W0:=fun t ht=>(h.whl.1 t ht).elim id fun h=>absurd h.2 (by simp)
theorem uS {D:DS}{c:Int}{S:List Int}{k:Nat}{Y:YS}(h:Fu D c S k Y)(hc:0≤c∧c≤1000):Fu D (c+1) S k Y.clk:=
 ⟨⟨h.ok.dc,h.ok.gc,h.ok.dok,h.ok.gok,h.ok.told,h.ok.whl,h.ok.cyc,by show 0≤Y.clk2+1∧Y.clk2+1≤100000;rw [h.clk2];omega,h.ok.cn,h.ok.d64⟩,h.cfg,h.desk,h.aok,h.phs,by show Y.clk2+1=c+1;rw [h.clk2],h.cycle,h.whl,h.log⟩
theorem uT {B:Nat}{D:DS}{c:Int}{k:Nat}{Y:YS}(h:Fu D c [] k Y)(hk:k≤9000)(hc:0≤c)(hlt:c+1<7):DoTo B Y tickC fun _ _ Y'=>Fu D (c+1) [] (k+100) Y':=by
 have a:=uS h (by omega);have b:Y.clk.log.length+Y.clk.D.log.length≤999000:=by
  have o:=a.log;have m:=h.aok.log;rw [a.desk];omega
 have j:=dE (B:=B) (Y:=Y) tickC h.ok (fun Y1=>Y1=Y.clk) (fun _=>0) rfl (fun Y1 e=>by subst e;exact ⟨a.ok,b,rfl⟩) (fun Y1 t e hf=>by
  subst e;obtain ⟨P,i,_,g⟩:=hf;obtain ⟨f,d⟩:=dB i g;have f:=nN a t f;have d:t.due≤Y.clk.clk2:=d;rw [a.clk2] at d;have:∀t∈W0,7≤t.due:=by decide
  have:=this t f
  omega)
 intro W A l;refine (fo tickC (by decide) (by rw [h.phs];decide) 80 rfl (fun _ _=>rfl) _ j W A l).mono ?_;rintro e w' ⟨er,n,A',Y',he,hs,Y1,n1,⟨_,_,Y2,rfl,_,rfl⟩,_,rfl,_⟩;exact ⟨er,n,A',_,he,hs,Fu.hear a⟩
structure Paid (n:List Lg)(k:Nat)(Y:YS):Prop where
 ok:YOk Y
 cfg:Y.C=pnC
 desk:Y.D=finD n
 phs:Y.phs=4
 clk2:Y.clk2=7
 whl:∀t∈Y.whl,7<t.due
 log:Y.log.length≤k
theorem Paid.hear {n:List Lg}(hn:n∈perm4){k:Nat}{Y:YS}(h:Paid n k Y):Paid n (k+100) Y.hear:=
 ⟨h.ok.hear,h.cfg,h.desk,h.phs,h.clk2,h.whl,by
  have h1:=(oks hn).2.2.2.2.2.2.log;have h2:=h.log;show (Y.log++Y.D.log.drop Y.told).length≤k+100
  rw [z8,Al,h.desk];omega⟩
theorem jh {a:Int}{cl:List Lg}{s:Int}(e:sumM (cl.map (·.amt))=(s,0))(e2:sumL (cl.map (·.amt))=s)(hs:s≤a)(h0:0≤s)(ha:In64 a)(hp:∀x∈cl.map (·.amt),0≤x)(hl:cl.length≤1024)(hk:acM cl=0):SplitOk a cl:=by
 refine ⟨?_,⟨by omega,ha,hp,by rw [e,e2],by rw [Ad];exact hl⟩,by omega⟩;have b:asumM cl=(s,0):=by unfold asumM;rw [if_neg (by rw [hk];simp),e]
 unfold ashortM;rw [b,if_neg (by simp),if_neg (by omega)]
theorem yh {B:Nat}{n:List Lg}(hn:n∈perm4){Y:YS}(ok:YOk Y)(hD:Y.D=delD n):DueTo B Y (·=dueD n):=by
 obtain ⟨j,g,k,i,_⟩:=oL n hn;have l:=(oks hn).2.2.1.log;have h:=(oks hn).2.2.2.1.cfg;intro W A hA;have a:=hA.desk;have c:=ok.dok;rw [hD] at a c;have d:=(uw c g).2.2.1;refine (ux a c hA.kok hA.lt g (by omega) (·=(delD n).due1) (fun D3 e=>by rw [e];exact d) (jd k)).mono ?_;rintro e w' ⟨b,y,A',D',he,hs,hif⟩;rw [if_neg (by rw [j];simp)] at hif;obtain ⟨_,D3,rfl,rfl,hb⟩:=hif;have f:b=false:=by
  rw [hb];show shortB (dueD n) (dueD n).C.secs.length=false
  rw [h];exact i
 subst f;exact ⟨y,A',_,he,hs,rfl⟩
theorem qU:someM (gotS.map (·.amt)) gotS=gotS:=by decide
theorem qV:someM (gotC.map (·.amt)) gotC=gotC:=by decide
theorem bH {l:List Lg}(h:l=gotS∨l=gotC∨l=[]):LegsOk l∧l.length≤1:=by
 rcases h with rfl | rfl | rfl <;> exact ⟨⟨by decide,by decide⟩,by decide⟩
theorem uU {D:DS}(h:D.good 0=gotC):owedM D []=gotC:=by
 unfold owedM;rw [h];unfold joinL gtM keysI;have:gpI (gotC++[])=[(2,[45])]:=by decide
 rw [this];simp only [Am,List.map_nil,List.mergeSort_singleton];decide
theorem nO {B:Nat}{K:List Nat}{n:List Lg}(hn:n∈perm4):SettleBy B K (dueD n) (fun _ D=>D=dueD n) (fun k D Gs L=>(k=0∧D=dueD n∧Gs=[]∧L=[])∨(k=1∧D=handD n∧Gs=[gotS]∧L=[])) (fun Gs G L D=>Gs=[gotS]∧G=gotC∧L=[]∧D=cashD n):=by
 obtain ⟨_,_,_,_,m,o,p,l⟩:=oL n hn;obtain ⟨g1,g2,g3,_,_⟩:=gV n hn;obtain ⟨_,_,_,o4,o5,o6,_⟩:=oks hn;have d:(dueD n).C.secs.length=1:=by rw [o4.cfg];rfl
 have b:=uU g1;constructor
 ·rfl
 ·intro k f e;subst e;exact ⟨o4.dok,rfl⟩
 ·intro k q f e;subst e;obtain rfl:k=0:=by omega
  exact uA o4.dok m
 ·intro f e;exact Or.inl ⟨rfl,e,rfl,rfl⟩
 ·intro k j Gs L h;rcases h with ⟨rfl,rfl,rfl,rfl⟩ | ⟨rfl,rfl,rfl,rfl⟩
  ·exact ⟨o4.dok,by have:=o4.log;omega,rfl,rfl,by simp,fun x hx=>(o4.o64 x hx).2.2.1⟩
  ·exact ⟨o5.dok,by have:=o5.log;omega,by rw [o5.cfg,o4.cfg],rfl,by simp,fun x hx=>(o5.o64 x hx).2.2.1⟩
 ·intro k q j Gs L h;obtain rfl:k=0:=by omega
  rcases h with ⟨_,rfl,rfl,rfl⟩ | ⟨h,_⟩
  rotate_left
  ·exact absurd h (by simp)
  refine ⟨fun G L=>G=gotS∧L=[],?_,?_,?_⟩
  ·rintro G L ⟨rfl,rfl⟩;exact ⟨(bH (Or.inl rfl)).1,(bH (Or.inr (Or.inr rfl))).1⟩
  ·have e:(dueD n).good (((0:Nat):Int)+1)=gotS:=o;rw [e];have h:=gN (a:=(dueD n).balD ⟨1,0⟩ 1) (cl:=gotS) (jh (s:=5) (by decide) (by decide) p (by decide) l (by decide) (by decide) (by decide)) (by decide);rw [qU] at h;exact h
  ·rintro G L ⟨rfl,rfl⟩;exact Or.inr ⟨rfl,rfl,rfl,rfl⟩
 ·intro j Gs L h;rw [d] at h;rcases h with ⟨h,_⟩ | ⟨_,rfl,rfl,rfl⟩
  ·exact absurd h (by simp)
  refine ⟨[],(·=handD n),fun _ G L=>G=gotC∧L=[],qA _,by simp,by simp,fun c e=>by subst e;exact ⟨o5.dok,by have:=o5.log;omega⟩,jd ?_,?_,?_,?_,?_⟩
  ·rw [b];have:(asumM gotC).1=45:=by decide
   rw [this];unfold overM;rw [if_pos g2];exact Int.le_refl _
  ·rintro c G L ⟨rfl,rfl⟩;exact ⟨(bH (Or.inr (Or.inl rfl))).1,(bH (Or.inr (Or.inr rfl))).1⟩
  ·rintro c rfl _;rw [b];have h:=gN (a:=(handD n).balD ⟨1,0⟩ 0) (cl:=gotC) (jh (s:=45) (by decide) (by decide) g2 (by decide) g3 (by decide) (by decide) (by decide)) (by decide);rw [qV] at h;exact h
  ·rintro c rfl i;rw [b] at i;exact absurd (by decide) i
  ·rintro c G L rfl ⟨rfl,rfl⟩;exact ⟨rfl,rfl,rfl,rfl⟩
 ·rintro Gs G L c ⟨rfl,rfl,rfl,rfl⟩;refine ⟨o6.dok,by have:=o6.log;omega,by rw [o6.cfg,o4.cfg],d.symm,fun x hx=>by have:=(o6.o64 x hx).2.2.2;rw [d];omega,by simp,?_⟩;intro g hg;simp only [Aq,Be,or_false] at hg;rcases hg with rfl | rfl
  ·exact z5 (bH (Or.inr (Or.inl rfl))).2 (by decide)
  ·exact z5 (bH (Or.inl rfl)).2 (by decide)
theorem lN {B:Nat}{n:List Lg}(hn:n∈perm4){Y:YS}(hD:Y.D=dueD n):SettlesTo B Y (·=finD n):=by
 obtain ⟨_,_,_,b,_⟩:=oks hn;intro W A hA;have a:=hA.desk;rw [hD] at a;refine (ly a b.dok hA.kok hA.lt _ _ _ (fun _=>nO hn)).mono ?_;rintro e w' ⟨r,A',D',he,hs,hif⟩;rw [if_neg (show ¬ ((dueD n).state≠2) from fun h=>h rfl)] at hif;obtain ⟨_,Gs,G,L,D3,⟨rfl,rfl,rfl,rfl⟩,rfl⟩:=hif;exact ⟨r,A',_,he,hs,rfl⟩
theorem ji (Y:YS)(D:DS):(Y.funded D).C=Y.C∧(Y.funded D).D=D∧(Y.funded D).phs=({ Y with D:=D }:YS).next 3 false∧(Y.funded D).clk2=Y.clk2∧(Y.funded D).whl=Y.whl∧(Y.funded D).log.length≤Y.log.length+D.log.length+1:=by
 refine ⟨rfl,rfl,rfl,rfl,rfl,?_⟩;show (Y.log++D.log.drop Y.told++[_]).length≤_
 rw [z8,z8,Al];simp only [Ai];omega
theorem lO {n:List Lg}{Y:YS}{D:DS}{k:Nat}(hD:D=finD n)(ok:YOk { Y with D:=D })(hC:Y.C=pnC)(hp:({ Y with D:=D }:YS).next 3 false=4)(hc:Y.clk2=7)(hw:∀u∈Y.whl,7<u.due)(hl:Y.log.length+D.log.length+1≤k):Paid n k (Y.funded D):=by
 obtain ⟨c,f,d,a,b,g⟩:=ji Y D;exact ⟨YOk.come ok _,c.trans hC,f.trans hD,d.trans hp,a.trans hc,by rw [b];exact hw,z5 g hl⟩
theorem yi {B:Nat}{n:List Lg}(hn:n∈perm4){k:Nat}{Y:YS}(h:Fu (delD n) 6 [] k Y)(hk:k≤9000):DoTo B Y tickC fun _ _ Y'=>Paid n (k+301) Y':=by
 obtain ⟨_,_,N,_,_,_,p⟩:=oks hn;have b:=uS h (by omega);have S:=N.log;have T:=p.log;have j:=(gV n hn).2.2.2.2;obtain ⟨I,hI⟩:∃I:YS→Prop,I=fun Z=>Z=Y.clk∨Paid n (k+201) Z:=⟨_,rfl⟩
 have O:=dE (B:=B) (Y:=Y) tickC h.ok I (fun Z=>if Z.phs=2 then 1 else 0) (by rw [hI];exact Or.inl rfl) (fun Y1 e=>by
  rw [hI] at e;rcases e with rfl | e
  ·exact ⟨b.ok,by have:=b.log;rw [b.desk];omega,rfl⟩
  ·exact ⟨e.ok,by have:=e.log;rw [e.desk];omega,by rw [e.clk2,h.clk2];rfl⟩) (fun Y1 t e hf=>by
  rw [hI] at e;obtain ⟨P,E,_,R⟩:=hf;obtain ⟨r,i⟩:=dB E R;rcases e with rfl | e
  rotate_left
  ·exfalso;have:=e.whl t r
   have i:t.due≤Y1.clk2:=i;rw [e.clk2] at i;omega
  have r:=nN b t r;have i:t.due≤Y.clk.clk2:=i;rw [b.clk2] at i;have g:∀t∈W0,t.due≤6+1→t=⟨7,3,0,0⟩:=by decide
  have g:=g t r i;obtain ⟨a,c⟩:∃a,Y.clk.pop (some t)=a:=⟨_,rfl⟩;have H:a.whl=Y.clk.whl.filter fun x=>!theTm t x:=by rw [←c];rfl
  have J:∀u∈a.whl,7<u.due:=by
   intro u z;rw [H,AS] at z;have L:=nN b u z.1;have F:u≠⟨7,3,0,0⟩:=by
    have:=z.2
    unfold theTm at this;rw [g] at this;simpa using this
   have Q:∀u∈W0,u≠⟨7,3,0,0⟩→7<u.due:=by decide
   exact Q u L F
  have l:(a.whl.length:Int)≤Y.C.room:=by
   have:=b.ok.whl
   have F:=AV (fun x=>!theTm t x) Y.clk.whl;rw [H];have e:Y.clk.C.room=Y.C.room:=rfl;omega
  have f:a.C=pnC:=by rw [←c];exact h.cfg
  have G:a.D=delD n:=by rw [←c];exact h.desk
  have M:a.phs=2:=by rw [←c];exact h.phs
  have K:a.clk2=7:=by rw [←c];exact b.clk2
  have s:a.cycle=0:=by rw [←c];exact h.cycle
  have U:a.log.length≤k:=by rw [←c];exact h.log
  have d:YOk a:=by rw [←c] at l ⊢;exact ⟨b.ok.dc,b.ok.gc,b.ok.dok,b.ok.gok,b.ok.told,l,b.ok.cyc,b.ok.clk2,b.ok.cn,b.ok.d64⟩
  have q:YOk { a with D:=finD n }:=⟨by rw [f];exact p.cfg,d.gc,p.dok,d.gok,by have:=d.told;rw [G] at this;exact z5 this j,d.whl,d.cyc,d.clk2,by show 0≤(finD n).cycles∧(finD n).cycles≤100000;rw [p.cn];omega,fun x hx=>(p.o64 x hx).2.1⟩;have o:({ a with D:=finD n }:YS).next 3 false=4:=by
   show (nextM a.phs 3 false (decide ((a.C.cyc.length:Int)≤a.cycle))).1=4
   rw [M,f,s];decide
  rw [c];intro W A y;refine (qL t (by rw [g]) y (·=dueD n) (·=finD n) (yh hn d G) (fun D2' e=>lN hn e) (fun D3 e=>by subst e;exact ⟨q,by omega⟩)).mono ?_;rintro e w' ⟨A',D,he,hD,hs⟩;subst hD;refine ⟨A',_,he,hs,?_,?_⟩
  ·rw [hI];exact Or.inr (lO rfl q f o K J (by omega))
  ·show (if (a.funded (finD n)).phs=2 then 1 else 0)<(if Y.clk.phs=2 then 1 else 0)
   rw [(ji a (finD n)).2.2.1,o,if_pos (show Y.clk.phs=2 from h.phs)];decide)
 intro W A y;refine (fo tickC (by decide) (by rw [h.phs];decide) 80 rfl (fun _ _=>rfl) _ O W A y).mono ?_;rintro e w' ⟨er,m,A',Y',he,hs,Y1,n1,⟨_,_,a,hi,⟨P,E,hs2,hno⟩,rfl⟩,_,rfl,_⟩;refine ⟨er,m,A',_,he,hs,?_⟩;rw [hI] at hi;rcases hi with rfl | hi
 ·exfalso;have v:Y.clk.whl.length<20:=by
   have:=b.ok.whl
   have e:Y.clk.C.room=8:=by show Y.C.room=8;rw [h.cfg];rfl
   omega
  obtain ⟨t,g,_⟩:=i5 E hs2 v (x:=⟨7,3,0,0⟩) (b.whl.2 _ (by decide)) (by show (7:Int)≤Y.clk.clk2;rw [b.clk2];decide);have g:firstM Y.clk.whl P Y.clk.clk2=some t:=g;rw [hno] at g;exact absurd g (by simp)
 ·exact Paid.hear hn hi
end Go.Proofs.YtmhohaanddglbaaGreatDoor
