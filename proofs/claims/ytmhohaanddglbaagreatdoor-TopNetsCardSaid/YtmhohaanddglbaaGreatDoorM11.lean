/- Texts of the proof of TopNets, joined: LTN, Awake, Ref3, Ref7, Ref9, Ref4, Ref8, Ref1, Ref2, Ref10, Ref14a, Ref14. -/
import Derived.Test.YtmhohaanddglbaaGreatDoorM01
import Derived.Test.YtmhohaanddglbaaGreatDoorM04
import Derived.Test.YtmhohaanddglbaaGreatDoorM06
import Derived.Test.YtmhohaanddglbaaGreatDoorM07
import Derived.Test.YtmhohaanddglbaaGreatDoorM09
import Derived.Test.YtmhohaanddglbaaGreatDoorM10
import Derived.BigRegion
import Derived.BigQuiet
import Derived.WalkSmall
import Derived.Deep.LoopGhost
import Derived.OrdersHeld
set_option linter.all false
set_option maxRecDepth 100000
set_option maxHeartbeats 16000000
namespace Go.Proofs.YtmhohaanddglbaaGreatDoor
open Go.RowKit
def nAt (nets:List Lg)(m a N:Int)(i:Nat):Int:=if (nets.take i).any (hitP m a)=true then 0 else N
def fAt (nets:List Lg)(m a:Int)(i:Nat):Nat:=cntF nets a m+(nets.take i).countP (hitP m a)
def sAt (L:List Lg)(a:Int)(k:Nat):Int:=wrap64 (sumNet L a k)
theorem jj:wrap64 0=0:=by unfold wrap64;omega
theorem zI (L:List Lg)(a:Int):sAt L a 0=0:=jj
theorem zJ (L:List Lg)(a:Int)(k:Nat):wrap64 (sAt L a k+netOf L ⟨(k:Int)+1,a⟩)=sAt L a (k+1):=by
 unfold sAt;rw [sumNet];unfold wrap64;omega
theorem s_end {C:Cfg}{T:List Tr}(h:Accept C T)(a:Int):sAt (T.flatMap lg4) a C.mem.length=0:=by
 unfold sAt;rw [lg h];exact jj
theorem zK (nets:List Lg)(m a N:Int):nAt nets m a N 0=N:=by unfold nAt;simp
theorem zL (nets:List Lg)(m a:Int):fAt nets m a 0=cntF nets a m:=by unfold fAt;simp
theorem f_le (nets:List Lg)(m a:Int)(i:Nat):fAt nets m a i≤2 * nets.length:=by
 unfold fAt cntF;have b:nets.countP (fun x=>decide (x.ass<a)||(decide (x.ass=a)&&decide (x.mem<m)))≤nets.length:=List.countP_le_length;have c:(nets.take i).countP (hitP m a)≤(nets.take i).length:=List.countP_le_length;have d:(nets.take i).length≤nets.length:=by rw [Aa];omega
 omega
theorem f_end (nets:List Lg)(m a:Int):fAt nets m a nets.length=cntF nets a (m+1):=by
 unfold fAt;rw [Ap];exact xL nets a m
theorem n_end {C:Cfg}{T:List Tr}{nets:List Lg}(hn:NetsOk C T nets)(m a:Int):nAt nets m a (netOf (T.flatMap lg4) ⟨m,a⟩) nets.length=0:=by
 unfold nAt;rw [Ap];split
 ·rfl
 ·rename_i h
  by_cases hz:netOf (T.flatMap lg4) ⟨m,a⟩=0
  ·exact hz
  ·obtain ⟨i,b,c⟩:=tW hn hz;exact absurd (At.2 ⟨_,Ag b,c⟩) h
theorem yj {nets:List Lg}{m a:Int}(N:Int){i:Nat}(hi:i<nets.length)(h:hitP m a nets[i]=false):nAt nets m a N (i+1)=nAt nets m a N i∧fAt nets m a (i+1)=fAt nets m a i:=by
 unfold nAt fAt;rw [z9 hi,List.any_append,List.countP_append];simp [h]
theorem zM {C:Cfg}{T:List Tr}{nets:List Lg}(hn:NetsOk C T nets){m a:Int}{i:Nat}(hi:i<nets.length)(h:hitP m a nets[i]=true) :
  nAt nets m a (netOf (T.flatMap lg4) ⟨m,a⟩) i=netOf (T.flatMap lg4) ⟨m,a⟩∧netOf (T.flatMap lg4) ⟨m,a⟩≠0∧nAt nets m a (netOf (T.flatMap lg4) ⟨m,a⟩) (i+1)=0∧fAt nets m a (i+1)=fAt nets m a i+1∧nets[i]=⟨m,a,netOf (T.flatMap lg4) ⟨m,a⟩⟩:=by
 obtain ⟨d,f⟩:=zw hn hi h;refine ⟨?_,f,?_,?_,d⟩
 ·unfold nAt;rw [if_neg];intro b;obtain ⟨x,hx,hh⟩:=At.1 b;obtain ⟨j,hj,e⟩:=Ao hx;rw [Aa] at hj;rw [List.getElem_take] at e;have c:j<nets.length:=by omega
  have:=xN hn c hi (by rw [e];exact hh) h
  omega
 ·unfold nAt;rw [z9 hi,List.any_append];simp [h]
 ·unfold fAt;rw [z9 hi,List.countP_append];simp [h]
  omega
theorem lP {D:GS}{T L:List Tr}(h:RegRel D T)(hp:L.Perm T)(hr:Rsg Tr.id L):D.list=L:=i4 Tr.id _ _ (fh h.inv) hr ((eA h).trans hp.symm)
theorem jk {D:GS}{T:List Tr}(h:RegRel D T):(T.map (·.id)).Nodup:=by
 have c:=fh h.inv;have f:(D.list.map (·.id)).Nodup:=by
  rw [Bg,List.pairwise_map];refine List.Pairwise.imp ?_ c;intro a b d e;omega
 exact ((eA h).map (·.id)).nodup_iff.1 f
def IsN (nets:List Lg)(m a N:Int)(i:Nat)(n:Int):Prop:=n=nAt nets m a N i
def IsF (nets:List Lg)(m a:Int)(i:Nat)(f:Nat):Prop:=f=fAt nets m a i
def IsC (nets:List Lg)(a m:Int)(f:Nat):Prop:=f=cntF nets a m
def IsS (L:List Lg)(a:Int)(k:Nat)(s:Int):Prop:=s=sAt L a k
theorem uV {nets:List Lg}{a m:Int}{f:Nat}(h:IsC nets a m f):IsF nets m a 0 f:=by unfold IsF;rw [zL];exact h
theorem yk {nets:List Lg}{a m:Int}{f:Nat}(h:IsF nets m a nets.length f):IsC nets a (m+1) f:=by unfold IsF at h;rw [f_end] at h;exact h
theorem zN {nets:List Lg}{a m:Int}{i f:Nat}(h:IsF nets m a i f)(hl:nets.length≤1024):f≤2048:=by
 have:=f_le nets m a i
 unfold IsF at h;omega
theorem uW {C:Cfg}{L:List Tr}{nets:List Lg}(ha:Accept C L)(hn:NetsOk C L nets):IsC nets 0 1 0:=
 (tU nets fun x hx=>⟨(cO ha hn x hx).1.1,(cO ha hn x hx).2.1⟩).symm
theorem uX {C:Cfg}{L:List Tr}{nets:List Lg}(ha:Accept C L)(hn:NetsOk C L nets){a:Int}{f:Nat}(h:IsC nets a ((C.mem.length:Int)+1) f):IsC nets (a+1) 1 f:=
 h.trans (tT nets a C.mem.length fun x hx=>(cO ha hn x hx).1)
theorem yl {C:Cfg}{L:List Tr}{nets:List Lg}(ha:Accept C L)(hn:NetsOk C L nets){f:Nat}(h:IsC nets ((C.secs.length:Int)+1) 1 f):f=nets.length:=
 h.trans (xM nets C.secs.length fun x hx=>(cO ha hn x hx).2.2)
theorem uY (nets:List Lg)(m a N:Int):IsN nets m a N 0 N:=(zK nets m a N).symm
theorem yo {C:Cfg}{T:List Tr}{nets:List Lg}(hn:NetsOk C T nets){m a n:Int}(h:IsN nets m a (netOf (T.flatMap lg4) ⟨m,a⟩) nets.length n):n=0:=h.trans (n_end hn m a)
theorem yp {nets:List Lg}{m a N n:Int}{i f:Nat}(hi:i<nets.length)(h:hitP m a nets[i]=false)(h1:IsN nets m a N i n)(h2:IsF nets m a i f):IsN nets m a N (i+1) n∧IsF nets m a (i+1) f:=by
 obtain ⟨c,b⟩:=yj N hi h;exact ⟨h1.trans c.symm,h2.trans b.symm⟩
theorem zO {C:Cfg}{T:List Tr}{nets:List Lg}(hn:NetsOk C T nets){m a N n:Int}{i f:Nat}(hN:netOf (T.flatMap lg4) ⟨m,a⟩=N)(hi:i<nets.length)(h:hitP m a nets[i]=true)(h1:IsN nets m a N i n)(h2:IsF nets m a i f):n=N∧N≠0∧nets[i]=⟨m,a,N⟩∧IsN nets m a N (i+1) 0∧IsF nets m a (i+1) (f+1):=by
 subst hN;obtain ⟨c,g,d,j,b⟩:=zM hn hi h;refine ⟨h1.trans c,g,b,d.symm,?_⟩;unfold IsF at h2 ⊢;rw [j,h2]
theorem uZ (L:List Lg)(a:Int):IsS L a 0 0:=(zI L a).symm
theorem u8 {L:List Lg}{a s m N:Int}{k:Nat}(h:IsS L a k s)(hm:m=(k:Int)+1)(hN:netOf L ⟨m,a⟩=N):IsS L a (k+1) (wrap64 (s+N)):=by
 subst hN hm;unfold IsS at h ⊢;rw [h,zJ]
theorem yq {C:Cfg}{T:List Tr}(ha:Accept C T){a s:Int}(h:IsS (T.flatMap lg4) a C.mem.length s):s=0:=h.trans (s_end ha a)
theorem DoTo.mono {B:Nat}{Y:YS}{c:Cm}{Q R:Int→Int→YS→Prop}(h:DoTo B Y c Q)(hq:∀e n Y',Q e n Y'→R e n Y'):DoTo B Y c R:=fun W A hA=>
 (h W A hA).mono fun _ _ ⟨er,n,A',Y',he,hs,hr⟩=>⟨er,n,A',Y',he,hs,hq _ _ _ hr⟩
def TickR (C:Cfg)(T:List Tr)(n k:Nat)(i:Nat)(Y:YS):Prop:=(i<n→Trading C T (i:Int) k Y)∧(i=n→∃D,RegRel D T∧D.C=C∧CutAt C D.list Y)
theorem gW {B:Nat}{C:Cfg}{T:List Tr}{n k:Nat}(hn:(n:Int)=(cycOf C 0).cut)(hk:k≤1000)(i:Nat)(hi:i<n)(Y:YS)(h:TickR C T n k i Y):DoTo B Y tickC fun _ _ Y'=>TickR C T n k (i+1) Y':=by
 have a:=h.1 hi;by_cases hc:i+1<n
 ·refine (nK a hk (by omega) (by omega)).mono fun _ _ Y' q=>⟨fun _=>?_,fun e=>by omega⟩
  have e:((i+1:Nat):Int)=(i:Int)+1:=by omega
  rw [e];exact q
 ·refine (uQ a hk (by omega)).mono fun _ _ Y' q=>⟨fun e=>by omega,fun _=>⟨Y.G,a.rel,?_,q⟩⟩
  rw [←a.cfg];exact a.ok.gc
section
attribute [local go_sem ↓] Go.wp_at_zero Go.wp_at_succ
theorem yr:accS pnC [] aTr=[aTr]:=by decide
theorem zP:TrIn aTr:=⟨by decide,by decide,by decide,by decide,by decide,by decide⟩
theorem nP {B:Nat}:DoTo B (Y0 pnC) openC fun _ _ Y=>Trading pnC [] 0 2 Y:=lK dt
theorem lQ {B:Nat}{Y:YS}(h:Trading pnC [] 0 2 Y):DoTo B Y (tradeC aTr) fun _ _ Y'=>Trading pnC [aTr] 0 3 Y':=by
 have:=jg (B:=B) h (by decide) aTr zP
 rw [yr] at this;exact this
theorem u9 {D:GS}{t:Tr}(h:RegRel D [t]):D.list=[t]:=List.perm_singleton.1 (eA h)
theorem eW {B:Nat}{A:YA}{Y:YS}{w:World}{g:Nat}(e:A.gy=g)(h:DyA w B A Y)(n:Nat)(hn:n≤100000)(R:Nat→YS→Prop)(h0:R 0 Y)(hd:∀i,i<n→∀Y1,R i Y1→DoTo B Y1 tickC fun _ _ Y2=>R (i+1) Y2):Calls Tryz.prog 18 #[ptr g,.int .i64 n] w (TicksPost B A (R n) w):=by
 subst e;exact qM h n hn R h0 hd
theorem lR {B:Nat}{A:YA}{Y:YS}{w:World}{g:Nat}(e:A.gy=g)(h:DyA w B A Y)(ht:Trading pnC [aTr] 0 3 Y):Calls Tryz.prog 18 #[ptr g,.int .i64 4] w (TicksPost B A (fun Y=>∃n∈perm4,Fu (cutD n) 4 [1,2] 4000 Y) w):=by
 refine (eW e h 4 (by decide) (TickR pnC [aTr] 4 3) ⟨fun _=>ht,fun e=>by simp at e⟩ (fun i hi Y1 h1=>gW (by rw [eU];rfl) (by decide) i hi Y1 h1)).mono ?_;rintro e j ⟨c,a,d,b,f⟩;obtain ⟨D,h1,_,h3⟩:=f.2 rfl;rw [u9 h1] at h3;exact ⟨c,a,d,b,zH h3⟩
def LastR (n:List Lg)(i:Nat)(Y:YS):Prop:=(i<3→Fu (delD n) (4+(i:Int)) [] (4200+100 * i) Y)∧(i=3→Paid n 5000 Y)
theorem nQ {B:Nat}{n:List Lg}(hn:n∈perm4)(i:Nat)(hi:i<3)(Y:YS)(h:LastR n i Y):DoTo B Y tickC fun _ _ Y'=>LastR n (i+1) Y':=by
 have a:=h.1 hi;by_cases hc:i+1<3
 ·refine (uT a (by omega) (by omega) (by omega)).mono fun _ _ Y' q=>⟨fun _=>?_,fun e=>by omega⟩
  have e:4+((i+1:Nat):Int)=4+(i:Int)+1:=by omega
  have b:4200+100 * (i+1)=4200+100 * i+100:=by omega
  rw [e,b];exact q
 ·obtain rfl:i=2:=by omega
  have a:Fu (delD n) 6 [] 4400 Y:=a;refine (yi hn a (by decide)).mono fun _ _ Y' q=>⟨fun e=>by omega,fun _=>?_⟩
  exact ⟨q.ok,q.cfg,q.desk,q.phs,q.clk2,q.whl,z5 q.log (by decide)⟩
theorem nR {B:Nat}{A:YA}{Y:YS}{w:World}{g:Nat}{n:List Lg}(hn:n∈perm4)(e:A.gy=g)(h:DyA w B A Y)(ht:Fu (delD n) 4 [] 4200 Y):Calls Tryz.prog 18 #[ptr g,.int .i64 3] w (TicksPost B A (Paid n 5000) w):=by
 refine (eW e h 3 (by decide) (LastR n) ⟨fun _=>ht,fun e=>by simp at e⟩ (fun i hi Y1 h1=>nQ hn i hi Y1 h1)).mono ?_;rintro e j ⟨c,a,d,b,f⟩;exact ⟨c,a,d,b,f.2 rfl⟩
theorem zQ {B:Nat}{A:YA}{Y:YS}{w:World}{g:Nat}{n:List Lg}(hn:n∈perm4)(e:A.gy=g)(h:DyA w B A Y)(hp:Paid n 5000 Y):Calls Tryz.prog 28 #[ptr g,.agg #[.int .i64 7,.int .i64 1],.int .i64 1] w fun e w'=>e=.returned (.tuple #[.int .i64 5,.int .i64 0])∧Bw w w':=by
 subst e;have a:=uN h hp.ok ⟨7,1⟩ 1;rw [hp.desk,(gV n hn).2.2.2.1] at a;exact a
theorem lS {B:Nat}{A:YA}{Y:YS}{w:World}{g:Nat}{p:Int}(e:A.gy=g)(h:DyA w B A Y)(hp:Y.phs=p):Calls Tryz.prog 22 #[ptr g] w fun e w'=>e=.returned (.int .i64 p)∧w'=w:=by
 subst e hp;exact nJ h
theorem DyA.ans35 {w W:World}{B g:Nat}{A:YA}{Y:YS}{old cs:Array Value}(h:DyA w B A Y)(hb:Blk w g 35 old)(p:PutB w g 35 cs W)(hB:B≤g):DyA W B A Y:=
 h.modO (ModT.put (TS:=[35]) (K:=[]) hb p (by simp) hB (by simp)) (by decide)
theorem qW (w:World)(hw:Words w):Calls Tryz.prog 7 #[] w fun e w'=>e=.returned (.bool true)∧Bw w w':=by
 have D:=aa (qT w);have t:=aa (fun W J F I (h:CSl W J F I pnC) (hb:Bw w W)=>lH J F I pnC W h dt (hw.keep hb));clear hw;go_enter Tryz.func7,Tryz.ntmps7;go_wp2_with fail;refine D.o.mono ?_;rintro e w1 ⟨J,F,I,rfl,m,Q⟩;have C:=aa (t.o w1 J F I m.sl Q);have G:=aa Q;clear m Q D t;go_wp2_with fail;refine C.o.mono ?_;rintro e w2 ⟨A2,rfl,hday,c2⟩;have L2:=aa (G.o.trans (c2.mono G.o.size));obtain ⟨B,hB⟩:∃B,w1.heap.size=B:=⟨_,rfl⟩;have b:w.heap.size≤B:=by rw [←hB];exact G.o.size
 rw [hB] at hday;have k:=aa ((nP (B:=B)).at hday rfl);unfold openC at k;obtain ⟨g,S⟩:∃g,A2.gy=g:=⟨_,rfl⟩;have M:=aa S;rw [S] at k ⊢;clear hday c2 hB S C G;go_wp2_with fail;refine k.o.mono ?_;rintro e w3 ⟨er3,m3,A3,Y3,rfl,st3,hr3⟩;have G3:=aa (st3.gy.trans M.o);have L3:=aa (bP st3 b L2.o);have q:=aa ((lQ (B:=B) hr3).at st3.at' G3.o);unfold tradeC aTr at q;clear st3 hr3 k L2;go_wp2_with fail;refine q.o.mono ?_;rintro e w4 ⟨er4,m4,A4,Y4,rfl,st4,hr4⟩;have G4:=aa (st4.gy.trans G3.o);have L4:=aa (bP st4 b L3.o);have v:=aa (lR (B:=B) G4.o st4.at' hr4);clear st4 hr4 q L3;go_wp2_with fail;refine v.o.mono ?_;rintro e w5 ⟨A5,Y5,rfl,st5,n,hn,hr5⟩;have G5:=aa (st5.gy.trans G4.o);have Y:=aa (bP st5 b L4.o);have i:=aa ((yf (B:=B) hn (by decide) hr5).at st5.at' G5.o);have O:=aa hn;unfold payC at i;clear st5 hr5 v L4 hn;go_wp2_with fail;refine i.o.mono ?_;rintro e w6 ⟨er6,m6,A6,Y6,rfl,st6,rfl,rfl,hr6⟩;have G6:=aa (st6.gy.trans G5.o);have E:=aa (bP st6 b Y.o);have D6:=aa st6.at';have R6:=aa hr6;have X:=st6.at'.lt;clear st6 hr6 i Y;go_wp2_with (refine aF rfl 35 _ _ rfl rfl w6.heap.size #[.int .i64 0,.int .i64 0] rfl rfl (by kernel_rfl) (by simp [Value.oneCell']) _ (Blk.new w6 35 #[.int .i64 0,.int .i64 0]) rfl ?_;intro x6 P6;have l:=aa P6;clear P6)
 have D7:=aa ((D6.o.alloc (.cells #[.int .i64 0,.int .i64 0] 35)).ans35 (Blk.new w6 35 #[.int .i64 0,.int .i64 0]) l.o X);have L7:=aa (l.o.low (E.o.alloc E.o.size _) E.o.size);have N:=aa l.o.row;have f:=aa ((yg (B:=B) O.o (by decide) R6.o).at D7.o G6.o);unfold delC at f;have y:w6.heap.size<x6.heap.size:=N.o.lt;clear l E D6 R6;refine f.o.mono ?_;rintro e H ⟨ac,m8,A8,Y8,rfl,d,rfl,rfl,z⟩;have G8:=aa (d.gy.trans G6.o);have K:=aa (bP d b L7.o);have D8:=aa d.at';have Z:=aa z;have T:=aa (N.o.modT d.mod (by decide));have R:=d.at'.lt;have L:w6.heap.size≠H.heap.size:=by have:=T.o.lt;omega
 clear d z f L7 N y D7;go_wp2_with (refine aF rfl 35 _ _ rfl rfl H.heap.size #[.int .i64 0,.int .i64 0] rfl rfl (by kernel_rfl) (by simp [Value.oneCell']) _ (Blk.new H 35 #[.int .i64 0,.int .i64 0]) rfl ?_;intro x8 P8;have j:=aa P8;clear P8)
 have D9:=aa ((D8.o.alloc (.cells #[.int .i64 0,.int .i64 0] 35)).ans35 (Blk.new H 35 #[.int .i64 0,.int .i64 0]) j.o R);have L9:=aa (j.o.low (K.o.alloc K.o.size _) K.o.size);have Q9:Hid (Blk x8 w6.heap.size 35 #[.int .i64 0,.int .i64 0]):=aa ((j.o.far _ L).trans (T.o.alloc _));have U9:=aa j.o.row;have HT:=aa (nR (B:=B) O.o G8.o D9.o Z.o);clear j K D8 Z T;refine HT.o.mono ?_;rintro e ab ⟨ae,ad,rfl,a,U⟩;have x:=aa (a.gy.trans G8.o);have u:=aa (bP a b L9.o);have s:=aa a.at';have p:=aa (Q9.o.modT a.mod (by decide));have r:=aa (U9.o.modT a.mod (by decide));have A:=aa (zQ O.o x.o s.o U);have HP:=aa U;clear a U HT L9 Q9 U9 D9;go_wp2_with fail;refine A.o.mono ?_;rintro e w11 ⟨rfl,c11⟩;have q0:=(p.o.keep c11).c 0;have q1:=(p.o.keep c11).c 1;have u0:=(r.o.keep c11).c 0;have u1:=(r.o.keep c11).c 1;have V:=aa (lS x.o (s.o.keep c11) HP.o.phs);have P:=aa (u.o.trans (c11.mono u.o.size));clear c11 A p r s;go_wp2_with (go_at_call 22;refine V.o.mono ?_;rintro e w12 ⟨rfl,rfl⟩)
 go_ret;exact ⟨rfl,P.o⟩
theorem nS (a:Int):(a.tmod 4294967296=a % 4294967296∧0≤a.tmod 4294967296)∨(a.tmod 4294967296=a % 4294967296 - 4294967296∧a.tmod 4294967296<0):=by
 have h:=Int.tmod_eq_emod (a:=a) (b:=4294967296);have c:=Int.emod_nonneg a (show (4294967296:Int)≠0 by decide);have d:=Int.emod_lt_of_pos a (show (0:Int)<4294967296 by decide);split at h
 ·exact Or.inl ⟨by omega,by omega⟩
 ·exact Or.inr ⟨by omega,by omega⟩
theorem vg {a:Int}(h:-9223372036854775808≤a∧a≤9223372036854775807):wrap64 ((wrap64 (a - a % 4294967296)).tdiv 4294967296)=a / 4294967296:=by
 have b:a - a % 4294967296=4294967296 * (a / 4294967296):=by omega
 have c:wrap64 (4294967296 * (a / 4294967296))=4294967296 * (a / 4294967296):=by unfold wrap64;omega
 rw [b,c,Int.mul_tdiv_cancel_left _ (by decide)];unfold wrap64;omega
theorem vp (a:Int):wrap64 (a % 4294967296)=a % 4294967296:=by unfold wrap64;omega
theorem fp (a:Int)(h:In64 a)(w:World):Calls Tryz.prog 86 #[.int .i64 a] w fun e w'=>e=.returned (.tuple #[.int .i64 (a / 4294967296),.int .i64 (a % 4294967296)])∧w'=w:=by
 unfold In64 at h;have c:=aa (vg h);have d:=aa (vp a);clear h;rcases nS a with ⟨he,hs⟩ | ⟨he,hs⟩
 ·have f:decide (a.tmod 4294967296<0)=false:=dF (by omega);have b:=aa he;clear hs he;go_enter Tryz.func86,Tryz.ntmps86;go_wp2_with fail;refine bodyPost_ret (v:=.tuple #[.int .i64 (a / 4294967296),.int .i64 (a % 4294967296)]) (by simp only [results,Tryz.results86];rw [b.o,c.o];simp [go_sem]) rfl ?_;exact ⟨rfl,rfl⟩
 ·have f:decide (a.tmod 4294967296<0)=true:=dT (by omega);have b:Hid (a.tmod 4294967296+4294967296=a % 4294967296):=aa (by omega);clear hs he;go_enter Tryz.func86,Tryz.ntmps86;go_wp2_with fail;refine bodyPost_ret (v:=.tuple #[.int .i64 (a / 4294967296),.int .i64 (a % 4294967296)]) (by simp only [results,Tryz.results86];rw [b.o,d.o,c.o];simp [go_sem]) rfl ?_;exact ⟨rfl,rfl⟩
theorem nT (x y:Int)(hx:-1000000000000000≤x∧x≤1000000000000000)(hy:-1000000000000000≤y∧y≤1000000000000000)(w:World):Calls Tryz.prog 87 #[.int .i64 x,.int .i64 y] w fun e w'=>e=.returned (.tuple #[.int .i64 (if In64 (x * 4294967296+y) then x * 4294967296+y else 0),.bool (decide (In64 (x * 4294967296+y)))])∧w'=w:=by
 have d:=aa (fp y (by unfold In64;omega));obtain ⟨q,i⟩:∃q,y / 4294967296=q:=⟨_,rfl⟩;obtain ⟨r,hr⟩:∃r,y % 4294967296=r:=⟨_,rfl⟩;have c:0≤r∧r<4294967296:=by omega
 have g:y=4294967296 * q+r:=by omega
 rw [i,hr] at d;obtain ⟨z,p⟩:∃z,x+q=z:=⟨_,rfl⟩;have u:wrap64 (x+q)=z:=by unfold wrap64;omega
 have m:Hid (x * 4294967296+y=z * 4294967296+r):=aa (by omega);rw [m.o];have f:=aa c;clear i hr g hx hy c p;obtain ⟨n,b⟩:∃n,(if In64 (z * 4294967296+r) then z * 4294967296+r else 0)=n:=⟨_,rfl⟩;obtain ⟨t,ht⟩:∃t,decide (In64 (z * 4294967296+r))=t:=⟨_,rfl⟩;rw [b,ht];by_cases h1:z< -2147483648
 ·have j:=dT h1;have a:¬ In64 (z * 4294967296+r):=by have:=f.o;unfold In64;omega
  obtain rfl:n=0:=by rw [←b,if_neg a]
  obtain rfl:t=false:=by rw [←ht];exact dF a
  clear h1 a b ht;go_enter Tryz.func87,Tryz.ntmps87;go_wp2_with (go_at_call 86;refine (d.o _).mono ?_;rintro e h ⟨rfl,rfl⟩)
  go_ret2;exact ⟨rfl,rfl⟩
 by_cases h2:2147483647<z
 ·have j:=dF h1;have k:=dT h2;have a:¬ In64 (z * 4294967296+r):=by have:=f.o;unfold In64;omega
  obtain rfl:n=0:=by rw [←b,if_neg a]
  obtain rfl:t=false:=by rw [←ht];exact dF a
  clear h1 h2 a b ht;go_enter Tryz.func87,Tryz.ntmps87;go_wp2_with (go_at_call 86;refine (d.o _).mono ?_;rintro e h ⟨rfl,rfl⟩)
  go_ret2;exact ⟨rfl,rfl⟩
 ·have j:=dF h1;have k:=dF h2;have a:In64 (z * 4294967296+r):=by have:=f.o;unfold In64;omega
  have s:wrap64 (z * 4294967296)=z * 4294967296:=by unfold wrap64;omega
  have l:wrap64 (z * 4294967296+r)=n:=by rw [←b,if_pos a];have:=f.o;unfold wrap64;omega
  obtain rfl:t=true:=by rw [←ht];exact dT a
  clear h1 h2 a b ht;go_enter Tryz.func87,Tryz.ntmps87;go_wp2_with (go_at_call 86;refine (d.o _).mono ?_;rintro e h ⟨rfl,rfl⟩)
  go_ret2;exact ⟨by show Ending.returned (.tuple #[.int .i64 (wrap64 (z * 4294967296+r)),.bool true])=_;rw [l],rfl⟩
def hiL (l:List Int):Int:=(l.map fun x=>x / 4294967296).sum
def loL (l:List Int):Int:=(l.map fun x=>x % 4294967296).sum
theorem nU:∀l:List Int,sumL l=hiL l * 4294967296+loL l:=by
 intro l;induction l with
 | nil=>rfl
 | cons x l ih=>
  have c:sumL (x :: l)=x+sumL l:=by simp [sumL]
  have b:hiL (x :: l)=x / 4294967296+hiL l:=by simp [hiL]
  have a:loL (x :: l)=x % 4294967296+loL l:=by simp [loL]
  rw [c,b,a,ih];omega
theorem lT:∀l:List Int,(∀x∈l,In64 x)→-2147483648 * (l.length:Int)≤hiL l∧hiL l≤2147483648 * (l.length:Int)∧0≤loL l∧loL l≤4294967296 * (l.length:Int):=by
 intro l;induction l with
 | nil=>intro _;simp [hiL,loL]
 | cons x l ih=>
  intro h;have d:=ih (fun y hy=>h y (AG _ hy));have a:=h x (As ..);unfold In64 at a;have c:hiL (x :: l)=x / 4294967296+hiL l:=by simp [hiL]
  have b:loL (x :: l)=x % 4294967296+loL l:=by simp [loL]
  rw [c,b,Ay];omega
theorem yt (l:List Int)(k:Nat)(h:k<l.length):hiL (l.take (k+1))=hiL (l.take k)+l[k] / 4294967296∧loL (l.take (k+1))=loL (l.take k)+l[k] % 4294967296:=by
 rw [z9 h];unfold hiL loL;refine ⟨?_,?_⟩ <;> simp only [AI,Am,List.map_nil,List.sum_append,AB,List.sum_nil,Int.add_zero]
theorem vv (v:Value)(l:List Int)(w:World)(hv:Sl eI 1 w v l)(hn:l.length≤100000)(h64:∀x∈l,In64 x):Calls Tryz.prog 54 #[v] w fun e w'=>e=.returned (.tuple #[.int .i64 (if In64 (sumL l) then sumL l else 0),.int .i64 (if In64 (sumL l) then 0 else 2)])∧Bw w w':=by
 obtain ⟨a,R,rfl,N,X,M,I⟩:=hv;unfold maxLen at M;have S:=aa I;have z:=aa h64;have O:=lT l h64;have f:=aa (fun w=>nT (hiL l) (loL l) (by omega) (by omega) w);rw [←nU l] at f;obtain ⟨n,hn'⟩:∃n,(if In64 (sumL l) then sumL l else 0)=n:=⟨_,rfl⟩;have h:=aa (fun k=>lT (l.take k) (fun x hx=>h64 x (List.mem_of_mem_take hx)));have J:Hid (hiL (l.take l.length)=hiL l∧loL (l.take l.length)=loL l):=aa (by rw [Ap];exact ⟨rfl,rfl⟩);have T:=aa (yt l);have y:=aa hn';obtain ⟨er,her⟩:∃er,(if In64 (sumL l) then (0:Int) else 2)=er:=⟨_,rfl⟩;have q:=aa her;rw [hn'] at f ⊢;rw [her];clear her;clear I h64 O N;obtain ⟨t,ht⟩:∃t,decide (In64 (sumL l))=t:=⟨_,rfl⟩;rw [ht] at f;have j:=aa ht;clear ht hn';have Y:=aa hn;go_enter Tryz.func54,Tryz.ntmps54;go_wp2_with fail;go_loopw [6,4,5] (fun vi vh vl wr=>∃(k:Nat),k≤l.length∧vi=.int .i64 k∧vh=.int .i64 (hiL (l.take k))∧vl=.int .i64 (loL (l.take k))∧Bw w wr) (fun vi _ _ _=>l.length - (intOf vi).toNat)
 case atStart=>exact ⟨0,Af _,rfl,rfl,rfl,zZ _ _⟩
 case round=>
  obtain ⟨k,W,rfl,rfl,rfl,g⟩:=hrel;have d:=aa g;clear g;by_cases hlt:k<l.length
  ·obtain ⟨b,i,rfl,u,m⟩:=S.o (by omega);have A:w.cell? ⟨b,i+k * 1,none⟩=some (.int .i64 l[k]):=m k hlt 0 _ rfl;rw [A0] at A;have V:=(d.o.c (p:=⟨b,i+k,none⟩) u).trans A;have K:(0:Int)≤(k:Int):=by omega
   have P:(k:Int)<(l.length:Int):=by omega
   obtain ⟨D,B⟩:=T.o k hlt;have F:=h.o k;have C:=h.o (k+1);rw [D,B] at C;rw [Aa] at F C;have U:=aa (z.o _ (Ag hlt));have r:=aa (And.intro D B);have G:wrap64 (hiL (l.take k)+l[k] / 4294967296)=hiL (l.take k)+l[k] / 4294967296:=by unfold wrap64;omega
   have H:wrap64 (loL (l.take k)+l[k] % 4294967296)=loL (l.take k)+l[k] % 4294967296:=by unfold wrap64;omega
   clear m A D B F C;generalize l[k]=x at *;by_cases hm:x=-9223372036854775808
   ·subst hm;go_wp2_with fail;go_roundw
    case rel=>exact ⟨k+1,by omega,by go_num,by rw [r.o.1,←G];rfl,by rw [r.o.2,←H,show (-9223372036854775808:Int) % 4294967296=0 from rfl,Int.add_zero],d.o⟩
    case measure=>exact ar (by omega)
   ·have L:(x != -9223372036854775808)=true:=by simpa using hm
    clear hm;go_wp2_with (go_at_call 86;refine (fp x U.o _).mono ?_;rintro e E ⟨rfl,rfl⟩)
    go_roundw
    case rel=>exact ⟨k+1,by omega,by go_num,by rw [r.o.1,G],by rw [r.o.2,H],d.o⟩
    case measure=>exact ar (by omega)
  ·obtain rfl:k=l.length:=by omega
   have Q:¬ ((l.length:Int)<(l.length:Int)):=by omega
   rw [J.o.1,J.o.2];cases t with
   | true=>
    have s:Hid (In64 (sumL l)):=aa (by simpa using j.o);obtain rfl:er=0:=by rw [←q.o,if_pos s.o]
    go_wp2_with (go_at_call 87;refine (f.o _).mono ?_;rintro e E ⟨rfl,rfl⟩)
    go_ret2;exact ⟨rfl,d.o⟩
   | false=>
    have s:Hid (¬ In64 (sumL l)):=aa (by simpa using j.o);obtain rfl:er=2:=by rw [←q.o,if_neg s.o]
    obtain rfl:n=0:=by rw [←y.o,if_neg s.o]
    go_wp2_with (go_at_call 87;refine (f.o _).mono ?_;rintro e E ⟨rfl,rfl⟩)
    go_ret2;exact ⟨rfl,d.o⟩
theorem jl (a:Int)(h:In64 a)(w:World):Calls Tryz.prog 119 #[.int .i64 a] w fun e w'=>e=.returned (.int .u64 a.natAbs)∧w'=w:=by
 unfold In64 at h;obtain ⟨n,b⟩:∃n:Int,(a.natAbs:Int)=n:=⟨_,rfl⟩;by_cases h0:0≤a
 ·have d:=dT h0;go_enter Tryz.func119,Tryz.ntmps119;go_wp2_with fail;refine bodyPost_ret (v:=.int .u64 a) (by simp [results,Tryz.results119,go_sem]) rfl ?_;exact ⟨by rw [show (a.natAbs:Int)=a by omega],rfl⟩
 ·have d:=dF h0;go_enter Tryz.func119,Tryz.ntmps119;go_wp2_with fail;refine bodyPost_ret (v:=.int .u64 (-(a+1)+1)) (by simp [results,Tryz.results119,go_sem]) rfl ?_;exact ⟨by rw [show n=-(a+1)+1 by omega],rfl⟩
def dgN (x i:Nat):Nat:=x / 2 ^ (16 * i) % 65536
theorem jT (x i:Nat):dgN x i<65536:=Nat.mod_lt _ (by decide)
theorem oM (x:Nat)(h:x<18446744073709551616):x=dgN x 0+65536 * dgN x 1+4294967296 * dgN x 2+281474976710656 * dgN x 3:=by
 unfold dgN;simp only [Nat.mul_zero,Nat.pow_zero,Nat.div_one,A0,Nat.reduceMul,Nat.reducePow];omega
theorem vy (x i:Nat)(h:x<18446744073709551616):bits BinOp.and IntKind.u64 ((x:Int) / 2 ^ (16 * i)) 65535=(dgN x i:Int):=by
 have e:(x:Int) / 2 ^ (16 * i)=((x / 2 ^ (16 * i):Nat):Int):=by simp
 have a:x / 2 ^ (16 * i)≤x:=Nat.div_le_self _ _;rw [e];refine (bits_and_u64_nat (x / 2 ^ (16 * i)) 65535 (by omega) (by decide)).trans ?_;unfold dgN;have:=Nat.and_two_pow_sub_one_eq_mod (x / 2 ^ (16 * i)) 16
 simp only [Nat.reducePow,Nat.reduceSub] at this;rw [this]
theorem yu (x:Nat)(h:x<18446744073709551616):bits BinOp.and IntKind.u64 (x:Int) 65535=((x % 65536:Nat):Int):=by
 refine (bits_and_u64_nat x 65535 (by omega) (by decide)).trans ?_;have:=Nat.and_two_pow_sub_one_eq_mod x 16
 simp only [Nat.reducePow,Nat.reduceSub] at this;rw [this]
def mac (x y:Nat):Nat→List Nat
 | 0=>List.replicate 8 0
 | n+1=>(mac x y n).set (n / 4+n % 4) ((mac x y n).getD (n / 4+n % 4) 0+dgN x (n / 4) * dgN y (n % 4))
theorem oN (x y:Nat):∀n,(mac x y n).length=8:=by
 intro n;induction n with
 | zero=>rfl
 | succ n ih=>unfold mac;rw [AH,ih]
theorem vz (x y:Nat):∀n,∀z∈mac x y n,z≤4294836225 * n:=by
 intro n;induction n with
 | zero=>intro z a;rw [List.eq_of_mem_replicate a];exact Af _
 | succ n ih=>
  intro z a;unfold mac at a;have b:dgN x (n / 4) * dgN y (n % 4)≤65535 * 65535:=Nat.mul_le_mul (by have:=jT x (n / 4);omega) (by have:=jT y (n % 4);omega);have c:(mac x y n).getD (n / 4+n % 4) 0≤4294836225 * n:=by
   rw [Ah];cases h:(mac x y n)[n / 4+n % 4]? with
   | none=>exact Af _
   | some v=>exact ih v (List.mem_of_getElem? h)
  rcases List.mem_or_eq_of_mem_set a with a | a
  ·have:=ih z a;omega
  ·rw [a];omega
theorem vA (x y i k:Nat)(hk:k<4):mac x y (4 * i+k+1)=(mac x y (4 * i+k)).set (i+k) ((mac x y (4 * i+k)).getD (i+k) 0+dgN x i * dgN y k):=by
 have b:(4 * i+k) / 4=i:=by omega
 have a:(4 * i+k) % 4=k:=by omega
 rw [mac,b,a]
def car (D:List Nat):Nat→List Nat×Nat
 | 0=>(D,0)
 | j+1=>((car D j).1.set j (((car D j).1.getD j 0+(car D j).2) % 65536),((car D j).1.getD j 0+(car D j).2) / 65536)
theorem zR (D:List Nat)(h:D.length=8)(hb:∀z∈D,z≤68717379600):∀j,(car D j).1.length=8∧(∀z∈(car D j).1,z≤68717379600)∧(car D j).2≤68717379600:=by
 intro j;induction j with
 | zero=>exact ⟨h,hb,Af _⟩
 | succ j ih=>
  obtain ⟨c,b,d⟩:=ih;have f:(car D j).1.getD j 0≤68717379600:=by
   rw [Ah];cases h:(car D j).1[j]? with
   | none=>exact Af _
   | some v=>exact b v (List.mem_of_getElem? h)
  unfold car;refine ⟨by rw [List.length_set];exact c,?_,by dsimp only;omega⟩;intro z a;rcases List.mem_or_eq_of_mem_set a with a | a
  ·exact b z a
  ·rw [a];omega
theorem nV (x0 x1 x2 x3 y0 y1 y2 y3:Nat):(x0+65536 * x1+4294967296 * x2+281474976710656 * x3) * (y0+65536 * y1+4294967296 * y2+281474976710656 * y3)=x0 * y0+65536 * (x0 * y1+x1 * y0)+4294967296 * (x0 * y2+x1 * y1+x2 * y0)+281474976710656 * (x0 * y3+x1 * y2+x2 * y1+x3 * y0)+18446744073709551616 * (x1 * y3+x2 * y2+x3 * y1)+1208925819614629174706176 * (x2 * y3+x3 * y2)+79228162514264337593543950336 * (x3 * y3):=by grind
theorem yv (c0 c1 c2 c3 c4 c5 c6 P s1 s2 s3 s4 s5 s6 s7:Nat)(hP:P=c0+65536 * c1+4294967296 * c2+281474976710656 * c3+18446744073709551616 * c4+1208925819614629174706176 * c5+79228162514264337593543950336 * c6)(hb:P<340282366920938463463374607431768211456)
  (h1:s1=c1+c0 / 65536) (h2:s2=c2+s1 / 65536) (h3:s3=c3+s2 / 65536) (h4:s4=c4+s3 / 65536) (h5:s5=c5+s4 / 65536) (h6:s6=c6+s5 / 65536) (h7:s7=s6 / 65536) :
  c0 % 65536+s1 % 65536 * 65536+s2 % 65536 * 4294967296+s3 % 65536 * 281474976710656=P % 18446744073709551616∧(0<s4 % 65536+s5 % 65536+s6 % 65536+s7 % 65536↔18446744073709551616≤P):=by
 have d:P=(c0 % 65536+s1 % 65536 * 65536+s2 % 65536 * 4294967296+s3 % 65536 * 281474976710656)+18446744073709551616 * (s4+65536 * c5+4294967296 * c6):=by omega
 have c:s4+65536 * c5+4294967296 * c6=s4 % 65536+65536 * (s5 % 65536)+4294967296 * (s6 % 65536)+281474976710656 * s7:=by omega
 have b:c0 % 65536+s1 % 65536 * 65536+s2 % 65536 * 4294967296+s3 % 65536 * 281474976710656<18446744073709551616:=by omega
 have a:s7<65536:=by omega
 omega
theorem zS (x y:Nat)(hx:x≤9223372036854775808)(hy:y≤9223372036854775808):∃d0 d1 d2 d3 d4 d5 d6 d7,(car (mac x y 16) 8).1=[d0,d1,d2,d3,d4,d5,d6,d7]∧(d0<65536∧d1<65536∧d2<65536∧d3<65536∧d4<65536∧d5<65536∧d6<65536∧d7<65536)∧d0+d1 * 65536+d2 * 4294967296+d3 * 281474976710656=x * y % 18446744073709551616∧(0<d4+d5+d6+d7↔18446744073709551616≤x * y):=by
 have j:=nV (dgN x 0) (dgN x 1) (dgN x 2) (dgN x 3) (dgN y 0) (dgN y 1) (dgN y 2) (dgN y 3);rw [←oM x (by omega),←oM y (by omega)] at j;have o:x * y≤9223372036854775808 * 9223372036854775808:=Nat.mul_le_mul hx hy;have b:mac x y 16=[0+dgN x 0 * dgN y 0,0+dgN x 0 * dgN y 1+dgN x 1 * dgN y 0,0+dgN x 0 * dgN y 2+dgN x 1 * dgN y 1+dgN x 2 * dgN y 0,0+dgN x 0 * dgN y 3+dgN x 1 * dgN y 2+dgN x 2 * dgN y 1+dgN x 3 * dgN y 0,0+dgN x 1 * dgN y 3+dgN x 2 * dgN y 2+dgN x 3 * dgN y 1,0+dgN x 2 * dgN y 3+dgN x 3 * dgN y 2,0+dgN x 3 * dgN y 3,0]:=by
  simp [mac,List.replicate_succ,-Nat.zero_add]
 simp only [Av] at b;rw [b];generalize d:dgN x 0 * dgN y 0=c0 at *;generalize i:dgN x 0 * dgN y 1+dgN x 1 * dgN y 0=c1 at *;generalize g:dgN x 0 * dgN y 2+dgN x 1 * dgN y 1+dgN x 2 * dgN y 0=c2 at *;generalize h:dgN x 0 * dgN y 3+dgN x 1 * dgN y 2+dgN x 2 * dgN y 1+dgN x 3 * dgN y 0=c3 at *;generalize c:dgN x 1 * dgN y 3+dgN x 2 * dgN y 2+dgN x 3 * dgN y 1=c4 at *;generalize a:dgN x 2 * dgN y 3+dgN x 3 * dgN y 2=c5 at *;generalize f:dgN x 3 * dgN y 3=c6 at *;generalize l:x * y=P at *;clear b d i g h c a f;have n:car [c0,c1,c2,c3,c4,c5,c6,0] 8=car [c0,c1,c2,c3,c4,c5,c6,0] 8:=rfl;obtain ⟨m,k⟩:=yv c0 c1 c2 c3 c4 c5 c6 P _ _ _ _ _ _ _ j (by omega) rfl rfl rfl rfl rfl rfl rfl;refine ⟨_,_,_,_,_,_,_,_,?_,⟨?_,?_,?_,?_,?_,?_,?_,?_⟩,m,k⟩
 ·simp only [car,List.getD_cons_zero,List.getD_cons_succ,z6,z7,AU,Av]
 all_goals exact Nat.mod_lt _ (by decide)
abbrev cellsU (D:List Nat):Array Value:=(D.map fun n:Nat=>Value.int .u64 (n:Int)).toArray
theorem ec (D:List Nat)(j n:Nat):(cellsU D).setIfInBounds j (.int .u64 (n:Int))=cellsU (D.set j n):=by
 unfold cellsU;rw [z4,List.map_set]
theorem jm (D:List Nat)(j:Nat)(h:j<D.length):(cellsU D)[j]?=some (.int .u64 ((D.getD j 0:Nat):Int)):=by
 unfold cellsU;rw [AM,List.getElem?_map,Ah,Ab h];rfl
theorem qX (a b:Int):((a<0↔b<0)→a * b=((a.natAbs * b.natAbs:Nat):Int))∧(¬ (a<0↔b<0)→a * b=-((a.natAbs * b.natAbs:Nat):Int)):=by
 rcases AQ a 0 with ha | ha <;> rcases AQ b 0 with hb | hb
 ·obtain ⟨n,rfl⟩:∃n:Nat,a=-(n:Int):=⟨a.natAbs,by omega⟩;obtain ⟨m,rfl⟩:∃m:Nat,b=-(m:Int):=⟨b.natAbs,by omega⟩;exact ⟨fun _=>by simp [Int.neg_mul_neg],fun h=>absurd ⟨fun _=>hb,fun _=>ha⟩ h⟩
 ·obtain ⟨n,rfl⟩:∃n:Nat,a=-(n:Int):=⟨a.natAbs,by omega⟩;obtain ⟨m,rfl⟩:∃m:Nat,b=(m:Int):=⟨b.natAbs,by omega⟩;exact ⟨fun h=>by have:=h.1 ha;omega,fun _=>by simp [Int.neg_mul]⟩
 ·obtain ⟨n,rfl⟩:∃n:Nat,a=(n:Int):=⟨a.natAbs,by omega⟩;obtain ⟨m,rfl⟩:∃m:Nat,b=-(m:Int):=⟨b.natAbs,by omega⟩;exact ⟨fun h=>by have:=h.2 hb;omega,fun _=>by simp [Int.mul_neg]⟩
 ·obtain ⟨n,rfl⟩:∃n:Nat,a=(n:Int):=⟨a.natAbs,by omega⟩;obtain ⟨m,rfl⟩:∃m:Nat,b=(m:Int):=⟨b.natAbs,by omega⟩;exact ⟨fun _=>by simp,fun h=>absurd ⟨fun h=>by omega,fun h=>by omega⟩ h⟩
theorem yw {ab q V E:Int}(h:ab=q)(h2:((-9223372036854775808≤q∧q≤9223372036854775807)∧V=q∧E=0)∨(¬ (-9223372036854775808≤q∧q≤9223372036854775807)∧V=0∧E=2)):(V,E)=((fitM ab).1,(fitM ab).2):=by
 subst h;rcases h2 with ⟨h1,rfl,rfl⟩ | ⟨h1,rfl,rfl⟩
 ·rw [bV h1]
 ·rw [eE h1]
theorem yx {x y:Nat}(hx:x≤9223372036854775808)(hy:y≤9223372036854775808):x * y≤85070591730234615865843651857942052864:=z5 (Nat.mul_le_mul hx hy) (by decide)
theorem zT (a b:Nat)(h1:a<65536)(h2:b<65536):a * b≤4294836225:=z5 (Nat.mul_le_mul (Nat.le_of_lt_succ h1) (Nat.le_of_lt_succ h2)) (by decide)
theorem vB {p v c d:Nat}(h:c * d=p)(hp:p≤4294836225)(hv:v≤68717379600):IntKind.u64.wrap ((c:Int) * (d:Int))=(p:Int)∧IntKind.u64.wrap ((v:Int)+(p:Int))=((v+p:Nat):Int):=by
 rw [←Int.natCast_mul,h];simp only [IntKind.wrap,IntKind.signed,IntKind.bits];simp
 omega
theorem vC {v c:Nat}(hv:v≤68717379600)(hc:c≤68717379600):IntKind.u64.wrap ((v:Int)+(c:Int))=((v+c:Nat):Int):=by
 simp only [IntKind.wrap,IntKind.signed,IntKind.bits];simp
 omega
theorem qY {d0 d1 d2 d3 d4 d5 d6 d7:Nat}{N:Int}(h:(d0:Int)+d1 * 65536+d2 * 4294967296+d3 * 281474976710656=N)(hl:d0<65536∧d1<65536∧d2<65536∧d3<65536∧d4<65536∧d5<65536∧d6<65536∧d7<65536):0≤N∧N≤18446744073709551615:=by omega
theorem vD {a b ab:Int}{P:Nat}{da db:Bool}(ha:decide (a<0)=da)(hb:decide (b<0)=db)(h:((a<0↔b<0)→ab=(P:Int))∧(¬ (a<0↔b<0)→ab=-(P:Int))):(da=db→ab=(P:Int))∧(¬ da=db→ab=-(P:Int)):=by
 subst ha hb;rw [decide_eq_decide];exact h
theorem vE {P d0 d1 d2 d3 d4 d5 d6 d7:Nat}(hn:d0+d1 * 65536+d2 * 4294967296+d3 * 281474976710656=P % 18446744073709551616)(hh:0<d4+d5+d6+d7↔18446744073709551616≤P)(hP:P≤85070591730234615865843651857942052864)
  (hl:d0<65536∧d1<65536∧d2<65536∧d3<65536∧d4<65536∧d5<65536∧d6<65536∧d7<65536) :
  (∀ab,ab=(P:Int)→((0:Int)<(d4:Int)+d5+d6+d7→((0:Int),(2:Int))=((fitM ab).1,(fitM ab).2))∧
   (¬ (0:Int)<(d4:Int)+d5+d6+d7→(9223372036854775808:Int)<(d0:Int)+d1 * 65536+d2 * 4294967296+d3 * 281474976710656→((0:Int),(2:Int))=((fitM ab).1,(fitM ab).2))∧
   (¬ (0:Int)<(d4:Int)+d5+d6+d7→(d0:Int)+d1 * 65536+d2 * 4294967296+d3 * 281474976710656=(9223372036854775808:Int)→((0:Int),(2:Int))=((fitM ab).1,(fitM ab).2))∧
   (¬ (0:Int)<(d4:Int)+d5+d6+d7→¬ (9223372036854775808:Int)<(d0:Int)+d1 * 65536+d2 * 4294967296+d3 * 281474976710656→¬ (d0:Int)+d1 * 65536+d2 * 4294967296+d3 * 281474976710656=(9223372036854775808:Int)→((d0:Int)+d1 * 65536+d2 * 4294967296+d3 * 281474976710656,(0:Int))=((fitM ab).1,(fitM ab).2)))∧
  (∀ab,ab=-(P:Int)→((0:Int)<(d4:Int)+d5+d6+d7→((0:Int),(2:Int))=((fitM ab).1,(fitM ab).2))∧
   (¬ (0:Int)<(d4:Int)+d5+d6+d7→(9223372036854775808:Int)<(d0:Int)+d1 * 65536+d2 * 4294967296+d3 * 281474976710656→((0:Int),(2:Int))=((fitM ab).1,(fitM ab).2))∧
   (¬ (0:Int)<(d4:Int)+d5+d6+d7→(d0:Int)+d1 * 65536+d2 * 4294967296+d3 * 281474976710656=(9223372036854775808:Int)→((-9223372036854775808:Int),(0:Int))=((fitM ab).1,(fitM ab).2))∧
   (¬ (0:Int)<(d4:Int)+d5+d6+d7→¬ (9223372036854775808:Int)<(d0:Int)+d1 * 65536+d2 * 4294967296+d3 * 281474976710656→¬ (d0:Int)+d1 * 65536+d2 * 4294967296+d3 * 281474976710656=(9223372036854775808:Int)→(0:Int)<(d0:Int)+d1 * 65536+d2 * 4294967296+d3 * 281474976710656→(-((d0:Int)+d1 * 65536+d2 * 4294967296+d3 * 281474976710656 - 1) - 1,(0:Int))=((fitM ab).1,(fitM ab).2))∧
   (¬ (0:Int)<(d4:Int)+d5+d6+d7→¬ (9223372036854775808:Int)<(d0:Int)+d1 * 65536+d2 * 4294967296+d3 * 281474976710656→¬ (d0:Int)+d1 * 65536+d2 * 4294967296+d3 * 281474976710656=(9223372036854775808:Int)→¬ (0:Int)<(d0:Int)+d1 * 65536+d2 * 4294967296+d3 * 281474976710656→((d0:Int)+d1 * 65536+d2 * 4294967296+d3 * 281474976710656,(0:Int))=((fitM ab).1,(fitM ab).2))):=by
 refine ⟨fun ab hab=>⟨?_,?_,?_,?_⟩,fun ab hab=>⟨?_,?_,?_,?_,?_⟩⟩
 all_goals
  intros
  refine yw hab ?_;omega
theorem gX (a b:Int)(ha:In64 a)(hb:In64 b)(w:World):Calls Tryz.prog 83 #[.int .i64 a,.int .i64 b] w fun e w'=>e=.returned (.tuple #[.int .i64 (fitM (a * b)).1,.int .i64 (fitM (a * b)).2])∧Below (w.heap.size) w w':=by
 have HX:=aa (fun w=>jl a ha w);have HY:=aa (fun w=>jl b hb w);obtain ⟨x,hx⟩:∃x,a.natAbs=x:=⟨_,rfl⟩;obtain ⟨y,hy⟩:∃y,b.natAbs=y:=⟨_,rfl⟩;have ae:x≤9223372036854775808:=by unfold In64 at ha;omega
 have U:y≤9223372036854775808:=by unfold In64 at hb;omega
 rw [hx] at HX;rw [hy] at HY;obtain ⟨M,hM⟩:∃M,w.heap.size=M:=⟨_,rfl⟩;have F:=aa (zS x y ae U);have ad:=aa (vz x y);have V:=aa (oN x y);have af:=aa (vA x y);have Y:=aa (zR (mac x y 16) (oN x y 16) (fun z hz=>by have:=vz x y 16 z hz;omega));have J:Hid (a.natAbs=x∧b.natAbs=y):=aa ⟨hx,hy⟩;have al:=aa ha;have an:=aa hb;clear hx hy ha hb;have T:=aa (Blk.new w 103 (cellsU (mac x y 0)));have X:Hid (Below (w.heap.size) w (w.alloc (.cells (cellsU (mac x y 0)) 103))):=aa Bn;have r:cellsU (mac x y 0)=#[.int .u64 0,.int .u64 0,.int .u64 0,.int .u64 0,.int .u64 0,.int .u64 0,.int .u64 0,.int .u64 0]:=rfl;rw [r,hM] at T X;clear r;have C:=aa (qX a b);obtain ⟨ab,hab9⟩:∃ab,a * b=ab:=⟨_,rfl⟩;rw [hab9] at C ⊢;clear hab9;go_enter Tryz.func83,Tryz.ntmps83;go_wp2_with fail;refine (HX.o _).mono ?_;rintro e w1 ⟨rfl,rfl⟩;go_wp2_with fail;refine (HY.o _).mono ?_;rintro e w1 ⟨rfl,rfl⟩;generalize w.alloc (.cells #[.int .u64 0,.int .u64 0,.int .u64 0,.int .u64 0,.int .u64 0,.int .u64 0,.int .u64 0,.int .u64 0] 103)=W1 at *;go_wp2_with fail;go_loopw [9] (fun (vi:Value) (wr:World)=>∃(i:Nat),i≤4∧vi=.int .i64 i∧Blk wr M 103 (cellsU (mac x y (4 * i)))∧Below M w wr) (fun (vi:Value) (_:World)=>4 - (intOf vi).toNat)
 case atStart=>exact ⟨0,by omega,rfl,T.o,X.o⟩
 case round=>
  obtain ⟨i,hi,rfl,f,g⟩:=hrel;by_cases hlt:i<4
  ·have ao:(i:Int)<4:=by omega
   have ai:=aa f;have ak:=aa g;clear f g;go_wp2_with fail;go_loopw [10] (fun (vk:Value) (wr:World)=>∃(k:Nat),k≤4∧vk=.int .i64 k∧Blk wr M 103 (cellsU (mac x y (4 * i+k)))∧Below M w wr) (fun (vi:Value) (_:World)=>4 - (intOf vi).toNat)
   case atStart=>exact ⟨0,by omega,rfl,ai.o,ak.o⟩
   case round=>
    obtain ⟨k,hk,rfl,f,g⟩:=hrel;by_cases hlt2:k<4
    ·have au:(k:Int)<4:=by omega
     have Q:=aa f;have I:=aa g;have ap:=V.o (4 * i+k);have e1:wrap64 ((i:Int)+(k:Int))=((i+k:Nat):Int):=by unfold wrap64;omega
     have e2:wrap64 (16 * (i:Int))=((16 * i:Nat):Int):=by unfold wrap64;omega
     have e3:wrap64 (16 * (k:Int))=((16 * k:Nat):Int):=by unfold wrap64;omega
     have c0:wr.cell? ⟨M,i+k,none⟩=some (.int .u64 ((mac x y (4 * i+k)).getD (i+k) 0:Nat)):=(f.c (i+k)).trans (jm _ _ (by omega));have f0:wr.frozen? ⟨M,i+k,none⟩=false:=f.free (i+k);have R:((mac x y (4 * i+k)).getD (i+k) 0)≤68717379600:=by
      rw [Ah,Ab (by omega)];have:=ad.o (4 * i+k) _ (Ag (show i+k<(mac x y (4 * i+k)).length by omega))
      show (mac x y (4 * i+k))[i+k]≤_
      omega
     obtain ⟨v,A⟩:∃v,(mac x y (4 * i+k)).getD (i+k) 0=v:=⟨_,rfl⟩;have H:=aa (af.o i k hlt2);rw [A] at c0 R H;have b1:(0:Int)≤((i+k:Nat):Int):=by omega
     have b2:((i+k:Nat):Int)<8:=by omega
     have a1:=vy x i (by omega);have a2:=vy y k (by omega);have O:=zT (dgN x i) (dgN y k) (jT x i) (jT y k);obtain ⟨p,hp⟩:∃p,dgN x i * dgN y k=p:=⟨_,rfl⟩;rw [hp] at O;obtain ⟨m1,m2⟩:=vB hp O R;rw [hp] at H;clear f g A O hp;go_wp2_with fail;go_region
     have t:Hid (Blk (wr.setCell ⟨M,i+k,none⟩ (.int .u64 ((v:Int)+(p:Int)))).drew M 103 (cellsU (mac x y (4 * i+k+1)))):=aa (by
      have q:=Q.o.set (i+k) (.int .u64 (((v+p:Nat)):Int));rw [ec,←H.o] at q;rw [show ((v:Int)+(p:Int))=((v+p:Nat):Int) by omega];exact Blk.d q)
     have u:Hid (Below M w (wr.setCell ⟨M,i+k,none⟩ (.int .u64 ((v:Int)+(p:Int)))).drew):=aa (by
      exact (I.o.setCell (p:=⟨M,i+k,none⟩) (zY _) _).drew)
     generalize (wr.setCell ⟨M,i+k,none⟩ (.int .u64 ((v:Int)+(p:Int)))).drew=W4 at *;clear c0 f0 a1 a2 m1 m2 e1 e2 e3 R b1 b2;go_wp2_with fail;go_roundw
     case rel=>exact ⟨k+1,by omega,by go_num,t.o,u.o⟩
     case measure=>exact ar (by omega)
    ·have ay:¬ ((k:Int)<4):=by omega
     have HK:Hid (k=4):=aa (by omega);have t:Hid (Blk wr M 103 (cellsU (mac x y (4 * (i+1))))):=aa (by rw [show 4 * (i+1)=4 * i+k by rw [HK.o];omega];exact f);have u:=aa g;clear f g;go_wp2_with fail;go_roundw
     case rel=>exact ⟨i+1,by omega,by go_num,t.o,u.o⟩
     case measure=>exact ar (by omega)
  ·have aA:¬ ((i:Int)<4):=by omega
   have HI:Hid (i=4):=aa (by omega);have t:Hid (Blk wr M 103 (cellsU (car (mac x y 16) 0).1)):=aa (by rw [HI.o] at f;exact f);have u:=aa g;clear f g;go_wp2_with fail;go_loopw [12,11] (fun (vj:Value) (vc:Value) (wr:World)=>∃(j:Nat),j≤8∧vj=.int .i64 j∧vc=.int .u64 ((car (mac x y 16) j).2:Nat)∧Blk wr M 103 (cellsU (car (mac x y 16) j).1)∧Below M w wr) (fun (vi:Value) (_:Value) (_:World)=>8 - (intOf vi).toNat)
   case atStart=>exact ⟨0,by omega,rfl,rfl,t.o,u.o⟩
   case round=>
    obtain ⟨j,hj,rfl,rfl,f,g⟩:=hrel;by_cases hlt2:j<8
    ·have aB:(j:Int)<8:=by omega
     have aw:(0:Int)≤(j:Int):=by omega
     obtain ⟨o1,o2,o3⟩:=Y.o j;have s:Hid (car (mac x y 16) (j+1)=((car (mac x y 16) j).1.set j (((car (mac x y 16) j).1.getD j 0+(car (mac x y 16) j).2) % 65536),((car (mac x y 16) j).1.getD j 0+(car (mac x y 16) j).2) / 65536)):=aa rfl;obtain ⟨CN,hCN⟩:∃CN,car (mac x y 16) (j+1)=CN:=⟨_,rfl⟩;have ac:=aa hCN;rw [hCN] at s;clear hCN;obtain ⟨CJ,hCJ⟩:∃CJ,car (mac x y 16) j=CJ:=⟨_,rfl⟩;rw [hCJ] at s o1 o2 o3 f ⊢;clear hCJ;obtain ⟨L,c⟩:=CJ;dsimp only at o1 o2 o3 s f ⊢;have c0:wr.cell? ⟨M,j,none⟩=some (.int .u64 (L.getD j 0:Nat)):=(f.c j).trans (jm _ _ (by omega));have f0:wr.frozen? ⟨M,j,none⟩=false:=f.free j;have R:L.getD j 0≤68717379600:=by
      rw [Ah,Ab (by omega)];exact o2 _ (Ag (show j<L.length by omega))
     obtain ⟨v,A⟩:∃v,L.getD j 0=v:=⟨_,rfl⟩;rw [A] at c0 R s;have m2:=vC R o3;have a1:=yu (v+c) (by omega);have Q:=aa f;have I:=aa g;clear f g A o1 o2;have aj:Hid (Blk ((wr.setCell ⟨M,j,none⟩ (.int .u64 ((v:Int)+(c:Int)))).setCell ⟨M,j,none⟩ (.int .u64 (bits BinOp.and IntKind.u64 ((v:Int)+(c:Int)) 65535))) M 103 (cellsU CN.1)):=aa (by
      rw [show ((v:Int)+(c:Int))=((v+c:Nat):Int) by omega,a1];have q:=(Q.o.set j (.int .u64 ((v+c:Nat):Int))).set j (.int .u64 (((v+c) % 65536:Nat):Int));rw [ec,ec,List.set_set] at q;rw [s.o];exact q)
     have ag:Hid (((v:Int)+(c:Int)) / 65536=(CN.2:Int)):=aa (by rw [s.o];dsimp only;omega);have ah:Hid (Below M w ((wr.setCell ⟨M,j,none⟩ (.int .u64 ((v:Int)+(c:Int)))).setCell ⟨M,j,none⟩ (.int .u64 (bits BinOp.and IntKind.u64 ((v:Int)+(c:Int)) 65535)))):=aa ((I.o.setCell (p:=⟨M,j,none⟩) (zY _) _).setCell (p:=⟨M,j,none⟩) (zY _) _);go_wp2_with fail;exact ⟨⟨j+1,by omega,by go_num,by rw [ag.o,ac.o],by rw [ac.o];exact aj.o,ah.o⟩,ar hlt2⟩
    ·have az:¬ ((j:Int)<8):=by omega
     have HJ:Hid (j=8):=aa (by omega);obtain ⟨d0,d1,d2,d3,d4,d5,d6,d7,E,B,hn,hh⟩:=F.o;rw [HJ.o,E] at f;obtain ⟨q0,q1,q2,q3,q4,q5,q6,q7⟩:wr.cell? ⟨M,0,none⟩=some (.int .u64 (d0:Int))∧wr.cell? ⟨M,1,none⟩=some (.int .u64 (d1:Int))∧wr.cell? ⟨M,2,none⟩=some (.int .u64 (d2:Int))∧wr.cell? ⟨M,3,none⟩=some (.int .u64 (d3:Int))∧wr.cell? ⟨M,4,none⟩=some (.int .u64 (d4:Int))∧wr.cell? ⟨M,5,none⟩=some (.int .u64 (d5:Int))∧wr.cell? ⟨M,6,none⟩=some (.int .u64 (d6:Int))∧wr.cell? ⟨M,7,none⟩=some (.int .u64 (d7:Int)):=⟨f.c 0,f.c 1,f.c 2,f.c 3,f.c 4,f.c 5,f.c 6,f.c 7⟩;have h:=aa g;clear f g E;obtain ⟨P,hP⟩:∃P,x * y=P:=⟨_,rfl⟩;rw [hP] at hn hh;have HH:=aa hh;have Z:=aa hn;have av:=aa B;have K:=aa hP;clear hn hh hP;clear HX HY F ad V af Y;have W:P≤85070591730234615865843651857942052864:=by
      rw [←K.o];exact yx ae U
     rw [J.o.1,J.o.2,K.o] at C;have G:=aa W;clear W;obtain ⟨da,am⟩:∃da,decide (a<0)=da:=⟨_,rfl⟩;obtain ⟨db,hdb⟩:∃db,decide (b<0)=db:=⟨_,rfl⟩;have D:=vD am hdb C.o;have m:=aa (vE Z.o HH.o G.o B);clear C Z HH G al an J K HJ HI;obtain ⟨N,hN⟩:∃N:Int,(d0:Int)+d1 * 65536+d2 * 4294967296+d3 * 281474976710656=N:=⟨_,rfl⟩;obtain ⟨S,hS⟩:∃S:Int,(d4:Int)+d5+d6+d7=S:=⟨_,rfl⟩;have ax:=qY hN B;rw [hN,hS] at m;by_cases hs:da=db
     ·subst hs;have l:=aa (m.o.1 ab (D.1 rfl));clear D m;by_cases q:(0:Int)<S
      ·have n:=aa (l.o.1 q);clear l;go_wp2_with fail;go_ret2;exact ⟨aQ n.o,h.o⟩
      by_cases h2:(9223372036854775808:Int)<N
      ·have n:=aa (l.o.2.1 q h2);clear l;go_wp2_with fail;go_ret2;exact ⟨aQ n.o,h.o⟩
      by_cases h3:N=(9223372036854775808:Int)
      ·have n:=aa (l.o.2.2.1 q h3);clear l;go_wp2_with fail;go_ret2;exact ⟨aQ n.o,h.o⟩
      ·have n:=aa (l.o.2.2.2 q h2 h3);have hi:N≤9223372036854775807:=by omega
       clear l;go_wp2_with fail;go_ret2;exact ⟨aQ n.o,h.o⟩
     ·obtain rfl:da=!db:=by cases da <;> cases db <;> simp_all
      have l:=aa (m.o.2 ab (D.2 hs));have aq:((!db)==db)=false:=by cases db <;> rfl
      clear D m hs;by_cases q:(0:Int)<S
      ·have n:=aa (l.o.1 q);clear l;go_wp2_with fail;go_ret2;exact ⟨aQ n.o,h.o⟩
      by_cases h2:(9223372036854775808:Int)<N
      ·have n:=aa (l.o.2.1 q h2);clear l;go_wp2_with fail;go_ret2;exact ⟨aQ n.o,h.o⟩
      by_cases h3:N=(9223372036854775808:Int)
      ·have n:=aa (l.o.2.2.1 q h3);clear l;go_wp2_with fail;go_ret2;exact ⟨aQ n.o,h.o⟩
      by_cases h4:(0:Int)<N
      ·have n:=aa (l.o.2.2.2.1 q h2 h3 h4);clear l;go_wp2_with fail;go_ret2;exact ⟨aQ n.o,h.o⟩
      ·have n:=aa (l.o.2.2.2.2 q h2 h3 h4);have hi:N≤9223372036854775807:=by omega
       clear l;go_wp2_with fail;go_ret2;exact ⟨aQ n.o,h.o⟩
def eRow (t:Tr):List Value:=[.int .i64 t.id,.int .i64 t.byr,.int .i64 t.slr,.int .i64 t.sec,.int .i64 t.qty,.int .i64 t.prc,.int .i64 0,.bool false]
theorem ii (t:Tr):(eRow t).length=8:=rfl
theorem vF (t:Tr):∀u∈eRow t,u.oneCell'=true:=by intro u a;simp [eRow] at a;rcases a with rfl | rfl | rfl | rfl | rfl | rfl | rfl | rfl <;> rfl
theorem oO {W:World}{b o:Nat}{t:Tr}(h:∀j u,(eRow t)[j]?=some u→W.cell? ⟨b,o+j,none⟩=some u):W.cell? ⟨b,o,none⟩=some (.int .i64 t.id)∧W.cell? ⟨b,o+3,none⟩=some (.int .i64 t.sec)∧W.cell? ⟨b,o+4,none⟩=some (.int .i64 t.qty)∧W.cell? ⟨b,o+6,none⟩=some (.int .i64 0)∧W.cell? ⟨b,o+7,none⟩=some (.bool false):=
 ⟨h 0 _ rfl,h 3 _ rfl,h 4 _ rfl,h 6 _ rfl,h 7 _ rfl⟩
abbrev refC (vm vs vc:Value)(C:Cfg)(vl:Value):Array Value:=#[vm,vs,vc,.int .i64 C.line,.int .i64 C.capital,.int .i64 C.lead,.int .i64 C.trades,.int .i64 C.bids,vl,.int .i64 0]
structure QAt (w:World)(B g:Nat)(vm vs vc vl:Value)(C:Cfg)(T:List Tr):Prop where
 blk:Blk w g 55 (refC vm vs vc C vl)
 cfg:CSl w vm vs vc C
 rows:w.ownsRow B 115 8 vl T.length (flat eRow T)
 l1:B≤g
theorem QAt.keep {w w':World}{B g:Nat}{vm vs vc vl:Value}{C:Cfg}{T:List Tr}(h:QAt w B g vm vs vc vl C T)(c:Bw w w'):QAt w' B g vm vs vc vl C T:=⟨h.blk.keep c,h.cfg.keep c,ah h.rows c,h.l1⟩
theorem gY {w:World}{B g:Nat}{vm vs vc vl:Value}{C:Cfg}{T:List Tr}(h:QAt w B g vm vs vc vl C T)(k:Nat)(hk:k<T.length)(hn:T.length≤100000):Calls Tryz.prog 51 #[ptr g,.int .i64 k] w fun e w'=>e=.returned (.bool true)∧∃m,w'=w.drewN m:=by
 obtain ⟨a,l,rfl,n,p,i,d⟩:=Sl.own ii h.rows;obtain ⟨b,off,rfl,hbb,hcl⟩:=d (by omega);obtain ⟨r0,r3,r4,r6,r7⟩:=oO (hcl k hk);have q:=h.blk.c 8;have o:=h.blk.c 9;have f:(0:Int)≤(k:Int):=by omega
 have j:(k:Int)<(T.length:Int):=by omega
 unfold maxLen at i;clear h d hcl n;go_enter Tryz.func51,Tryz.ntmps51;go_wp2_with fail;go_quiet (fail)
 go_wp2_with fail;go_ret;exact ⟨rfl,nq,rfl⟩
def usedM (T:List Tr)(id:Int):Bool:=T.any fun t=>t.id==id
theorem qZ {w:World}{B g:Nat}{vm vs vc vl:Value}{C:Cfg}{T:List Tr}(h:QAt w B g vm vs vc vl C T)(hn:T.length≤100000)(id:Int):Calls Tryz.prog 45 #[ptr g,.int .i64 id] w fun e w'=>e=.returned (.bool (usedM T id))∧Bw w w':=by
 obtain ⟨a,K,rfl,G,O,E,z⟩:=Sl.own ii h.rows;have M:=aa z;have L:=h.blk.c 8;have u:=h.blk.lt;unfold maxLen at E;obtain ⟨r,hr⟩:∃r,usedM T id=r:=⟨_,rfl⟩;rw [hr];have y:=aa hr;clear h z G hr;go_enter Tryz.func45,Tryz.ntmps45;go_wp2_with fail;go_loopw [5] (fun vi wr=>∃(k:Nat),k≤T.length∧vi=.int .i64 k∧Bw w wr∧∀j (hj:j<T.length),j<k→(T[j].id==id)=false) (fun vi _=>T.length - (intOf vi).toNat)
 case atStart=>exact ⟨0,Af _,rfl,zZ _ _,fun j hj h=>absurd h (Nat.not_lt_zero _)⟩
 case round=>
  obtain ⟨k,N,rfl,f,i⟩:=hrel;have d:=aa f;have l:=aa i;have P:=(f.c (p:=⟨g,8,none⟩) u).trans L;clear f i;by_cases hlt:k<T.length
  ·obtain ⟨b,q,rfl,n,m⟩:=M.o (by omega);obtain ⟨r0,r3,r4,r6,r7⟩:=oO (m k hlt);have Q:=(d.o.c (p:=⟨b,q+k * 8,none⟩) n).trans r0;have A:(0:Int)≤(k:Int):=by omega
   have I:(k:Int)<(T.length:Int):=by omega
   have D:Hid ((T[k].id==id)=true→usedM T id=true):=aa (fun h=>At.2 ⟨_,Ag hlt,h⟩);have F:Hid ((T[k].id==id)=false→∀j (hj:j<T.length),j<k+1→(T[j].id==id)=false):=aa (fun h j hj hjk=>by
    by_cases e:j=k
    ·subst e;exact h
    ·exact l.o j hj (by omega))
   clear m r0 r3 r4 r6 r7;generalize T[k]=t at *;cases hb:(t.id==id) with
   | true=>
    obtain rfl:r=true:=by rw [←y.o];exact D.o hb
    go_wp2_with fail;refine bodyPost_ret (v:=.bool true) (by simp [results,Tryz.results45,go_sem]) rfl ?_;exact ⟨rfl,d.o⟩
   | false=>
    have s:=aa (F.o hb);go_wp2_with fail;go_roundw
    case rel=>exact ⟨k+1,by omega,by go_num,d.o,s.o⟩
    case measure=>exact ar (by omega)
  ·obtain rfl:k=T.length:=by omega
   have J:¬ ((T.length:Int)<(T.length:Int)):=by omega
   obtain rfl:r=false:=by
    rw [←y.o];unfold usedM;rw [Bj];intro x H;obtain ⟨j,hj,rfl⟩:=Ao H;simpa using l.o j hj hj
   go_wp2_with fail;refine bodyPost_ret (v:=.bool false) (by simp [results,Tryz.results45,go_sem]) rfl ?_;exact ⟨rfl,d.o⟩
theorem ij {w:World}{B g:Nat}{vm vs vc vl:Value}{C:Cfg}{T:List Tr}(h:QAt w B g vm vs vc vl C T)(hn:T.length≤100000):Calls Tryz.prog 46 #[ptr g] w fun e w'=>e=.returned (.int .i64 T.length)∧Bw w w':=by
 obtain ⟨a,z,rfl,t,G,s,q⟩:=Sl.own ii h.rows;have D:=aa q;have A:=h.blk.c 8;have u:=h.blk.c 9;have j:=h.blk.lt;unfold maxLen at s;clear h q t;go_enter Tryz.func46,Tryz.ntmps46;go_wp2_with fail;go_loopw [4,3] (fun vi vn wr=>∃(k:Nat),k≤T.length∧vi=.int .i64 k∧vn=.int .i64 k∧Bw w wr) (fun vi _ _=>T.length - (intOf vi).toNat)
 case atStart=>exact ⟨0,Af _,rfl,rfl,zZ _ _⟩
 case round=>
  obtain ⟨k,F,rfl,rfl,d⟩:=hrel;have f:=aa d;have H:=(d.c (p:=⟨g,8,none⟩) j).trans A;have E:=(d.c (p:=⟨g,9,none⟩) j).trans u;clear d;by_cases hlt:k<T.length
  ·obtain ⟨b,m,rfl,l,i⟩:=D.o (by omega);obtain ⟨r0,r3,r4,r6,r7⟩:=oO (i k hlt);have I:=(f.o.c (p:=⟨b,m+k * 8+6,none⟩) l).trans r6;have r:(0:Int)≤(k:Int):=by omega
   have x:(k:Int)<(T.length:Int):=by omega
   clear i r0 r3 r4 r6 r7;go_wp2_with fail;go_quiet (fail)
   have n:=aa (aj f.o nq);go_wp2_with fail;go_roundw
   case rel=>exact ⟨k+1,by omega,by go_num,by go_num,n.o⟩
   case measure=>exact ar (by omega)
  ·obtain rfl:k=T.length:=by omega
   have y:¬ ((T.length:Int)<(T.length:Int)):=by omega
   go_wp2_with fail;refine bodyPost_ret (v:=.int .i64 T.length) (by simp [results,Tryz.results46,go_sem]) rfl ?_;exact ⟨rfl,f.o⟩
theorem ed (t:Tr)(T:List Tr)(a:Int):unL (t :: T) a=(if t.sec=a then t.qty else 0)+unL T a:=by simp [unL]
theorem nW (T:List Tr)(a:Int)(k:Nat)(h:k<T.length):unL (T.take (k+1)) a=unL (T.take k) a+if T[k].sec=a then T[k].qty else 0:=by
 rw [z9 h];unfold unL;rw [AI,List.sum_append];simp only [Am,List.map_nil,AB,List.sum_nil,Int.add_zero]
theorem vG (a:Int):∀(T:List Tr),(∀t∈T,0≤t.qty)→∀k,0≤unL (T.take k) a∧unL (T.take k) a≤unL T a:=by
 intro T;induction T with
 | nil=>intro _ k;simp [unL]
 | cons t T ih=>
  intro h k;have b:=ih (fun x hx=>h x (AG _ hx));have f:=h t (As ..);cases k with
  | zero=>
   have c:=b T.length;rw [Ap] at c;rw [List.take_zero,ed];have d:unL [] a=0:=rfl;rw [d];split <;> omega
  | succ k=>
   have c:=b k;rw [List.take_succ_cons,ed,ed];omega
theorem nX {w:World}{B g:Nat}{vm vs vc vl:Value}{C:Cfg}{T:List Tr}(h:QAt w B g vm vs vc vl C T)(hn:T.length≤100000)(a:Int)(hq:∀t∈T,0≤t.qty)(hu:unL T a≤4611686018427387904):Calls Tryz.prog 49 #[ptr g,.int .i64 a] w fun e w'=>e=.returned (.int .i64 (unL T a))∧Bw w w':=by
 have F:=aa h;obtain ⟨Z,A,rfl,M,Y,K,I⟩:=Sl.own ii h.rows;have Q:=aa I;have D:=h.blk.c 8;have u:=h.blk.lt;unfold maxLen at K;have G:=aa (vG a T hq);have R:=aa (nW T a);have U:Hid (unL (T.take T.length) a=unL T a):=aa (by rw [Ap]);have z:=aa hu;clear h I M hq hu;go_enter Tryz.func49,Tryz.ntmps49;go_wp2_with fail;go_loopw [6,5] (fun vi vn wr=>∃(k:Nat),k≤T.length∧vi=.int .i64 k∧vn=.int .i64 (unL (T.take k) a)∧Bw w wr) (fun vi _ _=>T.length - (intOf vi).toNat)
 case atStart=>exact ⟨0,Af _,rfl,by rw [List.take_zero];rfl,zZ _ _⟩
 case round=>
  obtain ⟨k,X,rfl,rfl,j⟩:=hrel;have f:=aa j;have q8:=(j.c (p:=⟨g,8,none⟩) u).trans D;clear j;by_cases hlt:k<T.length
  ·obtain ⟨b,n,rfl,r,s⟩:=Q.o (by omega);obtain ⟨r0,r3,r4,r6,r7⟩:=oO (s k hlt);have J:(0:Int)≤(k:Int):=by omega
   have N:(k:Int)<(T.length:Int):=by omega
   have i:=aa (R.o k hlt);have x:=G.o k;have l:=G.o (k+1);have y:=z.o;have H:=aa (fun W (hq:QAt W B g vm vs vc (.slice (some ⟨b,n,none⟩) T.length A) C T)=>gY hq k hlt hn);rw [i.o] at l;by_cases hs:T[k].sec=a
   ·rw [if_pos hs] at i l;have P:wrap64 (unL (T.take k) a+T[k].qty)=unL (T.take k) a+T[k].qty:=by unfold wrap64;omega
    have d:(T[k].sec==a)=true:=by simpa using hs
    clear s x l y hs;generalize T[k]=t at *;go_wp2_with fail;refine (H.o _ (F.o.keep f.o)).mono ?_;rintro e L ⟨rfl,m,rfl⟩;have q:=aa (aj f.o m);have E:=(q.o.c (p:=⟨g,8,none⟩) u).trans D;have S:=(q.o.c (p:=⟨b,n+k * 8+3,none⟩) r).trans r3;have V:=(q.o.c (p:=⟨b,n+k * 8+4,none⟩) r).trans r4;generalize wr.drewN m=W3 at *;go_wp2_with fail;go_roundw
    case rel=>exact ⟨k+1,by omega,by go_num,by rw [i.o,P],q.o⟩
    case measure=>exact ar (by omega)
   ·rw [if_neg hs,Int.add_zero] at i;have d:(T[k].sec==a)=false:=by simpa using hs
    clear s x l y hs;generalize T[k]=t at *;go_wp2_with fail;refine (H.o _ (F.o.keep f.o)).mono ?_;rintro e L ⟨rfl,m,rfl⟩;have q:=aa (aj f.o m);have E:=(q.o.c (p:=⟨g,8,none⟩) u).trans D;have S:=(q.o.c (p:=⟨b,n+k * 8+3,none⟩) r).trans r3;generalize wr.drewN m=W3 at *;go_wp2_with fail;go_roundw
    case rel=>exact ⟨k+1,by omega,by go_num,by rw [i.o],q.o⟩
    case measure=>exact ar (by omega)
  ·obtain rfl:k=T.length:=by omega
   have O:¬ ((T.length:Int)<(T.length:Int)):=by omega
   rw [U.o];go_wp2_with fail;refine bodyPost_ret (v:=.int .i64 (unL T a)) (by simp [results,Tryz.results49,go_sem]) rfl ?_;exact ⟨rfl,f.o⟩
theorem aP (n a b:Int)(w:World):Calls Tryz.prog 57 #[.int .i64 n,.int .i64 a,.int .i64 b] w fun e w'=>e=.returned (.bool (inB n a b))∧w'=w:=by
 have e:inB n a b=(decide (a≤n)&&decide (n≤b)):=by unfold inB;simp
 by_cases h:a≤n
 ·have c:=dT h;have d:Hid (inB n a b=decide (n≤b)):=aa (by rw [e,c];rfl);clear e h;go_enter Tryz.func57,Tryz.ntmps57;go_wp2_with fail;go_ret;exact ⟨by rw [d.o];rfl,rfl⟩
 ·have c:=dF h;have d:Hid (inB n a b=false):=aa (by rw [e,c];rfl);clear e h;go_enter Tryz.func57,Tryz.ntmps57;go_wp2_with fail;go_ret;exact ⟨by rw [d.o];rfl,rfl⟩
def WrongPost (C:Cfg)(w:World)(e:Ending)(w':World):Prop:=∃s:ByteArray,e=.returned (.string s)∧(s=⟨#[]⟩↔Valid C)∧Bw w w'
theorem bQ {n a b:Int}(h:inB n a b=false):¬ (a≤n∧n≤b):=fun h2=>by rw [aX h2] at h;exact absurd h (by simp)
theorem ce {n a b:Int}(h:inB n a b=true):a≤n∧n≤b:=by unfold inB at h;simpa using h
theorem dH {n a b:Nat}(h:inB (n:Int) (a:Int) (b:Int)=true):a≤n∧n≤b:=by have:=ce h;omega
theorem vH (n a b:Int)(w:World):Calls Tryz.prog 57 #[.int .i64 n,.int .i64 a,.int .i64 b] w fun e w'=>e=.returned (.bool (inB n a b))∧∃m,w'=w.drewN m:=(aP n a b w).mono fun _ _ ⟨h1,h2⟩=>⟨h1,0,h2⟩
theorem nY (vm vs vc:Value)(C:Cfg)(w:World)(hc:CSl w vm vs vc C):Calls Tryz.prog 26 #[cfgV vm vs vc C] w (WrongPost C w):=by
 obtain ⟨B,D⟩:∃B,w.alloc (.cells (cfgC vm vs vc C) 26)=B:=⟨_,rfl⟩;have c1:Bw w B:=by rw [←D];exact Bn
 have i:Hid (Blk B w.heap.size 26 (cfgC vm vs vc C)):=aa (by rw [←D];exact Blk.new w 26 _);have HC:=aa (hc.keep c1);have ad:=aa D;obtain ⟨U,km,rfl,aq,ax,au,hm⟩:=HC.o.m;obtain ⟨as',ks,rfl,hs0,hs1,hs2,hs⟩:=HC.o.s;obtain ⟨ac,kc,rfl,hc0,hc1,hc2,hcc⟩:=HC.o.c;obtain ⟨p0,p1,p2,p3,p4,p5,p6,p7⟩:=s8 i.o;have HP:Hid (∀s w',(s=⟨#[]⟩↔Valid C)→Bw B w'→WrongPost C w (.returned (.string s)) w'):=aa (fun s w' h hb=>⟨s,rfl,h,c1.trans (hb.mono c1.size)⟩);have x0:(w.alloc (.cells #[.slice U C.mem.length km,.slice as' C.secs.length ks,.slice ac C.cyc.length kc,.int .i64 C.line,.int .i64 C.capital,.int .i64 C.lead,.int .i64 C.trades,.int .i64 C.bids] 26)).cell? ⟨w.heap.size,0,none⟩=some (.slice U C.mem.length km):=by rw [show w.alloc (.cells #[.slice U C.mem.length km,.slice as' C.secs.length ks,.slice ac C.cyc.length kc,.int .i64 C.line,.int .i64 C.capital,.int .i64 C.lead,.int .i64 C.trades,.int .i64 C.bids] 26)=B from D];exact p0
 have HM:=aa hm;have HS:=aa hs;have aw:=aa hcc;clear D hc aq hs0 hc0 hm hs hcc;unfold maxLen at au hs2 hc2;have g:Hid (¬ Valid C→∀s:ByteArray,s≠⟨#[]⟩→∀w',Bw B w'→WrongPost C w (.returned (.string s)) w'):=aa (fun h s hs w' hb=>HP.o s w' (iff_of_false hs h) hb);go_enter Tryz.func26,Tryz.ntmps26;cases h1:inB (C.mem.length:Int) 2 16 with
 | false=>
  have J:=aa h1;go_wp2_with (go_at_call 57;refine (aP _ _ _ _).mono ?_;rintro e y ⟨rfl,rfl⟩)
  rw [show w.alloc (.cells #[.slice U C.mem.length km,.slice as' C.secs.length ks,.slice ac C.cyc.length kc,.int .i64 C.line,.int .i64 C.capital,.int .i64 C.lead,.int .i64 C.trades,.int .i64 C.bids] 26)=B from ad.o];refine bodyPost_ret (v:=.string ⟨#[109,101,109,98,101,114,115]⟩) (by simp [results,Tryz.results26,go_sem]) rfl ?_;exact g.o (fun hv=>bQ J.o ⟨Int.ofNat_le.2 hv.m1,Int.ofNat_le.2 hv.m2⟩) _ (by intro h;have:=congrArg (fun b:ByteArray=>b.data.size) h;simp at this) _ (zZ _ _)
 | true=>
  have J:=aa h1;go_wp2_with (go_at_call 57;refine (aP _ _ _ _).mono ?_;rintro e y ⟨rfl,rfl⟩)
  rw [show w.alloc (.cells #[.slice U C.mem.length km,.slice as' C.secs.length ks,.slice ac C.cyc.length kc,.int .i64 C.line,.int .i64 C.capital,.int .i64 C.lead,.int .i64 C.trades,.int .i64 C.bids] 26)=B from ad.o];go_loopw [3] (fun vi wr=>∃(k:Nat),k≤C.mem.length∧vi=.int .i64 k∧Bw B wr∧∀j (t:j<C.mem.length),j<k→(0≤C.mem[j].coll∧C.mem[j].coll≤1099511627776)∧(0≤C.mem[j].fund∧C.mem[j].fund≤1099511627776)) (fun vi _=>C.mem.length - (intOf vi).toNat)
  case atStart=>exact ⟨0,Af _,rfl,(zZ _ _),fun j t h=>absurd h (Nat.not_lt_zero _)⟩
  case round=>
   obtain ⟨k,hk,rfl,d,E⟩:=hrel;have u:=aa E;have f:=aa d;have ab:=(d.c (p:=⟨w.heap.size,0,none⟩) i.o.lt).trans p0;have af:=(d.c (p:=⟨w.heap.size,1,none⟩) i.o.lt).trans p1;have W:=(d.c (p:=⟨w.heap.size,2,none⟩) i.o.lt).trans p2;have an:=(d.c (p:=⟨w.heap.size,3,none⟩) i.o.lt).trans p3;have ak:=(d.c (p:=⟨w.heap.size,4,none⟩) i.o.lt).trans p4;have ae:=(d.c (p:=⟨w.heap.size,5,none⟩) i.o.lt).trans p5;have Z:=(d.c (p:=⟨w.heap.size,6,none⟩) i.o.lt).trans p6;have ah:=(d.c (p:=⟨w.heap.size,7,none⟩) i.o.lt).trans p7;clear d E;by_cases hlt:k<C.mem.length
   ·obtain ⟨b,n,rfl,l,r⟩:=HM.o (by omega);obtain ⟨r0,r1⟩:=rz (r k hlt);have q0:=(f.o.c (p:=⟨b,n+k * 2,none⟩) l).trans r0;have q1:=(f.o.c (p:=⟨b,n+k * 2+1,none⟩) l).trans r1;have ai:(0:Int)≤(k:Int):=by omega
    have X:(k:Int)<(C.mem.length:Int):=by omega
    have G:=aa (Ag hlt:C.mem[k]∈C.mem);have T:Hid ((0≤C.mem[k].coll∧C.mem[k].coll≤1099511627776)∧(0≤C.mem[k].fund∧C.mem[k].fund≤1099511627776)→∀j (t:j<C.mem.length),j<k+1→(0≤C.mem[j].coll∧C.mem[j].coll≤1099511627776)∧(0≤C.mem[j].fund∧C.mem[j].fund≤1099511627776)):=aa (fun h j t hjk=>by
     by_cases e:j=k
     ·subst e;exact h
     ·exact u.o j t (by omega))
    clear r r0 r1;generalize C.mem[k]=x at *;cases g1:inB x.coll 0 1099511627776 with
    | false=>
     have O:=aa g1;go_wp2_with (go_at_call 57;refine (aP _ _ _ _).mono ?_;rintro e y ⟨rfl,rfl⟩)
     refine bodyPost_ret (v:=.string ⟨#[109,101,109,98,101,114,115]⟩) (by simp [results,Tryz.results26,go_sem]) rfl ?_;exact g.o (fun hv=>bQ O.o (hv.mem _ G.o).1) _ (by intro h;have:=congrArg (fun b:ByteArray=>b.data.size) h;simp at this) _ f.o
    | true=>
     cases g2:inB x.fund 0 1099511627776 with
     | false=>
      have O:=aa g2;go_wp2_with (go_at_call 57;refine (aP _ _ _ _).mono ?_;rintro e y ⟨rfl,rfl⟩)
      refine bodyPost_ret (v:=.string ⟨#[109,101,109,98,101,114,115]⟩) (by simp [results,Tryz.results26,go_sem]) rfl ?_;exact g.o (fun hv=>bQ O.o (hv.mem _ G.o).2) _ (by intro h;have:=congrArg (fun b:ByteArray=>b.data.size) h;simp at this) _ f.o
     | true=>
      have M:=aa (T.o ⟨ce g1,ce g2⟩);go_wp2_with (go_at_call 57;refine (aP _ _ _ _).mono ?_;rintro e y ⟨rfl,rfl⟩)
      go_roundw
      case rel=>exact ⟨k+1,by omega,by go_num,f.o,M.o⟩
      case measure=>exact ar (by omega)
   ·obtain rfl:k=C.mem.length:=by omega
    have al:¬ ((C.mem.length:Int)<(C.mem.length:Int)):=by omega
    have ao:Hid (∀x∈C.mem,(0≤x.coll∧x.coll≤1099511627776)∧(0≤x.fund∧x.fund≤1099511627776)):=aa (fun x hx=>by
     obtain ⟨j,t,rfl⟩:=Ao hx;exact u.o j t t)
    clear u;cases L:inB (C.secs.length:Int) 1 8 with
    | false=>
     have H:=aa L;go_wp2_with (go_at_call 57;refine (aP _ _ _ _).mono ?_;rintro e y ⟨rfl,rfl⟩)
     refine bodyPost_ret (v:=.string ⟨#[115,101,99,115]⟩) (by simp [results,Tryz.results26,go_sem]) rfl ?_;exact g.o (fun hv=>bQ H.o ⟨Int.ofNat_le.2 hv.s1,Int.ofNat_le.2 hv.s2⟩) _ (by intro h;have:=congrArg (fun b:ByteArray=>b.data.size) h;simp at this) _ f.o
    | true=>
     have H:=aa L;go_wp2_with (go_at_call 57;refine (aP _ _ _ _).mono ?_;rintro e y ⟨rfl,rfl⟩)
     go_loopw [4] (fun vi wr=>∃(k:Nat),k≤C.secs.length∧vi=.int .i64 k∧Bw B wr∧∀j (t:j<C.secs.length),j<k→(1≤C.secs[j].prc∧C.secs[j].prc≤1048576)∧(C.secs[j].prc≤C.secs[j].cap∧C.secs[j].cap≤1048576)) (fun vi _=>C.secs.length - (intOf vi).toNat)
     case atStart=>exact ⟨0,Af _,rfl,f.o,fun j t h=>absurd h (Nat.not_lt_zero _)⟩
     case round=>
      obtain ⟨k,hk,rfl,d,E⟩:=hrel;have u:=aa E;have f:=aa d;have ab:=(d.c (p:=⟨w.heap.size,0,none⟩) i.o.lt).trans p0;have af:=(d.c (p:=⟨w.heap.size,1,none⟩) i.o.lt).trans p1;have W:=(d.c (p:=⟨w.heap.size,2,none⟩) i.o.lt).trans p2;have an:=(d.c (p:=⟨w.heap.size,3,none⟩) i.o.lt).trans p3;have ak:=(d.c (p:=⟨w.heap.size,4,none⟩) i.o.lt).trans p4;have ae:=(d.c (p:=⟨w.heap.size,5,none⟩) i.o.lt).trans p5;have Z:=(d.c (p:=⟨w.heap.size,6,none⟩) i.o.lt).trans p6;have ah:=(d.c (p:=⟨w.heap.size,7,none⟩) i.o.lt).trans p7;clear d E;by_cases hlt:k<C.secs.length
      ·obtain ⟨b,n,rfl,l,r⟩:=HS.o (by omega);obtain ⟨r0,r1⟩:=atSc (r k hlt);have q0:=(f.o.c (p:=⟨b,n+k * 2,none⟩) l).trans r0;have q1:=(f.o.c (p:=⟨b,n+k * 2+1,none⟩) l).trans r1;have ai:(0:Int)≤(k:Int):=by omega
       have X:(k:Int)<(C.secs.length:Int):=by omega
       have G:=aa (Ag hlt:C.secs[k]∈C.secs);have T:Hid ((1≤C.secs[k].prc∧C.secs[k].prc≤1048576)∧(C.secs[k].prc≤C.secs[k].cap∧C.secs[k].cap≤1048576)→∀j (t:j<C.secs.length),j<k+1→(1≤C.secs[j].prc∧C.secs[j].prc≤1048576)∧(C.secs[j].prc≤C.secs[j].cap∧C.secs[j].cap≤1048576)):=aa (fun h j t hjk=>by
        by_cases e:j=k
        ·subst e;exact h
        ·exact u.o j t (by omega))
       clear r r0 r1;generalize C.secs[k]=x at *;cases g1:inB x.prc 1 1048576 with
       | false=>
        have O:=aa g1;go_wp2_with fail;go_quiet (first | (go_at_call 57;refine Calls.quiet_of (vH _ _ _ _)))
        go_wp2_with fail;refine bodyPost_ret (v:=.string ⟨#[115,101,99,115]⟩) (by simp [results,Tryz.results26,go_sem]) rfl ?_;exact g.o (fun hv=>bQ O.o (hv.secs _ G.o).1) _ (by intro h;have:=congrArg (fun b:ByteArray=>b.data.size) h;simp at this) _ (aj f.o _)
       | true=>
        cases g2:inB x.cap x.prc 1048576 with
        | false=>
         have O:=aa g2;go_wp2_with fail;go_quiet (first | (go_at_call 57;refine Calls.quiet_of (vH _ _ _ _)))
         go_wp2_with fail;refine bodyPost_ret (v:=.string ⟨#[115,101,99,115]⟩) (by simp [results,Tryz.results26,go_sem]) rfl ?_;exact g.o (fun hv=>bQ O.o (hv.secs _ G.o).2) _ (by intro h;have:=congrArg (fun b:ByteArray=>b.data.size) h;simp at this) _ (aj f.o _)
        | true=>
         have M:=aa (T.o ⟨ce g1,ce g2⟩);go_wp2_with fail;go_quiet (first | (go_at_call 57;refine Calls.quiet_of (vH _ _ _ _)))
         have V:=aa (aj f.o nq);go_wp2_with fail;go_roundw
         case rel=>exact ⟨k+1,by omega,by go_num,V.o,M.o⟩
         case measure=>exact ar (by omega)
      ·obtain rfl:k=C.secs.length:=by omega
       have al:¬ ((C.secs.length:Int)<(C.secs.length:Int)):=by omega
       have ap:Hid (∀x∈C.secs,(1≤x.prc∧x.prc≤1048576)∧(x.prc≤x.cap∧x.cap≤1048576)):=aa (fun x hx=>by
        obtain ⟨j,t,rfl⟩:=Ao hx;exact u.o j t t)
       clear u;cases h3:inB (C.cyc.length:Int) 1 4 with
       | false=>
        have I:=aa h3;go_wp2_with (go_at_call 57;refine (aP _ _ _ _).mono ?_;rintro e y ⟨rfl,rfl⟩)
        refine bodyPost_ret (v:=.string ⟨#[99,121,99,108,101,115]⟩) (by simp [results,Tryz.results26,go_sem]) rfl ?_;exact g.o (fun hv=>bQ I.o ⟨Int.ofNat_le.2 hv.c1,Int.ofNat_le.2 hv.c2⟩) _ (by intro h;have:=congrArg (fun b:ByteArray=>b.data.size) h;simp at this) _ f.o
       | true=>
        have I:=aa h3;go_wp2_with (go_at_call 57;refine (aP _ _ _ _).mono ?_;rintro e y ⟨rfl,rfl⟩)
        go_loopw [6,5] (fun vi va wr=>∃(k:Nat) (a:Int),k≤C.cyc.length∧vi=.int .i64 k∧va=.int .i64 a∧Bw B wr∧(CycOk 0 C.cyc↔CycOk a (C.cyc.drop k))) (fun vi _ _=>C.cyc.length - (intOf vi).toNat)
        case atStart=>exact ⟨0,0,Af _,rfl,rfl,f.o,Iff.rfl⟩
        case round=>
         obtain ⟨k,a,hk,rfl,rfl,d,ag⟩:=hrel;have F:=aa ag;have f:=aa d;have ab:=(d.c (p:=⟨w.heap.size,0,none⟩) i.o.lt).trans p0;have af:=(d.c (p:=⟨w.heap.size,1,none⟩) i.o.lt).trans p1;have W:=(d.c (p:=⟨w.heap.size,2,none⟩) i.o.lt).trans p2;have an:=(d.c (p:=⟨w.heap.size,3,none⟩) i.o.lt).trans p3;have ak:=(d.c (p:=⟨w.heap.size,4,none⟩) i.o.lt).trans p4;have ae:=(d.c (p:=⟨w.heap.size,5,none⟩) i.o.lt).trans p5;have Z:=(d.c (p:=⟨w.heap.size,6,none⟩) i.o.lt).trans p6;have ah:=(d.c (p:=⟨w.heap.size,7,none⟩) i.o.lt).trans p7;clear d ag;by_cases hlt:k<C.cyc.length
         ·obtain ⟨b,n,rfl,l,r⟩:=aw.o (by omega);obtain ⟨r0,r1,r2,r3⟩:=wi (r k hlt);have q0:=(f.o.c (p:=⟨b,n+k * 4,none⟩) l).trans r0;have q1:=(f.o.c (p:=⟨b,n+k * 4+1,none⟩) l).trans r1;have q2:=(f.o.c (p:=⟨b,n+k * 4+2,none⟩) l).trans r2;have q3:=(f.o.c (p:=⟨b,n+k * 4+3,none⟩) l).trans r3;have ai:(0:Int)≤(k:Int):=by omega
          have X:(k:Int)<(C.cyc.length:Int):=by omega
          have K:Hid (CycOk 0 C.cyc↔CycOk a (C.cyc[k] :: C.cyc.drop (k+1))):=aa (by rw [←Bi hlt];exact F.o);clear r r0 r1 r2 r3 F;generalize C.cyc[k]=x at *;have A:Hid (CycOk 0 C.cyc↔(a<x.cut∧x.cut<x.fund∧x.fund<x.buyin∧x.buyin<x.close∧x.close≤1000∧CycOk x.close (C.cyc.drop (k+1)))):=aa K.o;have z:=aa (f.o.alloc f.o.size (.cells (cCy x) 63));clear K;by_cases c1':x.cut≤a
          ·have d1:=dT c1';have q:=aa c1';clear c1';go_wp2_with fail;refine bodyPost_ret (v:=.string ⟨#[99,121,99,108,101,115]⟩) (by simp [results,Tryz.results26,go_sem]) rfl ?_;exact g.o (fun hv=>by have h:=A.o.1 hv.cyc;have L:a<x.cut∧x.cut<x.fund∧x.fund<x.buyin∧x.buyin<x.close∧x.close≤1000∧CycOk x.close (C.cyc.drop (k+1)):=h;have:=q.o;omega) _ (by intro h;have:=congrArg (fun b:ByteArray=>b.data.size) h;simp at this) _ z.o
          have d1:=dF c1';by_cases c2':x.fund≤x.cut
          ·have d2:=dT c2';have q:=aa c2';clear c1' c2';go_wp2_with fail;refine bodyPost_ret (v:=.string ⟨#[99,121,99,108,101,115]⟩) (by simp [results,Tryz.results26,go_sem]) rfl ?_;exact g.o (fun hv=>by have h:=A.o.1 hv.cyc;have L:a<x.cut∧x.cut<x.fund∧x.fund<x.buyin∧x.buyin<x.close∧x.close≤1000∧CycOk x.close (C.cyc.drop (k+1)):=h;have:=q.o;omega) _ (by intro h;have:=congrArg (fun b:ByteArray=>b.data.size) h;simp at this) _ z.o
          have d2:=dF c2';by_cases c3':x.buyin≤x.fund
          ·have d3:=dT c3';have q:=aa c3';clear c1' c2' c3';go_wp2_with fail;refine bodyPost_ret (v:=.string ⟨#[99,121,99,108,101,115]⟩) (by simp [results,Tryz.results26,go_sem]) rfl ?_;exact g.o (fun hv=>by have h:=A.o.1 hv.cyc;have L:a<x.cut∧x.cut<x.fund∧x.fund<x.buyin∧x.buyin<x.close∧x.close≤1000∧CycOk x.close (C.cyc.drop (k+1)):=h;have:=q.o;omega) _ (by intro h;have:=congrArg (fun b:ByteArray=>b.data.size) h;simp at this) _ z.o
          have d3:=dF c3';by_cases c4':x.close≤x.buyin
          ·have d4:=dT c4';have q:=aa c4';clear c1' c2' c3' c4';go_wp2_with fail;refine bodyPost_ret (v:=.string ⟨#[99,121,99,108,101,115]⟩) (by simp [results,Tryz.results26,go_sem]) rfl ?_;exact g.o (fun hv=>by have h:=A.o.1 hv.cyc;have L:a<x.cut∧x.cut<x.fund∧x.fund<x.buyin∧x.buyin<x.close∧x.close≤1000∧CycOk x.close (C.cyc.drop (k+1)):=h;have:=q.o;omega) _ (by intro h;have:=congrArg (fun b:ByteArray=>b.data.size) h;simp at this) _ z.o
          have d4:=dF c4';by_cases c5':1000<x.close
          ·have d5:=dT c5';have q:=aa c5';clear c1' c2' c3' c4' c5';go_wp2_with fail;refine bodyPost_ret (v:=.string ⟨#[99,121,99,108,101,115]⟩) (by simp [results,Tryz.results26,go_sem]) rfl ?_;exact g.o (fun hv=>by have h:=A.o.1 hv.cyc;have L:a<x.cut∧x.cut<x.fund∧x.fund<x.buyin∧x.buyin<x.close∧x.close≤1000∧CycOk x.close (C.cyc.drop (k+1)):=h;have:=q.o;omega) _ (by intro h;have:=congrArg (fun b:ByteArray=>b.data.size) h;simp at this) _ z.o
          have d5:=dF c5';have Y:Hid (CycOk 0 C.cyc↔CycOk x.close (C.cyc.drop (k+1))):=aa (A.o.trans ⟨fun h=>h.2.2.2.2.2,fun h=>⟨by omega,by omega,by omega,by omega,by omega,h⟩⟩);clear c1' c2' c3' c4' c5';go_wp2_with fail;go_roundw
          case rel=>exact ⟨k+1,x.close,by omega,by go_num,rfl,z.o,Y.o⟩
          case measure=>exact ar (by omega)
         ·obtain rfl:k=C.cyc.length:=by omega
          have al:¬ ((C.cyc.length:Int)<(C.cyc.length:Int)):=by omega
          have av:Hid (CycOk 0 C.cyc):=aa (F.o.2 (by rw [List.drop_length];trivial));cases h4:inB C.line 0 1099511627776 with
          | false=>
           have P:=aa h4;go_wp2_with (go_at_call 57;refine (aP _ _ _ _).mono ?_;rintro e y ⟨rfl,rfl⟩)
           refine bodyPost_ret (v:=.string ⟨#[108,105,110,101]⟩) (by simp [results,Tryz.results26,go_sem]) rfl ?_;exact g.o (fun hv=>bQ P.o hv.line) _ (by intro h;have:=congrArg (fun b:ByteArray=>b.data.size) h;simp at this) _ f.o
          | true=>
           have P:=aa h4;cases h5:inB C.capital 0 1099511627776 with
           | false=>
            have R:=aa h5;go_wp2_with (go_at_call 57;refine (aP _ _ _ _).mono ?_;rintro e y ⟨rfl,rfl⟩)
            refine bodyPost_ret (v:=.string ⟨#[99,97,112,105,116,97,108]⟩) (by simp [results,Tryz.results26,go_sem]) rfl ?_;exact g.o (fun hv=>bQ R.o hv.capital) _ (by intro h;have:=congrArg (fun b:ByteArray=>b.data.size) h;simp at this) _ f.o
           | true=>
            have R:=aa h5;cases h6:inB C.lead 0 1000 with
            | false=>
             have N:=aa h6;go_wp2_with (go_at_call 57;refine (aP _ _ _ _).mono ?_;rintro e y ⟨rfl,rfl⟩)
             refine bodyPost_ret (v:=.string ⟨#[108,101,97,100]⟩) (by simp [results,Tryz.results26,go_sem]) rfl ?_;exact g.o (fun hv=>bQ N.o hv.lead) _ (by intro h;have:=congrArg (fun b:ByteArray=>b.data.size) h;simp at this) _ f.o
            | true=>
             have N:=aa h6;cases h7:inB C.trades 1 64 with
             | false=>
              have Q:=aa h7;go_wp2_with (go_at_call 57;refine (aP _ _ _ _).mono ?_;rintro e y ⟨rfl,rfl⟩)
              refine bodyPost_ret (v:=.string ⟨#[116,114,97,100,101,115]⟩) (by simp [results,Tryz.results26,go_sem]) rfl ?_;exact g.o (fun hv=>bQ Q.o hv.trades) _ (by intro h;have:=congrArg (fun b:ByteArray=>b.data.size) h;simp at this) _ f.o
             | true=>
              have Q:=aa h7;cases h8:inB C.bids 1 32 with
              | false=>
               have S:=aa h8;go_wp2_with (go_at_call 57;refine (aP _ _ _ _).mono ?_;rintro e y ⟨rfl,rfl⟩)
               refine bodyPost_ret (v:=.string ⟨#[98,105,100,115]⟩) (by simp [results,Tryz.results26,go_sem]) rfl ?_;exact g.o (fun hv=>bQ S.o hv.bids) _ (by intro h;have:=congrArg (fun b:ByteArray=>b.data.size) h;simp at this) _ f.o
              | true=>
               have S:=aa h8;go_wp2_with (go_at_call 57;refine (aP _ _ _ _).mono ?_;rintro e y ⟨rfl,rfl⟩)
               refine bodyPost_ret (v:=.string ⟨#[]⟩) (by simp [results,Tryz.results26,go_sem]) rfl ?_;exact HP.o _ _ (iff_of_true rfl ⟨(dH J.o).1,(dH J.o).2,ao.o,(dH H.o).1,(dH H.o).2,ap.o,(dH I.o).1,(dH I.o).2,av.o,ce P.o,ce R.o,ce N.o,ce Q.o,ce S.o⟩) f.o
theorem zU (s:ByteArray):s.toList.isEmpty=true↔s=⟨#[]⟩:=by
 rw [Go.ByteArray.toList_eq];obtain ⟨d⟩:=s;constructor
 ·intro h;have b:d.toList=[]:=by simpa using h
  have a:d=#[]:=by simpa using b
  rw [a]
 ·intro h;injection h with h
  subst h;rfl
def fewM (C:Cfg):Prop:=C.mem.length≤20∧C.secs.length≤20∧C.cyc.length≤20
theorem yz (vm vs vc:Value)(C:Cfg)(w:World)(hc:CSl w vm vs vc C):Calls Tryz.prog 56 #[cfgV vm vs vc C] w fun e w'=>∃b,e=.returned (.bool b)∧(b=true↔fewM C)∧Bw w w':=by
 have f:Bw w (w.alloc (.cells (cfgC vm vs vc C) 26)):=Bn;obtain ⟨k,l,rfl,_,j,g,_⟩:=hc.m;obtain ⟨as',ks,rfl,_,hs1,hs2,_⟩:=hc.s;obtain ⟨ac,kc,rfl,_,hc1,hc2,_⟩:=hc.c;unfold maxLen at g hs2 hc2;have a:=aa f;clear hc;by_cases e1:C.mem.length≤20
 ·by_cases e2:C.secs.length≤20
  ·have h:=dT (show (C.mem.length:Int)≤20 by omega);have i:=dT (show (C.secs.length:Int)≤20 by omega);have d:Hid (decide ((C.cyc.length:Int)≤20)=true↔fewM C):=aa (by unfold fewM;rw [decide_eq_true_iff];omega);clear e1 e2 f;go_enter Tryz.func56,Tryz.ntmps56;go_wp2_with fail;refine bodyPost_ret (v:=.bool (decide ((C.cyc.length:Int)≤20))) (by simp [results,Tryz.results56,go_sem]) rfl ?_;exact ⟨_,rfl,d.o,a.o⟩
  ·have h:=dT (show (C.mem.length:Int)≤20 by omega);have i:=dF (show ¬ (C.secs.length:Int)≤20 by omega);have d:Hid (false=true↔fewM C):=aa (by unfold fewM;simp;omega);clear e1 e2 f;go_enter Tryz.func56,Tryz.ntmps56;go_wp2_with fail;refine bodyPost_ret (v:=.bool false) (by simp [results,Tryz.results56,go_sem]) rfl ?_;exact ⟨_,rfl,d.o,a.o⟩
 ·have h:=dF (show ¬ (C.mem.length:Int)≤20 by omega);have d:Hid (false=true↔fewM C):=aa (by unfold fewM;simp;omega);clear e1 f;go_enter Tryz.func56,Tryz.ntmps56;go_wp2_with fail;refine bodyPost_ret (v:=.bool false) (by simp [results,Tryz.results56,go_sem]) rfl ?_;exact ⟨_,rfl,d.o,a.o⟩
theorem vJ (vm vs vc:Value)(C:Cfg)(w:World)(hc:CSl w vm vs vc C)(a:Option Addr)(n cap:Nat)(m:Int):Calls Tryz.prog 25 #[cfgV vm vs vc C,.slice a n cap,.int .i64 m] w fun e w'=>∃b,e=.returned (.bool b)∧(b=true↔fewM C∧(n:Int)≤m)∧Bw w w':=by
 obtain ⟨d,c⟩:∃d,w.alloc (.cells (cfgC vm vs vc C) 26)=d:=⟨_,rfl⟩;have g:Bw w d:=by rw [←c];exact Bn
 have f:=aa c;have l:=aa (yz vm vs vc C d (hc.keep g));clear hc c;go_enter Tryz.func25,Tryz.ntmps25;go_wp2_with fail;rw [show w.alloc (.cells #[vm,vs,vc,.int .i64 C.line,.int .i64 C.capital,.int .i64 C.lead,.int .i64 C.trades,.int .i64 C.bids] 26)=d from f.o];refine l.o.mono ?_;rintro e p ⟨b,rfl,k,h⟩;have j:=aa (g.trans (h.mono g.size));have i:=aa k;clear k h;cases b with
 | false=>
  go_wp2_with fail;refine bodyPost_ret (v:=.bool false) (by simp [results,Tryz.results25,go_sem]) rfl ?_;exact ⟨_,rfl,by simp [←i.o],j.o⟩
 | true=>
  go_wp2_with fail;refine bodyPost_ret (v:=.bool (decide ((n:Int)≤m))) (by simp [results,Tryz.results25,go_sem]) rfl ?_;exact ⟨_,rfl,by simp [←i.o],j.o⟩
theorem ra (vm vs vc:Value)(C:Cfg)(w:World)(hc:CSl w vm vs vc C)(a:Option Addr)(n cap:Nat)(m:Int):Calls Tryz.prog 6 #[cfgV vm vs vc C,.slice a n cap,.int .i64 m] w fun e w'=>∃b,e=.returned (.bool b)∧(b=true↔Valid C∧(n:Int)≤m)∧Bw w w':=by
 obtain ⟨d,c⟩:∃d,w.alloc (.cells (cfgC vm vs vc C) 26)=d:=⟨_,rfl⟩;have g:Bw w d:=by rw [←c];exact Bn
 have j:Hid (Blk d w.heap.size 26 (cfgC vm vs vc C)):=aa (by rw [←c];exact Blk.new w 26 _);have p:=aa c;have z:=aa (vJ vm vs vc C d (hc.keep g) a n cap m);have B:=aa (hc.keep g);clear hc c;go_enter Tryz.func6,Tryz.ntmps6;go_wp2_with fail;rw [show w.alloc (.cells #[vm,vs,vc,.int .i64 C.line,.int .i64 C.capital,.int .i64 C.lead,.int .i64 C.trades,.int .i64 C.bids] 26)=d from p.o];refine z.o.mono ?_;rintro e E ⟨b,rfl,r,f⟩;have l:=aa (g.trans (f.mono g.size));have u:=aa r;have k:=aa (B.o.keep f);obtain ⟨p0,p1,p2,p3,p4,p5,p6,p7⟩:=s8 (j.o.keep f);clear r f;cases b with
 | false=>
  have x:Hid (false=true↔Valid C∧(n:Int)≤m):=aa (iff_of_false (by simp) (fun h=>by
   have:=u.o.2 ⟨⟨by have:=h.1.m2;omega,by have:=h.1.s2;omega,by have:=h.1.c2;omega⟩,h.2⟩
   simp at this))
  go_wp2_with fail;refine bodyPost_ret (v:=.bool false) (by simp [results,Tryz.results6,go_sem]) rfl ?_;exact ⟨_,rfl,x.o,l.o⟩
 | true=>
  have i:=aa (nY vm vs vc C E k.o);go_wp2_with (go_at_call 26;refine i.o.mono ?_;rintro e F ⟨s,rfl,t,q⟩;have A:=aa (l.o.trans (q.mono l.o.size));have y:=aa t;clear t q)
  have D:Hid (s.toList.isEmpty=true↔Valid C∧(n:Int)≤m):=aa ((zU s).trans (y.o.trans ⟨fun h=>⟨h,(u.o.1 trivial).2⟩,fun h=>h.1⟩));refine bodyPost_ret (v:=.bool s.toList.isEmpty) (by simp [results,Tryz.results6,go_sem]) rfl ?_;exact ⟨_,rfl,D.o,A.o⟩
theorem gZ (t:Tr)(h:TrFit t)(w:World):Calls Tryz.prog 48 #[vTr t] w fun e w'=>e=.returned (.int .i64 (valM t).1)∧Bw w w':=by
 have c:Bw w (w.alloc (.cells (cTr t) 58)):=Bn;have b:=aa (fun w=>gX t.qty t.prc h.q h.p w);have d:=aa c;obtain ⟨⟨v,i⟩,a⟩:∃r,fitM (t.qty * t.prc)=r:=⟨_,rfl⟩;have f:Hid ((valM t).1=v):=aa (by unfold valM;rw [a]);rw [a] at b;clear a h c;go_enter Tryz.func48,Tryz.ntmps48;go_wp2_with (go_at_call 83;refine (b.o _).mono ?_;rintro e w1 ⟨rfl,c1⟩;have g:=aa (d.o.trans (c1.mono d.o.size));clear c1)
 go_ret;exact ⟨by rw [f.o];rfl,g.o⟩
theorem vK {W:World}{b o:Nat}{t:Tr}(h:∀j u,(eRow t)[j]?=some u→W.cell? ⟨b,o+j,none⟩=some u):W.cell? ⟨b,o,none⟩=some (.int .i64 t.id)∧W.cell? ⟨b,o+1,none⟩=some (.int .i64 t.byr)∧W.cell? ⟨b,o+2,none⟩=some (.int .i64 t.slr)∧W.cell? ⟨b,o+3,none⟩=some (.int .i64 t.sec)∧W.cell? ⟨b,o+4,none⟩=some (.int .i64 t.qty)∧W.cell? ⟨b,o+5,none⟩=some (.int .i64 t.prc):=
 ⟨h 0 _ rfl,h 1 _ rfl,h 2 _ rfl,h 3 _ rfl,h 4 _ rfl,h 5 _ rfl⟩
theorem lU (C:Cfg)(t:Tr):(t.byr<1→tcM C t=9)∧((C.mem.length:Int)<t.byr→tcM C t=9)∧(t.slr<1→tcM C t=9)∧((C.mem.length:Int)<t.slr→tcM C t=9):=by
 refine ⟨fun h=>?_,fun h=>?_,fun h=>?_,fun h=>?_⟩
 all_goals
  have e:whoM C t=9:=by unfold whoM okM;rw [if_neg (by omega)]
  unfold tcM;rw [e,if_pos (by decide)]
theorem bR {C:Cfg}{t:Tr}(h1:¬ t.byr<1)(h2:¬ (C.mem.length:Int)<t.byr)(h3:¬ t.slr<1)(h4:¬ (C.mem.length:Int)<t.slr):(t.byr=t.slr→tcM C t=1)∧(¬ t.byr=t.slr→(t.sec<1→tcM C t=10)∧((C.secs.length:Int)<t.sec→tcM C t=10)∧(¬ t.sec<1→¬ (C.secs.length:Int)<t.sec→(t.qty≤0→tcM C t=1)∧(t.prc≤0→tcM C t=1)∧(¬ t.qty≤0→¬ t.prc≤0→tcM C t=if greatM t=true then 2 else 0))):=by
 have b:okM C t.byr∧okM C t.slr:=by unfold okM;omega
 refine ⟨fun h=>?_,fun h=>?_⟩
 ·have e:whoM C t=1:=by unfold whoM;rw [if_pos b,if_pos h]
  unfold tcM;rw [e,if_pos (by decide)]
 have e:whoM C t=0:=by unfold whoM;rw [if_pos b,if_neg h]
 refine ⟨fun h5=>?_,fun h5=>?_,fun h5 h6=>?_⟩
 ·unfold tcM;rw [e,if_neg (by decide),if_neg (by unfold okS;omega)]
 ·unfold tcM;rw [e,if_neg (by decide),if_neg (by unfold okS;omega)]
 ·have a:okS C t.sec:=by unfold okS;omega
  refine ⟨fun h7=>?_,fun h7=>?_,fun h7 h8=>?_⟩
  ·unfold tcM;rw [e,if_neg (by decide),if_pos a,if_pos (by omega)]
  ·unfold tcM;rw [e,if_neg (by decide),if_pos a,if_pos (by omega)]
  ·unfold tcM;rw [e,if_neg (by decide),if_pos a,if_neg (by omega)]
theorem vL {t:Tr}{v e:Int}(h:fitM (t.qty * t.prc)=(v,e)):(274877906944<t.qty→greatM t=true)∧(e≠0→greatM t=true)∧(288230376151711744<v→greatM t=true)∧(¬ 274877906944<t.qty→e=0→¬ 288230376151711744<v→greatM t=false):=by
 have a:valM t=(v,e):=h;unfold greatM;rw [a];refine ⟨fun h=>?_,fun h=>?_,fun h=>?_,fun h1 h2 h3=>?_⟩
 ·simp [h]
 ·simp [h]
 ·simp [h]
 ·simp [h1,h2,h3]
theorem nZ (vm vs vc:Value)(C:Cfg)(w:World)(hc:CSl w vm vs vc C)(t:Tr)(hf:TrFit t) :
  Calls Tryz.prog 44 #[cfgV vm vs vc C,vTr t] w fun e w'=>e=.returned (.int .i64 (tcM C t))∧Bw w w':=by
 have D:Bw w ((w.alloc (.cells (cfgC vm vs vc C) 26)).alloc (.cells (cTr t) 58)):=Bn.alloc (by simp) _;have b:=aa D;have H:=aa ((Blk.new w 26 (cfgC vm vs vc C)).alloc (.cells (cTr t) 58));have i:=aa (show Blk ((w.alloc (.cells (cfgC vm vs vc C) 26)).alloc (.cells (cTr t) 58)) (w.heap.size+1) 58 (cTr t) from heap_alloc2_new _ _ _);have k:=aa (fun w=>gX t.qty t.prc hf.q hf.p w);obtain ⟨G,I,rfl,_,F,A,_⟩:=hc.m;obtain ⟨as',ks,rfl,_,hs1,hs2,_⟩:=hc.s;unfold maxLen at A hs2;obtain ⟨r,hr⟩:∃r,tcM C t=r:=⟨_,rfl⟩;have h:=aa (lU C t);rw [hr] at h ⊢;have g:=aa hr;clear hc hf D hr;by_cases h1:t.byr<1
 ·obtain rfl:r=9:=h.o.1 h1;clear h g;go_enter Tryz.func44,Tryz.ntmps44;go_wp2_with fail;go_ret;exact ⟨rfl,b.o⟩
 by_cases h2:(C.mem.length:Int)<t.byr
 ·obtain rfl:r=9:=h.o.2.1 h2;clear h g;go_enter Tryz.func44,Tryz.ntmps44;go_wp2_with fail;go_ret;exact ⟨rfl,b.o⟩
 by_cases h3:t.slr<1
 ·obtain rfl:r=9:=h.o.2.2.1 h3;clear h g;go_enter Tryz.func44,Tryz.ntmps44;go_wp2_with fail;go_ret;exact ⟨rfl,b.o⟩
 by_cases h4:(C.mem.length:Int)<t.slr
 ·obtain rfl:r=9:=h.o.2.2.2 h4;clear h g;go_enter Tryz.func44,Tryz.ntmps44;go_wp2_with fail;go_ret;exact ⟨rfl,b.o⟩
 by_cases h5:t.byr=t.slr
 ·obtain rfl:r=1:=g.o.symm.trans ((bR h1 h2 h3 h4).1 h5);have E:(t.byr==t.slr)=true:=by simpa using h5
  clear h5;clear h g;go_enter Tryz.func44,Tryz.ntmps44;go_wp2_with fail;go_ret;exact ⟨rfl,b.o⟩
 by_cases h6:t.sec<1
 ·obtain rfl:r=10:=g.o.symm.trans (((bR h1 h2 h3 h4).2 h5).1 h6);clear h g;go_enter Tryz.func44,Tryz.ntmps44;go_wp2_with fail;go_ret;exact ⟨rfl,b.o⟩
 by_cases h7:(C.secs.length:Int)<t.sec
 ·obtain rfl:r=10:=g.o.symm.trans (((bR h1 h2 h3 h4).2 h5).2.1 h7);clear h g;go_enter Tryz.func44,Tryz.ntmps44;go_wp2_with fail;go_ret;exact ⟨rfl,b.o⟩
 by_cases h8:t.qty≤0
 ·obtain rfl:r=1:=g.o.symm.trans ((((bR h1 h2 h3 h4).2 h5).2.2 h6 h7).1 h8);clear h g;go_enter Tryz.func44,Tryz.ntmps44;go_wp2_with fail;go_ret;exact ⟨rfl,b.o⟩
 by_cases h9:t.prc≤0
 ·obtain rfl:r=1:=g.o.symm.trans ((((bR h1 h2 h3 h4).2 h5).2.2 h6 h7).2.1 h9);clear h g;go_enter Tryz.func44,Tryz.ntmps44;go_wp2_with fail;go_ret;exact ⟨rfl,b.o⟩
 have B:=aa (((bR h1 h2 h3 h4).2 h5).2.2 h6 h7);have f:=aa (g.o.symm.trans (B.o.2.2 h8 h9));obtain ⟨⟨v,n⟩,x⟩:∃r,fitM (t.qty * t.prc)=r:=⟨_,rfl⟩;have d:=aa (vL x);rw [x] at k;clear x B g h;obtain ⟨p0,p1,p2,p3,p4,p5⟩:_∧_∧_∧_∧_∧_:=⟨i.o.c 0,i.o.c 1,i.o.c 2,i.o.c 3,i.o.c 4,i.o.c 5⟩;have E:(t.byr==t.slr)=false:=by simpa using h5
 by_cases g1:274877906944<t.qty
 ·obtain rfl:r=2:=by rw [f.o,if_pos (d.o.1 g1)]
  clear d f;go_enter Tryz.func44,Tryz.ntmps44;go_wp2_with fail;refine (k.o _).mono ?_;rintro e y ⟨rfl,a⟩;have u:=(i.o.keep a).c 4;have z:=(i.o.keep a).c 5;have j:=aa (b.o.trans (a.mono b.o.size));clear a;go_wp2_with fail;go_ret;exact ⟨rfl,j.o⟩
 by_cases g2:¬ n=0
 ·obtain rfl:r=2:=by rw [f.o,if_pos (d.o.2.1 g2)]
  have l:(n != 0)=true:=by simpa using g2
  clear d f;go_enter Tryz.func44,Tryz.ntmps44;go_wp2_with fail;refine (k.o _).mono ?_;rintro e y ⟨rfl,a⟩;have u:=(i.o.keep a).c 4;have z:=(i.o.keep a).c 5;have j:=aa (b.o.trans (a.mono b.o.size));clear a;go_wp2_with fail;go_ret;exact ⟨rfl,j.o⟩
 by_cases g3:288230376151711744<v
 ·obtain rfl:r=2:=by rw [f.o,if_pos (d.o.2.2.1 g3)]
  have l:n=0:=by simpa using g2
  subst l;clear d f;go_enter Tryz.func44,Tryz.ntmps44;go_wp2_with fail;refine (k.o _).mono ?_;rintro e y ⟨rfl,a⟩;have u:=(i.o.keep a).c 4;have z:=(i.o.keep a).c 5;have j:=aa (b.o.trans (a.mono b.o.size));clear a;go_wp2_with fail;go_ret;exact ⟨rfl,j.o⟩
 have l:n=0:=by simpa using g2
 subst l;obtain rfl:r=0:=by rw [f.o,d.o.2.2.2 g1 rfl g3];rfl
 clear d f g2;go_enter Tryz.func44,Tryz.ntmps44;go_wp2_with fail;refine (k.o _).mono ?_;rintro e y ⟨rfl,a⟩;have u:=(i.o.keep a).c 4;have z:=(i.o.keep a).c 5;have j:=aa (b.o.trans (a.mono b.o.size));clear a;go_wp2_with fail;go_ret;exact ⟨rfl,j.o⟩
theorem oa (T:List Tr)(k:Nat)(h:k<T.length):grL (T.take (k+1))=grL (T.take k)+(valM T[k]).1:=by
 rw [z9 h];exact dY _ _
theorem vM:∀(T:List Tr),(∀t∈T,0≤(valM t).1)→∀k,0≤grL (T.take k)∧grL (T.take k)≤grL T:=by
 intro T;induction T with
 | nil=>intro _ k;simp [grL]
 | cons t T ih=>
  intro h k;have a:=ih (fun x hx=>h x (AG _ hx));have d:=h t (As ..);have e:∀L,grL (t :: L)=(valM t).1+grL L:=fun L=>by simp [grL]
  cases k with
  | zero=>
   have b:=a T.length;rw [Ap] at b;rw [List.take_zero,e];have c:grL []=0:=rfl;rw [c];omega
  | succ k=>
   have b:=a k;rw [List.take_succ_cons,e,e];omega
theorem oc {w:World}{B g:Nat}{vm vs vc vl:Value}{C:Cfg}{T:List Tr}(h:QAt w B g vm vs vc vl C T)(hn:T.length≤100000)(hq:∀t∈T,TrGood t)(hu:grL T≤4611686018427387904):Calls Tryz.prog 47 #[ptr g] w fun e w'=>e=.returned (.int .i64 (grL T))∧Bw w w':=by
 have J:=aa h;obtain ⟨ad,y,rfl,I,Z,H,F⟩:=Sl.own ii h.rows;have N:=aa F;have D:=h.blk.c 8;have r:=h.blk.lt;unfold maxLen at H;have E:=aa (vM T (fun t ht=>(hq t ht).v0.1));have O:=aa (oa T);have S:Hid (grL (T.take T.length)=grL T):=aa (by rw [Ap]);have x:=aa hu;have A:=aa hq;clear h F I hq hu;go_enter Tryz.func47,Tryz.ntmps47;go_wp2_with fail;go_loopw [4,3] (fun vi vn wr=>∃(k:Nat),k≤T.length∧vi=.int .i64 k∧vn=.int .i64 (grL (T.take k))∧Bw w wr) (fun vi _ _=>T.length - (intOf vi).toNat)
 case atStart=>exact ⟨0,Af _,rfl,by rw [List.take_zero];rfl,zZ _ _⟩
 case round=>
  obtain ⟨k,X,rfl,rfl,i⟩:=hrel;have f:=aa i;have q8:=(i.c (p:=⟨g,8,none⟩) r).trans D;clear i;by_cases hlt:k<T.length
  ·obtain ⟨b,a,rfl,d,q⟩:=N.o (by omega);obtain ⟨r0,r1,r2,r3,r4,r5⟩:=vK (q k hlt);have G:(0:Int)≤(k:Int):=by omega
   have K:(k:Int)<(T.length:Int):=by omega
   have n:=aa (O.o k hlt);have s:=E.o k;have l:=E.o (k+1);have u:=x.o;have Q:=aa (fun W (hq:QAt W B g vm vs vc (.slice (some ⟨b,a,none⟩) T.length y) C T)=>gY hq k hlt hn);have z:=aa (fun W=>gZ T[k] (A.o _ (Ag hlt)).fit W);rw [n.o] at l;have M:wrap64 (grL (T.take k)+(valM T[k]).1)=grL (T.take k)+(valM T[k]).1:=by unfold wrap64;omega
   clear q s l u;generalize T[k]=t at *;go_wp2_with fail;refine (Q.o _ (J.o.keep f.o)).mono ?_;rintro e V ⟨rfl,m,rfl⟩;have j:=aa (aj f.o m);have P:=(j.o.c (p:=⟨g,8,none⟩) r).trans D;have s0:=(j.o.c (p:=⟨b,a+k * 8,none⟩) d).trans r0;have s1:=(j.o.c (p:=⟨b,a+k * 8+1,none⟩) d).trans r1;have Y:=(j.o.c (p:=⟨b,a+k * 8+2,none⟩) d).trans r2;have s3:=(j.o.c (p:=⟨b,a+k * 8+3,none⟩) d).trans r3;have U:=(j.o.c (p:=⟨b,a+k * 8+4,none⟩) d).trans r4;have s5:=(j.o.c (p:=⟨b,a+k * 8+5,none⟩) d).trans r5;generalize wr.drewN m=W3 at *;go_wp2_with (go_at_call 48;refine (z.o _).mono ?_;rintro e w4 ⟨rfl,c4⟩;have R:=aa (j.o.trans (c4.mono j.o.size));clear c4)
   go_roundw
   case rel=>exact ⟨k+1,by omega,by go_num,by rw [n.o,M],R.o⟩
   case measure=>exact ar (by omega)
  ·obtain rfl:k=T.length:=by omega
   have L:¬ ((T.length:Int)<(T.length:Int)):=by omega
   rw [S.o];go_wp2_with fail;refine bodyPost_ret (v:=.int .i64 (grL T)) (by simp [results,Tryz.results47,go_sem]) rfl ?_;exact ⟨rfl,f.o⟩
end
theorem vN (T:List Tr)(id:Int):usedM T id=true↔id∈T.map (·.id):=by
 unfold usedM;simp [At]
def RQAddPost (B g:Nat)(vm vs vc:Value)(C:Cfg)(T':List Tr)(w:World)(e:Ending)(w':World):Prop:=∃r v',e=.returned (.int .i64 r)∧QAt w' B g vm vs vc v' C T'∧ModT B [55,115] [] w w'
abbrev SQ10 (g:Nat)(vm vs vc vl:Value)(C:Cfg)(W:World):Prop:=W.cell? ⟨g,0,none⟩=some vm∧W.cell? ⟨g,1,none⟩=some vs∧W.cell? ⟨g,2,none⟩=some vc∧W.cell? ⟨g,3,none⟩=some (.int .i64 C.line)∧W.cell? ⟨g,4,none⟩=some (.int .i64 C.capital)∧W.cell? ⟨g,5,none⟩=some (.int .i64 C.lead)∧W.cell? ⟨g,6,none⟩=some (.int .i64 C.trades)∧W.cell? ⟨g,7,none⟩=some (.int .i64 C.bids)∧W.cell? ⟨g,8,none⟩=some vl∧W.cell? ⟨g,9,none⟩=some (.int .i64 0)
abbrev ST6 (b:Nat)(t:Tr)(W:World):Prop:=W.cell? ⟨b,0,none⟩=some (.int .i64 t.id)∧W.cell? ⟨b,1,none⟩=some (.int .i64 t.byr)∧W.cell? ⟨b,2,none⟩=some (.int .i64 t.slr)∧W.cell? ⟨b,3,none⟩=some (.int .i64 t.sec)∧W.cell? ⟨b,4,none⟩=some (.int .i64 t.qty)∧W.cell? ⟨b,5,none⟩=some (.int .i64 t.prc)
structure NQ (w:World)(B g:Nat)(vm vs vc vl:Value)(C:Cfg)(T:List Tr)(t:Tr)(W:World):Prop where
 q:QAt W B g vm vs vc vl C T
 t:Blk W w.heap.size 58 (cTr t)
 low:Bw w W
section
variable {w W W':World}{B g:Nat}{vm vs vc vl:Value}{C:Cfg}{T:List Tr}{t:Tr}
theorem NQ.next (h:NQ w B g vm vs vc vl C T t W)(c:Bw W W'):NQ w B g vm vs vc vl C T t W':=⟨h.q.keep c,h.t.keep c,h.low.trans (c.mono h.low.size)⟩
theorem NQ.d (h:NQ w B g vm vs vc vl C T t W):NQ w B g vm vs vc vl C T t W.drew:=h.next (zZ _ _).drew
theorem NQ.s (h:NQ w B g vm vs vc vl C T t W):SQ10 g vm vs vc vl C W∧ST6 w.heap.size t W:=
 ⟨⟨h.q.blk.c 0,h.q.blk.c 1,h.q.blk.c 2,h.q.blk.c 3,h.q.blk.c 4,h.q.blk.c 5,h.q.blk.c 6,h.q.blk.c 7,h.q.blk.c 8,h.q.blk.c 9⟩,h.t.c 0,h.t.c 1,h.t.c 2,h.t.c 3,h.t.c 4,h.t.c 5⟩
end
theorem yA {C:Cfg}(h:Valid C):wrap64 (C.trades * (C.cyc.length:Int))=C.trades * (C.cyc.length:Int)∧IntKind.i64.wrap (C.trades * (C.cyc.length:Int))=C.trades * (C.cyc.length:Int)∧0≤C.trades * (C.cyc.length:Int)∧C.trades * (C.cyc.length:Int)≤256:=by
 have a:=h.trades;have c:=h.c2;have d:C.trades * (C.cyc.length:Int)≤64 * 4:=Int.mul_le_mul a.2 (by omega) (by omega) (by omega);have b:0≤C.trades * (C.cyc.length:Int):=Int.mul_nonneg (by omega) (by omega);generalize C.trades * (C.cyc.length:Int)=P at *;refine ⟨by unfold wrap64;omega,Ax _ ⟨by omega,by omega⟩,b,by omega⟩
theorem vO {a b:Int}(h0:0≤a)(h1:a≤4611686018427387904)(h2:0≤b)(h3:b≤4611686018427387904)(h4:a+b≤4611686018427387904):wrap64 (a+b)=a+b∧IntKind.i64.wrap (a+b)=a+b:=
 ⟨by unfold wrap64;omega,Ax _ ⟨by omega,by omega⟩⟩
theorem zV {C:Cfg}{T:List Tr}{t:Tr}(h:¬ refOk C T t):accS C T t=T:=if_neg h
theorem yB {C:Cfg}{T:List Tr}{t:Tr}(h:refOk C T t):accS C T t=T++[t]:=if_pos h
theorem az {P:Program}{md:Region.Mode}{ops:Array Oper}{Q:Exit→Act→World→Prop}{S:World→Prop}{i:Nat}{oi:Oper}{v:Value}{d:Option Nat}{fuel:Nat}{listed:Array Bool}{a:Act}{w:World}(hi:ops[i]?=some oi)(hd:oi.dst=d)
  (hs:Region.noSelect ops=true) (hf:Region.free md ops listed i=true) (hr:(Region.ready md ops listed).contains i=true)
  (hQ:∀c a w,Q (.panic c) (a.put d v) w→Q (.panic c) a w) (hy:YieldsIf P ops S oi v a) (hS:S w)
  (h:wpAnyH P md ops Q S fuel (listed.setIfInBounds i true) (a.put d v) w):wpAnyH P md ops Q S (fuel+1) listed a w:=by
 subst hd;exact wpAnyH_take hi hs hf hr hQ hy hS h
theorem aA {P:Program}{md:Region.Mode}{ops:Array Oper}{Q:Exit→Act→World→Prop}{S:World→Prop}{i:Nat}{oi:Oper}{d:Option Nat}{fuel:Nat}{listed:Array Bool}{a:Act}{w:World}(hi:ops[i]?=some oi)(hd:oi.dst=d)
  (hs:Region.noSelect ops=true) (hf:Region.free md ops listed i=true) (hr:(Region.ready md ops listed).contains i=true)
  (hQ:∀c a w,Q (.panic c) (a.put d undef) w→Q (.panic c) a w) (hy:Region.wanted oi (yielded ops a.tmps)=false) (hS:S w)
  (h:wpAnyH P md ops Q S fuel (listed.setIfInBounds i true) (a.put d undef) w):wpAnyH P md ops Q S (fuel+1) listed a w:=by
 subst hd;exact wpAnyH_take hi hs hf hr hQ (Or.inr ⟨hy,rfl⟩) hS h
theorem dI {w0 w W:World}{B:Nat}{TS:List TypeId}(m:ModT B TS [] w W)(hB:w0.heap.size≤B)(h:Bw w0 w):Bw w0 W:=
 ⟨m.os.trans h.os,m.tape.trans h.tape,m.output.trans h.output,z5 h.size m.size,fun k hk=>(m.far k (AR hk h.size) (Or.inl (AR hk hB))).trans (h.block k hk)⟩
theorem oP {w X w8 w0:World}{B g:Nat}{vm vs vc vl v':Value}{C:Cfg}{T:List Tr}{t:Tr}(N:NQ w B g vm vs vc vl C T t X)(hgrow:X.grownBy w8 vl.ownBlock)(hown:w8.ownsRow B 115 8 v' (T++[t]).length (flat eRow (T++[t])))
  (hat:v'.ownBlock=vl.ownBlock∨v'.ownBlock=some X.heap.size) (hB:B≤g) (_hne:w.heap.size≠g) (hc0:CSl w0 vm vs vc C) (hB0:w0.heap.size≤B) (hb0:Bw w0 w) :
  QAt (w8.setCell ⟨g,8,none⟩ v') B g vm vs vc v' C (T++[t])∧ModT B [55,115] [] w (w8.setCell ⟨g,8,none⟩ v'):=by
 have a:=bU (off:=8) (K:=[]) N.q.blk N.q.rows hgrow hown hat (by decide) hB (by simp) (by simp);have b:ModT B [55,115] [] w (w8.setCell ⟨g,8,none⟩ v'):=(ModT.below N.low).trans a.mod;exact ⟨⟨a.blk,hc0.keep (dI b hB0 hb0),a.own,hB⟩,b⟩
section
attribute [local go_sem ↓] Go.wp_at_zero Go.wp_at_succ
theorem yC:(Tryz.prog.info? 115).map (fun i=>(i.zero,i.size,i.bytes))=some (some (.agg #[.int .i64 0,.int .i64 0,.int .i64 0,.int .i64 0,.int .i64 0,.int .i64 0,.int .i64 0,.bool false]),8,64):=by kernel_rfl
theorem rb {w:World}{B g:Nat}{vm vs vc vl:Value}{C:Cfg}{T:List Tr}(h:QAt w B g vm vs vc vl C T)(hn:T.length≤1000)(hv:Valid C)(hgd:∀x∈T,TrGood x)(hgr:grL T≤288230376151711744)(hun:∀a,unL T a≤274877906944)(t:Tr)(hf:TrFit t)(w0:World)(hc0:CSl w0 vm vs vc C)(hB0:w0.heap.size≤B)(hb0:Bw w0 w) :
  Calls Tryz.prog 14 #[ptr g,vTr t] w (RQAddPost B g vm vs vc C (accS C T t) w):=by
 obtain ⟨p,n,rfl⟩:=ag h.rows;obtain ⟨avc,kvc,rfl,_⟩:=h.cfg.c;obtain ⟨WA,hWA⟩:∃WA,w.alloc (.cells (cTr t) 58)=WA:=⟨_,rfl⟩;have N0:Hid (NQ w B g vm vs (.slice avc C.cyc.length kvc) (.slice p T.length n) C T t WA):=aa (by
  have b0:Bw w WA:=by rw [←hWA];exact Bn
  exact ⟨h.keep b0,by rw [←hWA];exact Blk.new w 58 (cTr t),b0⟩)
 have aM:=aa hWA;have aO:=aa h.l1;have aI:Hid (w.heap.size≠g):=aa (by have:=h.blk.lt;omega);have ar:=aa hc0;have au:=aa hb0;have al:=aa (fun W (M:CSl W vm vs (.slice avc C.cyc.length kvc) C)=>nZ vm vs _ C W M t hf);have ad:=aa (fun W (M:QAt W B g vm vs (.slice avc C.cyc.length kvc) (.slice p T.length n) C T)=>qZ M (by omega) t.id);have ac:=aa (fun W (M:QAt W B g vm vs (.slice avc C.cyc.length kvc) (.slice p T.length n) C T)=>ij M (by omega));have O:=aa (fun W (M:QAt W B g vm vs (.slice avc C.cyc.length kvc) (.slice p T.length n) C T)=>oc M (by omega) hgd (by omega));have Q:=aa (fun W=>gZ t hf W);have Z:=aa (fun W (M:QAt W B g vm vs (.slice avc C.cyc.length kvc) (.slice p T.length n) C T)=>nX M (by omega) t.sec (fun x hx=>(hgd x hx).q0.1) (by have:=hun t.sec;omega));have R:Hid (∀r W,NQ w B g vm vs (.slice avc C.cyc.length kvc) (.slice p T.length n) C T t W→¬ refOk C T t→RQAddPost B g vm vs (.slice avc C.cyc.length kvc) C (accS C T t) w (.returned (.int .i64 r)) W):=aa (fun r W N hr=>⟨r,_,rfl,by rw [zV hr];exact N.q,ModT.below N.low⟩);have am:Hid (∀r W v',QAt W B g vm vs (.slice avc C.cyc.length kvc) v' C (T++[t])→ModT B [55,115] [] w W→refOk C T t→RQAddPost B g vm vs (.slice avc C.cyc.length kvc) C (accS C T t) w (.returned (.int .i64 r)) W):=aa (fun r W v' M hm hr=>⟨r,v',rfl,by rw [yB hr];exact M,hm⟩);have af:=aa (fun (e:tcM C t=0)=>(bO hf e).1);have aw:=aa (ld hgd);have ax:=aa (le hgd t.sec);have aB:=aa hgr
 have aq:=aa (hun t.sec);obtain ⟨ao,an,aL,aG⟩:=yA hv;obtain ⟨P,hP⟩:∃P,C.trades * (C.cyc.length:Int)=P:=⟨_,rfl⟩;have ao:wrap64 (C.trades * (C.cyc.length:Int))=P:=ao.trans hP;have an:IntKind.i64.wrap (C.trades * (C.cyc.length:Int))=P:=an.trans hP;have m:Hid (refOk C T t↔tcM C t=0∧t.id∉T.map (·.id)∧(T.length:Int)<C.trades∧(T.length:Int)<P∧grL T+(valM t).1≤288230376151711744∧unL T t.sec+t.qty≤274877906944):=aa (by unfold refOk;rw [hP]);have L:=aa (vN T t.id);obtain ⟨r,hr⟩:∃r,tcM C t=r:=⟨_,rfl⟩;obtain ⟨us,hus⟩:∃us,usedM T t.id=us:=⟨_,rfl⟩;obtain ⟨G,hG⟩:∃G,grL T=G:=⟨_,rfl⟩;obtain ⟨V,hV⟩:∃V,(valM t).1=V:=⟨_,rfl⟩;obtain ⟨U,hU⟩:∃U,unL T t.sec=U:=⟨_,rfl⟩;have ai:Hid (r=0→0≤V∧V≤288230376151711744∧0≤t.qty∧t.qty≤274877906944):=aa (fun e=>by
  have I:=af.o (hr.trans e);have h1:=I.v0;have h2:=I.q0;rw [hV] at h1;omega)
 rw [hr] at al m;rw [hus] at ad L;rw [hG] at O m aw aB;rw [hV] at Q m;rw [hU] at Z m ax aq;clear aL aG;clear hc0 hb0 h hv hgd hgr hun hf hWA af hr hus hG hV hU hP;have y:=N0.o.d.s;have aQ:T.length≤1000:=hn;clear hn;go_enter Tryz.func14,Tryz.ntmps14;go_wp2_with fail;rw [show w.alloc (.cells #[.int .i64 t.id,.int .i64 t.byr,.int .i64 t.slr,.int .i64 t.sec,.int .i64 t.qty,.int .i64 t.prc] 58)=WA from aM.o];go_region_held3 (fun W=>SQ10 g vm vs (.slice avc C.cyc.length kvc) (.slice p T.length n) C W∧ST6 w.heap.size t W) (first | exact y | exact ab | assumption) (first | (go_at_call 44;refine (al.o WA.drew (N0.o.d.q.cfg)).mono ?_;rintro e w2 ⟨rfl,c2⟩;have N2:=aa (N0.o.d.next c2);have ab:=N2.o.s;clear c2))
 clear y ab;have ab:=N2.o.s;by_cases h1:r=0
 rotate_left
 ·have d1:(r != 0)=true:=by simpa using h1
  have HF:Hid (¬ refOk C T t):=aa (fun I=>h1 (m.o.1 I).1);clear h1 ab;go_wp2_with fail;go_ret;exact R.o _ _ N2.o HF.o
 subst h1;obtain ⟨aN,aV,aK,aW⟩:=ai.o rfl;obtain ⟨⟨p0,p1,p2,p3,p4,p5,p6,p7,p8,p9⟩,t0,t1,t2,t3,t4,t5⟩:=ab;cases us with
 | true=>
  have HF:Hid (¬ refOk C T t):=aa (fun I=>(m.o.1 I).2.1 (L.o.1 rfl));go_wp2_with (go_at_call 45;refine (ad.o _ N2.o.q).mono ?_;rintro e w3 ⟨rfl,c3⟩;have N3:=aa (N2.o.next c3);clear c3)
  go_ret;exact R.o _ _ N3.o HF.o
 | false=>
  have aJ:Hid (t.id∉T.map (·.id)):=aa (fun I=>by have:=L.o.2 I;simp at this);go_wp2_with (go_at_call 45;refine (ad.o _ N2.o.q).mono ?_;rintro e w3 ⟨rfl,c3⟩;have N3:=aa (N2.o.next c3);clear c3)
  clear p0 p1 p2 p3 p4 p5 p6 p7 p8 p9 t0 t1 t2 t3 t4 t5;have aj:=N3.o.d.s;by_cases g1:C.trades≤(T.length:Int)
  ·have d1:decide (C.trades≤(T.length:Int))=true:=dT g1;have HF:Hid (¬ refOk C T t):=aa (fun I=>by have:=(m.o.1 I).2.2.1;omega);refine wp_region_held_drew (S:=(fun W=>SQ10 g vm vs (.slice avc C.cyc.length kvc) (.slice p T.length n) C W∧ST6 w.heap.size t W)) (by kernel_rfl) (by exact aj) (fun hHeld=>?_);refine az (i:=0) (d:=some 19) (v:=?_) rfl rfl (by kernel_rfl) (by kernel_rfl) (by kernel_rfl) (fun _ _ _ h=>h) (Or.inl ⟨by rfl,?_⟩) (by assumption) ?_;rotate_left
   ·(intro w b;(try dsimp only at b);go_simp;try with_reducible rfl)
   simp only [Act.put,z4,z6,z7];refine az (i:=2) (d:=some 21) (v:=?_) rfl rfl (by kernel_rfl) (by kernel_rfl) (by kernel_rfl) (fun _ _ _ h=>h) (Or.inl ⟨by rfl,?_⟩) (by assumption) ?_;rotate_left
   ·(intro w b;(try dsimp only at b);go_simp;try with_reducible rfl)
   simp only [Act.put,z4,z6,z7];refine az (i:=3) (d:=some 22) (v:=?_) rfl rfl (by kernel_rfl) (by kernel_rfl) (by kernel_rfl) (fun _ _ _ h=>h) (Or.inl ⟨by rfl,?_⟩) (by assumption) ?_;rotate_left
   ·(intro w b;(try dsimp only at b);go_simp;try with_reducible rfl)
   simp only [Act.put,z4,z6,z7];refine az (i:=4) (d:=some 23) (v:=?_) rfl rfl (by kernel_rfl) (by kernel_rfl) (by kernel_rfl) (fun _ _ _ h=>h) (Or.inl ⟨by rfl,?_⟩) (by assumption) ?_;rotate_left
   ·(intro w b;(try dsimp only at b);go_simp;try with_reducible rfl)
   simp only [Act.put,z4,z6,z7];refine az (i:=5) (d:=some 24) (v:=?_) rfl rfl (by kernel_rfl) (by kernel_rfl) (by kernel_rfl) (fun _ _ _ h=>h) (Or.inl ⟨by rfl,?_⟩) (by assumption) ?_;rotate_left
   ·(intro w b;(try dsimp only at b);go_simp;try with_reducible rfl)
   simp only [Act.put,z4,z6,z7];refine az (i:=6) (d:=some 25) (v:=?_) rfl rfl (by kernel_rfl) (by kernel_rfl) (by kernel_rfl) (fun _ _ _ h=>h) (Or.inl ⟨by rfl,?_⟩) (by assumption) ?_;rotate_left
   ·(intro w b;(try dsimp only at b);go_simp;try with_reducible rfl)
   simp only [Act.put,z4,z6,z7];refine wpAnyH_ready (rs:=[1]) (by kernel_rfl) (by simp) ?_;refine AllReadyH.cons rfl (fun KQ hKQ=>?_) AllReadyH.nil;go_simp
   (go_at_call 46;refine (ac.o w3.drew N3.o.d.q).mono ?_;rintro e w4 ⟨rfl,c4⟩;have K:=aa (N3.o.d.next c4);have A:=K.o.s;clear c4)
   (try go_wp2_with fail)
   refine hKQ.out _ _ (by (try dsimp only);first | exact A | assumption | go_keep) (fun hHeld1=>?_);clear hKQ KQ;try simp only [Act.put,z4,z6,z7]
   refine az (i:=7) (d:=some 26) (v:=?_) rfl rfl (by kernel_rfl) (by kernel_rfl) (by kernel_rfl) (fun _ _ _ h=>h) (Or.inl ⟨by rfl,?_⟩) (by assumption) ?_;rotate_left
   ·(intro w b;(try dsimp only at b);go_simp;try with_reducible rfl)
   simp only [Act.put,z4,z6,z7];refine az (i:=8) (d:=some 27) (v:=?_) rfl rfl (by kernel_rfl) (by kernel_rfl) (by kernel_rfl) (fun _ _ _ h=>h) (Or.inl ⟨by rfl,?_⟩) (by assumption) ?_;rotate_left
   ·(intro w b;(try dsimp only at b);go_simp;try with_reducible rfl)
   simp only [Act.put,z4,z6,z7];refine aA (i:=9) (d:=some 28) rfl rfl (by kernel_rfl) (by kernel_rfl) (by kernel_rfl) (fun _ _ _ h=>h) (by rfl) (by assumption) ?_;simp only [Act.put,z4,z6,z7];refine aA (i:=10) (d:=some 29) rfl rfl (by kernel_rfl) (by kernel_rfl) (by kernel_rfl) (fun _ _ _ h=>h) (by rfl) (by assumption) ?_;simp only [Act.put,z4,z6,z7];refine aA (i:=11) (d:=some 30) rfl rfl (by kernel_rfl) (by kernel_rfl) (by kernel_rfl) (fun _ _ _ h=>h) (by rfl) (by assumption) ?_;simp only [Act.put,z4,z6,z7];refine aA (i:=12) (d:=some 31) rfl rfl (by kernel_rfl) (by kernel_rfl) (by kernel_rfl) (fun _ _ _ h=>h) (by rfl) (by assumption) ?_;simp only [Act.put,z4,z6,z7];refine aA (i:=13) (d:=some 32) rfl rfl (by kernel_rfl) (by kernel_rfl) (by kernel_rfl) (fun _ _ _ h=>h) (by rfl) (by assumption) ?_;simp only [Act.put,z4,z6,z7];refine aA (i:=14) (d:=some 33) rfl rfl (by kernel_rfl) (by kernel_rfl) (by kernel_rfl) (fun _ _ _ h=>h) (by rfl) (by assumption) ?_;simp only [Act.put,z4,z6,z7];refine aA (i:=15) (d:=some 34) rfl rfl (by kernel_rfl) (by kernel_rfl) (by kernel_rfl) (fun _ _ _ h=>h) (by rfl) (by assumption) ?_;simp only [Act.put,z4,z6,z7];refine aA (i:=16) (d:=some 35) rfl rfl (by kernel_rfl) (by kernel_rfl) (by kernel_rfl) (fun _ _ _ h=>h) (by rfl) (by assumption) ?_;simp only [Act.put,z4,z6,z7];refine aA (i:=17) (d:=some 36) rfl rfl (by kernel_rfl) (by kernel_rfl) (by kernel_rfl) (fun _ _ _ h=>h) (by rfl) (by assumption) ?_;simp only [Act.put,z4,z6,z7]
   refine aA (i:=18) (d:=some 37) rfl rfl (by kernel_rfl) (by kernel_rfl) (by kernel_rfl) (fun _ _ _ h=>h) (by rfl) (by assumption) ?_;simp only [Act.put,z4,z6,z7];refine aA (i:=19) (d:=some 38) rfl rfl (by kernel_rfl) (by kernel_rfl) (by kernel_rfl) (fun _ _ _ h=>h) (by rfl) (by assumption) ?_;simp only [Act.put,z4,z6,z7];refine aA (i:=20) (d:=some 39) rfl rfl (by kernel_rfl) (by kernel_rfl) (by kernel_rfl) (fun _ _ _ h=>h) (by rfl) (by assumption) ?_;simp only [Act.put,z4,z6,z7];refine aA (i:=21) (d:=some 40) rfl rfl (by kernel_rfl) (by kernel_rfl) (by kernel_rfl) (fun _ _ _ h=>h) (by rfl) (by assumption) ?_;simp only [Act.put,z4,z6,z7];refine aA (i:=22) (d:=some 41) rfl rfl (by kernel_rfl) (by kernel_rfl) (by kernel_rfl) (fun _ _ _ h=>h) (by rfl) (by assumption) ?_;simp only [Act.put,z4,z6,z7];refine aA (i:=23) (d:=some 42) rfl rfl (by kernel_rfl) (by kernel_rfl) (by kernel_rfl) (fun _ _ _ h=>h) (by rfl) (by assumption) ?_;simp only [Act.put,z4,z6,z7];refine aA (i:=24) (d:=some 43) rfl rfl (by kernel_rfl) (by kernel_rfl) (by kernel_rfl) (fun _ _ _ h=>h) (by rfl) (by assumption) ?_;simp only [Act.put,z4,z6,z7];refine aA (i:=25) (d:=some 44) rfl rfl (by kernel_rfl) (by kernel_rfl) (by kernel_rfl) (fun _ _ _ h=>h) (by rfl) (by assumption) ?_;simp only [Act.put,z4,z6,z7];refine aA (i:=26) (d:=some 45) rfl rfl (by kernel_rfl) (by kernel_rfl) (by kernel_rfl) (fun _ _ _ h=>h) (by rfl) (by assumption) ?_;simp only [Act.put,z4,z6,z7]
   refine az (i:=27) (d:=some 46) (v:=?_) rfl rfl (by kernel_rfl) (by kernel_rfl) (by kernel_rfl) (fun _ _ _ h=>h) (Or.inl ⟨by rfl,?_⟩) (by assumption) ?_;rotate_left
   ·(intro w b;(try dsimp only at b);go_simp;try with_reducible rfl)
   simp only [Act.put,z4,z6,z7];refine wpAnyH_done (by kernel_rfl) ?_ _;go_wp2_with fail;go_ret;exact R.o _ _ K.o HF.o
  have d1:decide (C.trades≤(T.length:Int))=false:=dF g1;by_cases g2:P≤(T.length:Int)
  ·have d2:decide (P≤(T.length:Int))=true:=dT g2;have HF:Hid (¬ refOk C T t):=aa (fun I=>by have:=(m.o.1 I).2.2.2.1;omega);go_region_held3 (fun W=>SQ10 g vm vs (.slice avc C.cyc.length kvc) (.slice p T.length n) C W∧ST6 w.heap.size t W) (first | exact aj | exact A | assumption) (first | (go_at_call 46;refine (ac.o w3.drew N3.o.d.q).mono ?_;rintro e w4 ⟨rfl,c4⟩;have K:=aa (N3.o.d.next c4);have A:=K.o.s;clear c4))
   go_wp2_with fail;go_ret;exact R.o _ _ K.o HF.o
  have d2:decide (P≤(T.length:Int))=false:=dF g2;go_region_held3 (fun W=>SQ10 g vm vs (.slice avc C.cyc.length kvc) (.slice p T.length n) C W∧ST6 w.heap.size t W) (first | exact aj | exact A | assumption) (first | (go_at_call 46;refine (ac.o w3.drew N3.o.d.q).mono ?_;rintro e w4 ⟨rfl,c4⟩;have K:=aa (N3.o.d.next c4);have A:=K.o.s;clear c4))
  clear aj A;have A:=K.o.d.s;have aH:=aw.o;have aU:=aB.o;have aP:=ax.o;have aX:=aq.o;obtain ⟨aT,aR⟩:=vO aH (by omega) aN (by omega) (show G+V≤4611686018427387904 by omega);obtain ⟨su1,su2⟩:=vO aP (by omega) aK (by omega) (show U+t.qty≤4611686018427387904 by omega);go_wp2_with fail;clear ao an d1 d2;by_cases g3:288230376151711744<G+V
  ·have d3:decide (288230376151711744<G+V)=true:=dT g3;have HF:Hid (¬ refOk C T t):=aa (fun I=>by have:=(m.o.1 I).2.2.2.2.1;omega);refine wp_region_held_drew (S:=(fun W=>SQ10 g vm vs (.slice avc C.cyc.length kvc) (.slice p T.length n) C W∧ST6 w.heap.size t W)) (by kernel_rfl) (by exact A) (fun hHeld=>?_);refine az (i:=0) (d:=some 47) (v:=?_) rfl rfl (by kernel_rfl) (by kernel_rfl) (by kernel_rfl) (fun _ _ _ h=>h) (Or.inl ⟨by rfl,?_⟩) (by assumption) ?_;rotate_left
   ·(intro w b;(try dsimp only at b);go_simp;try with_reducible rfl)
   simp only [Act.put,z4,z6,z7];refine az (i:=2) (d:=some 49) (v:=?_) rfl rfl (by kernel_rfl) (by kernel_rfl) (by kernel_rfl) (fun _ _ _ h=>h) (Or.inl ⟨by rfl,?_⟩) (by assumption) ?_;rotate_left
   ·(intro w b;(try dsimp only at b);go_simp;try with_reducible rfl)
   simp only [Act.put,z4,z6,z7];refine wpAnyH_ready (rs:=[1]) (by kernel_rfl) (by simp) ?_;refine AllReadyH.cons rfl (fun KQ hKQ=>?_) AllReadyH.nil;go_simp
   (go_at_call 47;refine (O.o w4.drew K.o.d.q).mono ?_;rintro e w5 ⟨rfl,c5⟩;have N5:=aa (K.o.d.next c5);have j:=N5.o.s;clear c5)
   refine hKQ.out _ _ (by (try dsimp only);first | exact j | assumption | go_keep) (fun hHeld1=>?_);clear hKQ KQ;try simp only [Act.put,z4,z6,z7]
   refine wpAnyH_ready (rs:=[3]) (by kernel_rfl) (by simp) ?_;refine AllReadyH.cons rfl (fun KQ hKQ=>?_) AllReadyH.nil;go_simp
   (go_at_call 48;refine (Q.o _).mono ?_;rintro e w6 ⟨rfl,c6⟩;have N6:=aa (N5.o.next c6);have l:=N6.o.s;clear c6)
   refine hKQ.out _ _ (by (try dsimp only);first | exact l | assumption | go_keep) (fun hHeld3=>?_);clear hKQ KQ;try simp only [Act.put,z4,z6,z7]
   refine az (i:=4) (d:=some 51) (v:=?_) rfl rfl (by kernel_rfl) (by kernel_rfl) (by kernel_rfl) (fun _ _ _ h=>h) (Or.inl ⟨by rfl,?_⟩) (by assumption) ?_;rotate_left
   ·(intro w b;(try dsimp only at b);go_simp;try with_reducible rfl)
   simp only [Act.put,z4,z6,z7];refine az (i:=5) (d:=some 52) (v:=?_) rfl rfl (by kernel_rfl) (by kernel_rfl) (by kernel_rfl) (fun _ _ _ h=>h) (Or.inl ⟨by rfl,?_⟩) (by assumption) ?_;rotate_left
   ·(intro w b;(try dsimp only at b);go_simp;try with_reducible rfl)
   simp only [Act.put,z4,z6,z7];refine az (i:=6) (d:=some 53) (v:=?_) rfl rfl (by kernel_rfl) (by kernel_rfl) (by kernel_rfl) (fun _ _ _ h=>h) (Or.inl ⟨by rfl,?_⟩) (by assumption) ?_;rotate_left
   ·(intro w b;(try dsimp only at b);go_simp;try with_reducible rfl)
   simp only [Act.put,z4,z6,z7];refine aA (i:=7) (d:=some 54) rfl rfl (by kernel_rfl) (by kernel_rfl) (by kernel_rfl) (fun _ _ _ h=>h) (by rfl) (by assumption) ?_;simp only [Act.put,z4,z6,z7];refine aA (i:=8) (d:=some 55) rfl rfl (by kernel_rfl) (by kernel_rfl) (by kernel_rfl) (fun _ _ _ h=>h) (by rfl) (by assumption) ?_;simp only [Act.put,z4,z6,z7];refine aA (i:=9) (d:=some 56) rfl rfl (by kernel_rfl) (by kernel_rfl) (by kernel_rfl) (fun _ _ _ h=>h) (by rfl) (by assumption) ?_;simp only [Act.put,z4,z6,z7];refine aA (i:=10) (d:=some 57) rfl rfl (by kernel_rfl) (by kernel_rfl) (by kernel_rfl) (fun _ _ _ h=>h) (by rfl) (by assumption) ?_;simp only [Act.put,z4,z6,z7];refine aA (i:=11) (d:=some 58) rfl rfl (by kernel_rfl) (by kernel_rfl) (by kernel_rfl) (fun _ _ _ h=>h) (by rfl) (by assumption) ?_;simp only [Act.put,z4,z6,z7];refine aA (i:=12) (d:=some 59) rfl rfl (by kernel_rfl) (by kernel_rfl) (by kernel_rfl) (fun _ _ _ h=>h) (by rfl) (by assumption) ?_;simp only [Act.put,z4,z6,z7];refine aA (i:=13) (d:=some 60) rfl rfl (by kernel_rfl) (by kernel_rfl) (by kernel_rfl) (fun _ _ _ h=>h) (by rfl) (by assumption) ?_;simp only [Act.put,z4,z6,z7];refine aA (i:=14) (d:=some 61) rfl rfl (by kernel_rfl) (by kernel_rfl) (by kernel_rfl) (fun _ _ _ h=>h) (by rfl) (by assumption) ?_;simp only [Act.put,z4,z6,z7];refine az (i:=15) (d:=some 62) (v:=?_) rfl rfl (by kernel_rfl) (by kernel_rfl) (by kernel_rfl) (fun _ _ _ h=>h) (Or.inl ⟨by rfl,?_⟩) (by assumption) ?_;rotate_left
   ·(intro w b;(try dsimp only at b);go_simp;try with_reducible rfl)
   simp only [Act.put,z4,z6,z7];refine wpAnyH_done (by kernel_rfl) ?_ _;go_wp2_with fail;go_ret;exact R.o _ _ N6.o HF.o
  have d3:decide (288230376151711744<G+V)=false:=dF g3;by_cases g4:274877906944<U+t.qty
  ·have d4:decide (274877906944<U+t.qty)=true:=dT g4;have HF:Hid (¬ refOk C T t):=aa (fun I=>by have:=(m.o.1 I).2.2.2.2.2;omega);go_region_held3 (fun W=>SQ10 g vm vs (.slice avc C.cyc.length kvc) (.slice p T.length n) C W∧ST6 w.heap.size t W) (first | exact A | exact j | exact l | exact ak | assumption) (first | (go_at_call 47;refine (O.o w4.drew K.o.d.q).mono ?_;rintro e w5 ⟨rfl,c5⟩;have N5:=aa (K.o.d.next c5);have j:=N5.o.s;clear c5) | (go_at_call 48;refine (Q.o _).mono ?_;rintro e w6 ⟨rfl,c6⟩;have N6:=aa (N5.o.next c6);have l:=N6.o.s;clear c6) | (go_at_call 49;refine (Z.o _ N6.o.q).mono ?_;rintro e w7 ⟨rfl,c7⟩;have N7:=aa (N6.o.next c7);have ak:=N7.o.s;clear c7))
   go_wp2_with fail;go_ret;exact R.o _ _ N7.o HF.o
  have d4:decide (274877906944<U+t.qty)=false:=dF g4;have HT:Hid (refOk C T t):=aa (m.o.2 ⟨trivial,aJ.o,by omega,by omega,by omega,by omega⟩);go_region_held3 (fun W=>SQ10 g vm vs (.slice avc C.cyc.length kvc) (.slice p T.length n) C W∧ST6 w.heap.size t W) (first | exact A | exact j | exact l | exact ak | assumption) (first | (go_at_call 47;refine (O.o w4.drew K.o.d.q).mono ?_;rintro e w5 ⟨rfl,c5⟩;have N5:=aa (K.o.d.next c5);have j:=N5.o.s;clear c5) | (go_at_call 48;refine (Q.o _).mono ?_;rintro e w6 ⟨rfl,c6⟩;have N6:=aa (N5.o.next c6);have l:=N6.o.s;clear c6) | (go_at_call 49;refine (Z.o _ N6.o.q).mono ?_;rintro e w7 ⟨rfl,c7⟩;have N7:=aa (N6.o.next c7);have ak:=N7.o.s;clear c7))
  clear A j l ak;go_wp2_with fail;obtain ⟨i0,hi,ay,aC,av⟩:=info_parts yC;obtain ⟨X,hX⟩:∃X,w7.drew=X:=⟨_,rfl⟩;have NX:Hid (NQ w B g vm vs (.slice avc C.cyc.length kvc) (.slice p T.length n) C T t X):=aa (by rw [←hX];exact N7.o.d);have y:ST6 w.heap.size t X∧X.cell? ⟨g,9,none⟩=some (.int .i64 0):=⟨NX.o.s.2,NX.o.q.blk.c 9⟩;have H:=aa (NX.o.next ((zZ _ _).alloc (zY _) (.cells (eRow t).toArray 115)));have D:ST6 w.heap.size t (X.alloc (.cells (eRow t).toArray 115))∧(X.alloc (.cells (eRow t).toArray 115)).cell? ⟨g,9,none⟩=some (.int .i64 0):=⟨H.o.s.2,H.o.q.blk.c 9⟩;have p8:=NX.o.q.blk.c 8;have aF:=H.o.q.blk.c 8;have ap:=aO.o;have ah:w.heap.size≠g:=aI.o;have aE:B≤(X.alloc (.cells (eRow t).toArray 115)).heap.size:=z5 ap (Nat.le_of_lt H.o.q.blk.lt);obtain ⟨N9,hN9⟩:∃N9,(T++[t]).length=N9:=⟨_,rfl⟩;have aD:=aa hN9;clear hN9;clear N7 N6 N5 K N3 N2 N0;dsimp only [eRow,List.toArray] at D aF;refine wp_region_held_drew (S:=(fun W=>ST6 w.heap.size t W∧W.cell? ⟨g,9,none⟩=some (.int .i64 0))) (by kernel_rfl) (by rw [hX];exact y) (fun hHeld=>?_);rw [hX] at hHeld ⊢;refine az (i:=0) (d:=some 63) (v:=?_) rfl rfl (by kernel_rfl) (by kernel_rfl) (by kernel_rfl) (fun _ _ _ h=>h) (Or.inl ⟨by rfl,?_⟩) (by assumption) ?_;rotate_left
  ·(intro w b;(try dsimp only at b);go_simp;try with_reducible rfl)
  simp only [Act.put,z4,z6,z7];refine az (i:=1) (d:=some 64) (v:=?_) rfl rfl (by kernel_rfl) (by kernel_rfl) (by kernel_rfl) (fun _ _ _ h=>h) (Or.inl ⟨by rfl,?_⟩) (by assumption) ?_;rotate_left
  ·(intro w b;(try dsimp only at b);go_simp;try with_reducible rfl)
  simp only [Act.put,z4,z6,z7];refine az (i:=2) (d:=some 65) (v:=?_) rfl rfl (by kernel_rfl) (by kernel_rfl) (by kernel_rfl) (fun _ _ _ h=>h) (Or.inl ⟨by rfl,?_⟩) (by assumption) ?_;rotate_left
  ·(intro w b;(try dsimp only at b);go_simp;try with_reducible rfl)
  simp only [Act.put,z4,z6,z7];refine az (i:=3) (d:=some 66) (v:=?_) rfl rfl (by kernel_rfl) (by kernel_rfl) (by kernel_rfl) (fun _ _ _ h=>h) (Or.inl ⟨by rfl,?_⟩) (by assumption) ?_;rotate_left
  ·(intro w b;(try dsimp only at b);go_simp;try with_reducible rfl)
  simp only [Act.put,z4,z6,z7];refine az (i:=5) (d:=some 68) (v:=?_) rfl rfl (by kernel_rfl) (by kernel_rfl) (by kernel_rfl) (fun _ _ _ h=>h) (Or.inl ⟨by rfl,?_⟩) (by assumption) ?_;rotate_left
  ·(intro w b;(try dsimp only at b);go_simp;try with_reducible rfl)
  simp only [Act.put,z4,z6,z7];refine az (i:=6) (d:=some 69) (v:=?_) rfl rfl (by kernel_rfl) (by kernel_rfl) (by kernel_rfl) (fun _ _ _ h=>h) (Or.inl ⟨by rfl,?_⟩) (by assumption) ?_;rotate_left
  ·(intro w b;(try dsimp only at b);go_simp;try with_reducible rfl)
  simp only [Act.put,z4,z6,z7];refine az (i:=7) (d:=some 70) (v:=?_) rfl rfl (by kernel_rfl) (by kernel_rfl) (by kernel_rfl) (fun _ _ _ h=>h) (Or.inl ⟨by rfl,?_⟩) (by assumption) ?_;rotate_left
  ·(intro w b;(try dsimp only at b);go_simp;try with_reducible rfl)
  simp only [Act.put,z4,z6,z7];refine az (i:=8) (d:=some 71) (v:=?_) rfl rfl (by kernel_rfl) (by kernel_rfl) (by kernel_rfl) (fun _ _ _ h=>h) (Or.inl ⟨by rfl,?_⟩) (by assumption) ?_;rotate_left
  ·(intro w b;(try dsimp only at b);go_simp;try with_reducible rfl)
  simp only [Act.put,z4,z6,z7];refine az (i:=9) (d:=some 72) (v:=?_) rfl rfl (by kernel_rfl) (by kernel_rfl) (by kernel_rfl) (fun _ _ _ h=>h) (Or.inl ⟨by rfl,?_⟩) (by assumption) ?_;rotate_left
  ·(intro w b;(try dsimp only at b);go_simp;try with_reducible rfl)
  simp only [Act.put,z4,z6,z7];refine az (i:=10) (d:=some 73) (v:=?_) rfl rfl (by kernel_rfl) (by kernel_rfl) (by kernel_rfl) (fun _ _ _ h=>h) (Or.inl ⟨by rfl,?_⟩) (by assumption) ?_;rotate_left
  ·(intro w b;(try dsimp only at b);go_simp;try with_reducible rfl)
  simp only [Act.put,z4,z6,z7];refine wpAnyH_ready (rs:=[4,11]) (by kernel_rfl) (by simp) ?_;refine AllReadyH.cons rfl (fun KQ hKQ=>?_) (AllReadyH.cons rfl (fun KQ hKQ=>?_) AllReadyH.nil)
  ·go_simp
   refine hKQ.out _ _ (by (try dsimp only);first | exact y | exact D | exact j | exact l | assumption | go_keep) (fun hHeld9=>?_);clear hKQ KQ;try simp only [Act.put,z4,z6,z7]
   refine wpAnyH_ready (rs:=[11]) (by kernel_rfl) (by simp) ?_;refine AllReadyH.cons rfl (fun KQ hKQ=>?_) AllReadyH.nil;go_simp
   refine hKQ.out _ _ (by (try dsimp only);first | exact y | exact D | exact j | exact l | assumption | go_keep) (fun hHeld9=>?_);clear hKQ KQ;try simp only [Act.put,z4,z6,z7]
   refine wpAnyH_ready (rs:=[12]) (by kernel_rfl) (by simp) ?_;refine AllReadyH.cons rfl (fun KQ hKQ=>?_) AllReadyH.nil
   (refine aS ii (by decide) vF _ (by rfl) _ _ 53 (by rfl) B 115 i0 (.agg #[.int .i64 0,.int .i64 0,.int .i64 0,.int .i64 0,.int .i64 0,.int .i64 0,.int .i64 0,.bool false]) 64 Tryz.underlying53 hi ay aC av (by rfl) (.slice p T.length n) T (by rfl) (by exact H.o.q.rows) (some ⟨X.heap.size,0,none⟩) 1 1 [t] (by rfl) (by rfl) (by exact Sl.one1 eRow ii X 115 t (cs:=#[.int .i64 t.id,.int .i64 t.byr,.int .i64 t.slr,.int .i64 t.sec,.int .i64 t.qty,.int .i64 t.prc,.int .i64 0,.bool false]) rfl) (by simp only [Ai];unfold maxLen;omega) (by simp only [Ai];omega) aE ?_;intro v' w8 z f ae;have u:=z;rw [aD.o] at u;obtain ⟨n3,k3,rfl⟩:=ag u;clear u;have E:=aa (oP H.o f z ae ap ah ar.o hB0 au.o);have B2:=Blk.grown H.o.q.blk H.o.q.rows f (by decide);have F:=Blk.grown H.o.t H.o.q.rows f (by decide);have z0:=B2.c 8;have z1:=B2.free 8;have j:=And.intro (And.intro (F.c 0) (And.intro (F.c 1) (And.intro (F.c 2) (And.intro (F.c 3) (And.intro (F.c 4) (F.c 5)))))) (B2.c 9);have J:=F.far (k:=g) 8 (.slice n3 N9 k3) ah;have B4:=B2.set 8 (.slice n3 N9 k3);have l:=And.intro (And.intro (J.c 0) (And.intro (J.c 1) (And.intro (J.c 2) (And.intro (J.c 3) (And.intro (J.c 4) (J.c 5)))))) (B4.c 9))
   refine hKQ.out _ _ (by (try dsimp only);first | exact y | exact D | exact j | exact l | assumption | go_keep) (fun hHeld9=>?_);clear hKQ KQ;try simp only [Act.put,z4,z6,z7]
   refine az (i:=13) (d:=some 76) (v:=?_) rfl rfl (by kernel_rfl) (by kernel_rfl) (by kernel_rfl) (fun _ _ _ h=>h) (Or.inl ⟨by rfl,?_⟩) (by assumption) ?_;rotate_left
   ·(intro w b;(try dsimp only at b);go_simp;try with_reducible rfl)
   simp only [Act.put,z4,z6,z7];refine az (i:=14) (d:=some 77) (v:=?_) rfl rfl (by kernel_rfl) (by kernel_rfl) (by kernel_rfl) (fun _ _ _ h=>h) (Or.inl ⟨by rfl,?_⟩) (by assumption) ?_;rotate_left
   ·(intro w b;(try dsimp only at b);go_simp;try with_reducible rfl)
   simp only [Act.put,z4,z6,z7];refine wpAnyH_ready (rs:=[15]) (by kernel_rfl) (by simp) ?_;refine AllReadyH.cons rfl (fun KQ hKQ=>?_) AllReadyH.nil;go_simp
   refine hKQ.out _ _ (by (try dsimp only);first | exact y | exact D | exact j | exact l | assumption | go_keep) (fun hHeld9=>?_);clear hKQ KQ;try simp only [Act.put,z4,z6,z7]
   refine wpAnyH_done (by kernel_rfl) ?_ _;obtain ⟨M,hm⟩:=E.o;clear E f ae z z0 z1 B2 F B4 J y D j l;generalize (w8.setCell ⟨g,8,none⟩ (.slice n3 N9 k3))=Y at *;go_wp2_with fail;go_ret;exact am.o _ _ _ M hm HT.o
  ·go_simp
   refine hKQ.out _ _ (by (try dsimp only);first | exact y | exact D | exact j | exact l | assumption | go_keep) (fun hHeld9=>?_);clear hKQ KQ;try simp only [Act.put,z4,z6,z7]
   refine wpAnyH_ready (rs:=[4]) (by kernel_rfl) (by simp) ?_;refine AllReadyH.cons rfl (fun KQ hKQ=>?_) AllReadyH.nil;go_simp
   refine hKQ.out _ _ (by (try dsimp only);first | exact y | exact D | exact j | exact l | assumption | go_keep) (fun hHeld9=>?_);clear hKQ KQ;try simp only [Act.put,z4,z6,z7]
   refine wpAnyH_ready (rs:=[12]) (by kernel_rfl) (by simp) ?_;refine AllReadyH.cons rfl (fun KQ hKQ=>?_) AllReadyH.nil
   (refine aS ii (by decide) vF _ (by rfl) _ _ 53 (by rfl) B 115 i0 (.agg #[.int .i64 0,.int .i64 0,.int .i64 0,.int .i64 0,.int .i64 0,.int .i64 0,.int .i64 0,.bool false]) 64 Tryz.underlying53 hi ay aC av (by rfl) (.slice p T.length n) T (by rfl) (by exact H.o.q.rows) (some ⟨X.heap.size,0,none⟩) 1 1 [t] (by rfl) (by rfl) (by exact Sl.one1 eRow ii X 115 t (cs:=#[.int .i64 t.id,.int .i64 t.byr,.int .i64 t.slr,.int .i64 t.sec,.int .i64 t.qty,.int .i64 t.prc,.int .i64 0,.bool false]) rfl) (by simp only [Ai];unfold maxLen;omega) (by simp only [Ai];omega) aE ?_;intro v' w8 z f ae;have u:=z;rw [aD.o] at u;obtain ⟨n3,k3,rfl⟩:=ag u;clear u;have E:=aa (oP H.o f z ae ap ah ar.o hB0 au.o);have B2:=Blk.grown H.o.q.blk H.o.q.rows f (by decide);have F:=Blk.grown H.o.t H.o.q.rows f (by decide);have z0:=B2.c 8;have z1:=B2.free 8;have j:=And.intro (And.intro (F.c 0) (And.intro (F.c 1) (And.intro (F.c 2) (And.intro (F.c 3) (And.intro (F.c 4) (F.c 5)))))) (B2.c 9);have J:=F.far (k:=g) 8 (.slice n3 N9 k3) ah;have B4:=B2.set 8 (.slice n3 N9 k3);have l:=And.intro (And.intro (J.c 0) (And.intro (J.c 1) (And.intro (J.c 2) (And.intro (J.c 3) (And.intro (J.c 4) (J.c 5)))))) (B4.c 9))
   refine hKQ.out _ _ (by (try dsimp only);first | exact y | exact D | exact j | exact l | assumption | go_keep) (fun hHeld9=>?_);clear hKQ KQ;try simp only [Act.put,z4,z6,z7]
   refine az (i:=13) (d:=some 76) (v:=?_) rfl rfl (by kernel_rfl) (by kernel_rfl) (by kernel_rfl) (fun _ _ _ h=>h) (Or.inl ⟨by rfl,?_⟩) (by assumption) ?_;rotate_left
   ·(intro w b;(try dsimp only at b);go_simp;try with_reducible rfl)
   simp only [Act.put,z4,z6,z7];refine az (i:=14) (d:=some 77) (v:=?_) rfl rfl (by kernel_rfl) (by kernel_rfl) (by kernel_rfl) (fun _ _ _ h=>h) (Or.inl ⟨by rfl,?_⟩) (by assumption) ?_;rotate_left
   ·(intro w b;(try dsimp only at b);go_simp;try with_reducible rfl)
   simp only [Act.put,z4,z6,z7];refine wpAnyH_ready (rs:=[15]) (by kernel_rfl) (by simp) ?_;refine AllReadyH.cons rfl (fun KQ hKQ=>?_) AllReadyH.nil;go_simp
   refine hKQ.out _ _ (by (try dsimp only);first | exact y | exact D | exact j | exact l | assumption | go_keep) (fun hHeld9=>?_);clear hKQ KQ;try simp only [Act.put,z4,z6,z7]
   refine wpAnyH_done (by kernel_rfl) ?_ _;obtain ⟨M,hm⟩:=E.o;clear E f ae z z0 z1 B2 F B4 J y D j l;generalize (w8.setCell ⟨g,8,none⟩ (.slice n3 N9 k3))=Y at *;go_wp2_with fail;go_ret;exact am.o _ _ _ M hm HT.o
end
end Go.Proofs.YtmhohaanddglbaaGreatDoor
