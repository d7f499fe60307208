/- Lemmas for TopShares and TopKept; no law is closed here. -/
import Derived.Test.YtmhohaanddglbaaGreatDoorM05
set_option linter.all false
set_option maxRecDepth 100000
set_option maxHeartbeats 16000000
namespace Go.Proofs.YtmhohaanddglbaaGreatDoor
open Go.RowKit Go.Proofs.Tryz ZA ZU ZI ZD ZP ZR ZT ZS ZE ZO
variable{p:Prop}
def Qas(h:p:=by go_wp2_with(refine fQ rfl 197 _ _ rfl rfl w #[(),(),(),()] rfl rfl aj aD _ R2.o rfl ?_;intro M x;have q:=aa x;have s0:=x.row.c 0;have I:=x.row.c 1;have s2:=x.row.c 2;have s3:=x.row.c 3;clear x);refine wb (v:=.tuple #[.agg #[(),(),(),()],.bool false]) (by simp[results,results117,go_sem,s0,I,s2,s3]) rfl ?_;refine⟨P,v,HP.o,T.o,by rw[ab.o];rfl, ?_,I4 q.o b2,fun k hk=>bS hk⟩;rw[ab.o];exact⟨(q.o.far _ ae.o).bu Y.o.blk,ed Y.o.own fun k hk=>q.o.far k (by have:=ai.o k hk;omega),Y.o.l1⟩):p:=h
def QaW(h:p:=by rw[<-v];exact bI.new w 197 _):p:=h
def QaZ(h:p:=by go_roundw;exact⟨k+1,af,aw,by rw[R.o];exact N.o,t⟩;exact aV):p:=h
def Qa0(h:p:=by exact⟨Y.os,Y.tape,Y.output,Y.size,Y.block⟩):p:=h
def Qbd(h:p:=by rw[<-v];exact Boxed.new w c):p:=h
def Qbj(h:p:=by have m:=g.mod;exact⟨⟨h.blk.cu m ah,h.ct.cu m ah ah ah,g.blk,h.pw.cu m ah,g.own,dq h.used m ah,h.l1,h.l2,h.l3⟩,m.bC ah,rfl⟩):p:=h
def QbV(h:p:=by have e9:b=g:=(by simpa[Value.ownBlock]using hg);subst e9;exact iG ..):p:=h
def QbX(h:p:=by have e9:b=q:=(by simpa[Value.ownBlock]using e);subst e9;exact iG ..):p:=h
def Qb8(h:p:=by go_enter func327,ntmps327;go_wp2;go_ret;exact⟨_,rfl,bM _ _,fun h=>by cases h⟩):p:=h
def Qb9(h:p:=by go_wp2;go_ret;exact⟨A,by rw[q.o];rfl,by rw[q.o];exact jz.same k.o (gM E.o _)⟩):p:=h
def Qct(h:p:=by
  have:=n _ (bL _)
  have:2048*D.C.secs.length<=2048*8:=yO _ U
  omega):p:=h
def Qcu(h:p:=by clear h;go_enter func358,ntmps358;go_wp2;go_ret;exact⟨by simp[d],c⟩):p:=h
def QcS(h:p:=by have g:=bV a;obtain⟨W,K,rfl⟩:=g;go_ret;exact⟨_,rfl,a,b⟩):p:=h
def QcV(h:p:=by unfold dR at r;simp only[qW,decide_eq_true_eq]at r;exact r.1.1):p:=h
def Qc0(h:p:=by rw[<-a];exact(Boxed.new w c).keep aI):p:=h
def Qc6(h:p:=by rw[<-E];exact bI.new wr 125 (eR x)):p:=h
def Qc7(h:p:=by rw[<-E];exact bI.new wr 197 (dL x)):p:=h
def Qc8(h:p:=by rw[<-ac.gr];exact Y7.o.at'.blk.c 9):p:=h
def Qdd(h:p:=by simp[results,results9,go_sem,s0,I]):p:=h
def Qdo(h:p:=by simp[results,results72,go_sem]):p:=h
section
attribute [local go_sem ↓] wp_at_zero wp_at_succ
structure Fl where
 (seq mem cP cK cF n mJ:Int)
abbrev rD(x:Fl):Array Value:=#[x.seq,x.mem,x.cP,x.cK,x.cF,x.n,x.mJ]
def qL(x:Fl):List Value:=[x.seq,x.mem,x.cP,x.cK,x.cF,x.n,x.mJ]
def Am(x:Fl):(qL x).length=7:=rfl
def Xs(x:Fl):∀u∈qL x,u.oneCell'=true:=by intro u X;simp[qL]at X;rcases X with rfl|rfl|rfl|rfl|rfl|rfl|rfl<;>rfl
def Xt:(prog.info? 351).map (fun i=>(i.zero,i.size,i.bytes))=some (some (.agg #[(),(),(),(),(),(),()]),7,56):=aj
variable{W:bD}{b:Nat}
def Kl{o:Nat}{x:Fl}(h:∀j u,(qL x)[j]?=some u->W.cell? ⟨b,o+j,none⟩=some u):W.cell? (b,o)=x.seq/\W.cell? (b,o+1)=x.mem/\W.cell? (b,o+2)=x.cP/\W.cell? (b,o+3)=x.cK/\W.cell? (b,o+4)=x.cF/\W.cell? (b,o+5)=x.n/\W.cell? (b,o+6)=x.mJ:=by exact⟨h 0 _ rfl,h 1 _ rfl,h 2 _ rfl,h 3 _ rfl,h 4 _ rfl,h 5 _ rfl,h 6 _ rfl⟩
def tC(x:Bd):Bool:=decide (x.cK<1)||decide (x.cF<1)
def Xu:∀w,(isAgg 211).run prog w=.ok true w:=fun w=>aj
def Xv:∀w,(Go.sizeOf 211).run prog w=.ok 5 w:=sizeOf211
def Xw(x:Bd)(w:bD):bG 358 #[.agg (gX x).toArray] w (bi (.bool (tC x)) w):=by
 obtain⟨K,V,g,L,R⟩:=x;have c:Bw w (aZ w #[K,V,g,L,R] 211):=aI;unfold tC;show bG 358 #[.agg #[K,V,g,L,R]] w _;by_cases h:L<1
 ·have d:=dT h;exact Qcu
 ·have d:=dF h;exact Qcu
def Xx(a:Option Addr)(c:Nat)(fv:bE)(w:bD):bG 373 #[.slice a 0 c,fv] w (bj (-1:Int) w):=by go_enter func373,ntmps373;exact QaA
def Xy(a:Option Addr)(c:Nat)(fv:bE)(w:bD):bG 357 #[.slice a 0 c,fv] w (bj (.bool false) w):=by go_enter func357,ntmps357;go_wp2_with(go_at_call 373;refine(Xx a c fv _).bC ?_;rintro e i⟨rfl,rfl⟩);go_ret;exact⟨rfl,rfl⟩
def Xz:∀args w,(callFunc 358 args).run prog w=.ok (.enter 358 args) w:=enters_of func358 aj rfl
def XA(v:bE)(l:bF Bd)(w:bD)(hv:Sl gX 5 w v l):bG 357 #[v,.func (.func 358) #[] #[]] w (bi (.bool (l.any tC)) w):=by
 obtain⟨a,cap,rfl,O,d,c,P⟩:=hv;unfold maxLen at c;by_cases S:l.length=0
 ·obtain rfl:=lB S;exact(Xy a cap _ w).bC fun e w' ⟨he,hw⟩=>⟨by rw[he];rfl,by rw[hw];exact bM _ _⟩
 ·obtain⟨b,m,rfl,u,f⟩:=P af;have s:Go.Proofs.PredBelow prog 358 #[] (fun x=>.agg (gX x).toArray) tC w:=fun W y hW=>(Xw y W).bC fun e w' ⟨he,hw⟩=>⟨he,hW.bu (hw.bC hW.size)⟩;have h:=Go.Proofs.AnyQ.slices_ContainsFunc l357 5 Xu Xv gX oD tC 358 #[] Xz b m l cap l w s (bL _) af u (Sl.re (n:=0) (cap:=0) f);rw[ic]at h;exact h
def XC(v:bE)(l:bF Bd)(a b:Int)(w:bD)(hv:Sl gX 5 w v l)(hn:l.length<=1000):bG 327 #[v,a,b] w fun e w'=>∃y:Int,e=.returned y/\Bw w w'/\(y=0->∀x∈l,1<=x.cK/\1<=x.cF):=by
 have G:=aa (XA v l w hv);have V:Hid (l.any tC=false->∀x∈l,1<=x.cK/\1<=x.cF):=aa fun h x hx=>by
  have:=mP.1 h x hx
  unfold tC at this;simp at this;omega
 obtain⟨W,K,rfl,_⟩:=hv;have g:¬1024<(l:Int):=af;have k:=dF g;clear g;generalize l.any tC=q at*;by_cases d:a<0
 ·have j:=dT d;exact Qb8
 have j:=dF d;by_cases c:b<0
 ·have Q:=dT c;exact Qb8
 have Q:=dF c;cases q with
 |true=>
  go_enter func327,ntmps327;go_wp2_with(go_at_call 357;refine G.o.bC ?_;rintro e i⟨rfl,f⟩);go_ret;exact⟨_,rfl,f,fun h=>by cases h⟩
 |false=>
  go_enter func327,ntmps327;go_wp2_with(go_at_call 357;refine G.o.bC ?_;rintro e i⟨rfl,f⟩);go_ret;exact⟨_,rfl,f,fun _=>V.o aE⟩
def XD(n:Nat)(w:World)(e:Ending)(w':World):Prop:=∃v R y,e=.returned (.tuple #[v,aY y])/\w'.ownsRow w.heap.size 351 7 v R.length (bN qL R)/\R.length<=n/\(∀x∈R,bO x.n/\bO x.mJ)/\Bw w w'
def XE(v:bE)(l:bF Bd)(a b:Int)(w:bD)(hv:Sl gX 5 w v l)(hn:l.length<=1000)(h64:bO a):bG 265 #[v,aY a,aY b] w (XD l w):=by
 let⟨G,D⟩:=Jh2 (XC v l a b w hv hn) hv;obtain⟨W,K,rfl,_⟩:=hv;let⟨i0,p,S,aq,an⟩:=wm Xt;go_enter func265,ntmps265;refine wp_seq ?_;go_wp2_with fail;go_step3;refine wp_seq ?_;go_wp2_with fail;refine G.o.bC ?_;rintro e w1⟨y,rfl,c1,ai⟩;let⟨t,am⟩:=Jh2 c1 ai;clear c1 ai;by_cases B:y=0
 rotate_left
 ·have ar:(y !=0)=true:=by simpa using B
  go_wp2_with fail;try rw[Exit.noGoto_ret]
  go_ret2;exact⟨_,[],_,rfl,mQ _ _ _ _,cH _,(fun x hx=>by cases hx),t.o⟩
 have u:=aa (am.o B);subst B;go_wp2_with fail;go_step3;go_wp2;go_loopw[1,2,9,22] (fun v1 v2 v9 vi wr=>∃(k:Nat) (L:bF Fl) (a b:Int),k<=l.length/\vi=.int .i64 k/\v1=.int .i64 a/\v2=.int .i64 b/\wr.ownsRow w 351 7 v9 L.length (bN qL L)/\L.length<=k/\Bw w wr/\bO a/\∀x∈L,bO x.n/\bO x.mJ) (fun _ _ _ vi _=>l.length-(intOf vi).toNat);exact⟨0,[],_,_,cH _,rfl,rfl,rfl,mQ _ _ _ _,cH _,t.o,h64,fun x hx=>by cases hx⟩;obtain⟨k,L,a,b,hk,rfl,rfl,rfl,r,J,ad,I,A⟩:=hrel;let⟨m,ae⟩:=Jh2 I A;clear I A;let⟨Q,N⟩:=Jh2 r ad;obtain⟨V,d,rfl⟩:=bV r;have g:=ad.size;by_cases ak:k<l
 ·obtain⟨av,ao,bb,au,rfl,_,al⟩:=(D.o.keep ad).hd;let⟨r0,s,P,r3,r4⟩:=Bk (al k ak);have O:0<=(k:Int):=by omega
  have C:k<(l:Int):=by omega
  have aj:=u.o l[k] (cZ ak);unfold maxLen at ao;clear al r ad;generalize l[k]=x at*;have T:=aa (bI.new wr 211 (dV x));let⟨x3,R⟩:=T.o.k2 3 4;have Z:¬x.cF=0:=by omega
  go_wp2;go_region;let⟨n,j⟩:∃n,(if wrap64 (b.tdiv x.cF)<if a<x.cK then a else x.cK then wrap64 (b.tdiv x.cF)else if a<x.cK then a else x.cK)=n:=⟨_,rfl⟩;rw[j];have ah:Hid (bO n):=aa (by have h1:=m.o;have h2:=aj.1;unfold bO at h1⊢;rw[<-j];unfold wrap64;split<;>split<;>omega);have ab:=aa (show bI (wr.alloc (bH (dV x) 211)).drew wr 211 (dV x)from T.o);have af:=aa (show(wr.alloc (bH (dV x) 211)).drew.ownsRow w 351 7 (.slice V L.length d) L.length (bN qL L)from Q.o.alloc _);have Y:=(N.o.alloc g (bH (dV x) 211)).drew;let⟨X,E⟩:∃X,(wr.alloc (bH (dV x) 211)).drew=X:=⟨_,rfl⟩;rw[E]at ab af Y;rw[show(wr.alloc (bH #[aY x.seq,aY x.mem,aY x.cP,aY x.cK,aY x.cF] 211)).drew=X from E];have BX:=aa Y;let⟨f,x0,x1,x2⟩:=Jt4 Y.size (ab.o.c 0) (ab.o.c 1) (ab.o.c 2);clear x3 R;let⟨x3,R⟩:=ab.o.k2 3 4;clear j E T Y Z aj;by_cases ha:a=0
  ·have F:=beq_iff_eq.2 ha;clear ha;go_wp2_with fail;try rw[Exit.noGoto_ret]
   go_ret2;exact⟨_,L,0,rfl,af.o,by omega,ae.o,BX.o⟩
  have F:=xp.2 ha;by_cases ag:n=0
  ·have H:=beq_iff_eq.2 ag;clear ha ag;go_wp2;go_roundw;exact⟨k+1,L,a,b,by omega,by go_num,rfl,rfl,af.o,by omega,BX.o,m.o,ae.o⟩;exact aV
  have H:=xp.2 ag;clear ha ag;go_wp2_with(at_builtin;refine fG Am (by decide) Xs _ rfl _ _ 345 rfl w 351 i0 (.agg #[(),(),(),(),(),(),()]) 56 underlying345 p S aq an (by rfl) (.slice V L.length d) L rfl (af.o.alloc _) (some ⟨X.heap.size,0,none⟩) 1 [⟨x.seq,x.mem,x.cP,x.cK,x.cF,n,wrap64 (n*x.cF)⟩] rfl (Sl.fg qL Am _ 351 _ (by rfl) _ rfl) Qaj (by show(L.length+1)*56<=_;omega) (by simp;omega) ?_;intro v' w2 r ac M;have b4:=aa ((BX.o.alloc f (bH (rD ⟨x.seq,x.mem,x.cP,x.cK,x.cF,n,wrap64 (n*x.cF)⟩) 351)).grown ac (by simp;omega) (fun q F=>(af.o.lt q F).1));have X2:=aa ((ac.block wr (by have:=ab.o.lt;simp;omega) (fun e=>by have:=(Q.o.lt _ e.symm).2;omega)).bu (ab.o.alloc (bH (rD ⟨x.seq,x.mem,x.cP,x.cK,x.cF,n,wrap64 (n*x.cF)⟩) 351)));have y4:=bI.c (show bI w2 wr 211 (dV x)from X2.o) 4;have ap:=aa r;obtain⟨n2,U,rfl⟩:=bV r;clear ac M r);go_roundw
  case rel=>exact⟨k+1,L++[⟨x.seq,x.mem,x.cP,x.cK,x.cF,n,wrap64 (n*x.cF)⟩],_,_,by omega,by go_num,rfl,rfl,by have h:=ap.o;rw[cO,eN]at h⊢;exact h,by rw[cO,eN];omega,b4.o,by unfold bO wrap64;omega,fun z hz=>by
   rcases xq.1 hz with hz|hz
   ·exact ae.o z hz
   ·simp at hz;subst hz;exact⟨ah.o,show bO (wrap64 (n*x.cF)) by unfold bO wrap64;omega⟩⟩
  case measure=>exact aV
 ·obtain rfl:k=l.length:=by omega
  have i:¬(l.length<(l:Int)):=by omega
  go_wp2_with fail;try rw[Exit.noGoto_ret]
  go_ret2;exact⟨_,L,0,rfl,Q.o,J,ae.o,N.o⟩
def XF(v:bE)(l:bF Fl)(w:bD)(hv:Sl qL 7 w v l):bG 268 #[v] w fun e w'=>∃n:Int,e=.returned n/\bO n/\Bw w w':=by
 have M:=aa hv;obtain⟨V,d,rfl,_⟩:=hv;go_enter func268,ntmps268;go_wp2;go_loopw[3,8] (fun vn vi wr=>Bw w wr/\∃(k:Nat) (n:Int),k<=l.length/\vi=k/\vn=n/\bO n) (fun _ vi _=>l.length-(intOf vi).toNat);exact⟨bM _ _,0,0,cH _,rfl,rfl,aJ⟩;obtain⟨u,k,n,p,rfl,rfl,H⟩:=hrel;let⟨N,K⟩:=Jh2 u (M.o.keep u);have g:=u.size;have I:=aa H;clear u H;by_cases h:k<l
 ·obtain⟨F,c,b,m,rfl,y,a⟩:=K.o.hd;let⟨q,s,P,f,j,r,Q⟩:=Kl (a k h);unfold maxLen at c;have O:0<=(k:Int):=af;have C:k<(l:Int):=af;generalize l[k]=x at*;clear a;exact QbW
 ·obtain rfl:k=l.length:=af;have i:¬(l.length<(l:Int)):=af;go_wp2;go_ret;exact⟨_,rfl,I.o,N.o⟩
variable{k g:Nat}{w:bD}{cs:Array bE}
def Sl.blk{α:Type}{enc:α->bF bE}{T:TypeId}{l:bF α}(n:Nat)(hk:∀x,(enc x).length=k)(h:bI w g T cs)(hc:cs.toList=bN enc l)(hn:l.length=n)(h0:n<=1000):Sl enc k w (.slice (some (be g 0)) n n) l:=by
 subst hn;refine⟨some (be g 0),l.length,rfl,(fun h=>by cases h),bL _,az,fun _=>⟨g,0,rfl,h.lt,fun i hi j u hu=> ?_⟩⟩;have J:j<k:=by have:=(ada.1 hu).1;rwa[hk]at this
 have e:=Bc enc k hk l i hi j J;rw[h.c,fW,<-Array.getElem?_toList,hc,e];exact hu
variable{a:Int}
def An{b:Int}:bO (jt a b):=by
 unfold jt;split
 ·unfold bO;omega
 ·split
  ·assumption
  ·unfold bO;omega
def XG(D:DS)(s:Int):bO (D.short s):=by
 unfold DS.short lI;split
 ·unfold bO;simp
 ·split
  ·unfold bO;simp
  ·exact An
def yu(n:Int):bO (wrap64 n):=by unfold bO wrap64;omega
variable{B:Nat}{D:DS}
def Km{gd:Nat}{A:DA}(eg:A.gd=gd)(h:cQ w B A D)(ok:cC D):bG 267 #[ptr gd] w fun e w'=>∃n:Int,e=.returned n/\bO n/\Bw w w':=by
 subst eg;let⟨m,l,d⟩:=Jh3 h ok (ru ok ⟨1,0⟩ 0);have t:=wA ok 0;have k:=aa (fun(W:bD) v (hv:Sl df 3 W v (D.good 0))=>DI v (D.good 0) W hv af (fun x hx=>yf _ _ x hx));have i:=aa (Ew (D.good 0));let⟨b,u⟩:=aH (D.eQ ⟨1,0⟩ 0);have J:=aa u;rw[u]at d;let⟨q,a⟩:=aH ((ei (D.good 0)).1);rw[a]at k i;have K:Hid (Bw w (aZ w (cT ⟨1,0⟩) 81)):=aa aI;clear h ok u a;go_enter func267,ntmps267;go_wp2_with(first
  |(go_at_call 155;refine(mZ _).bC ?_;rintro e V⟨rfl,rfl⟩)
  |(go_at_call 137;refine(uK rfl (m.o.keep K.o) l.o ⟨1,0⟩ 0).bC ?_;rintro e g⟨rfl,f⟩;rw[J.o];have j:=aa (K.o.bu (f.bC K.o.size));clear f)
  |(go_at_call 203;refine(JY rfl (m.o.keep j.o) l.o 0).bC ?_;rintro e L⟨C,rfl,S,F⟩;have E:=aa (j.o.bu (F.bC j.o.size));have c:=aa (Sl.own eG S);obtain⟨r,y,rfl⟩:=bV S;clear S F)
  |(go_at_call 214;refine(k.o _ _ c.o).bC ?_;rintro e R⟨rfl,p⟩;have s:=aa (E.o.bu (p.bC E.o.size));clear p)
  |(go_at_call 166;refine(xJ b q d.o i.o _).bC ?_;rintro e z⟨rfl,rfl⟩))
 go_ret;exact⟨_,rfl,An,s.o⟩
def DS.lN(D:DS):Nat:=D.most+2*D.cv.length
def XH{gd:Nat}{A:DA}(e:A.gd=gd)(h:cQ w B A D):w.cell? (be gd 10)=some (ptr A.gx):=by subst e;exact h.blk.c 10
def yv(s:Int)(x:Fl):List En:=[⟨7,x.mem,s,IntKind.i64.wrap (-x.n)⟩,⟨1,0,s,x.n⟩,⟨1,0,0,IntKind.i64.wrap (-x.mJ)⟩,⟨7,x.mem,0,x.mJ⟩]
abbrev EF(s:Int)(x:Fl):Array Value:=#[(7:Int),x.mem,s,IntKind.i64.wrap (-x.n),(1:Int),(),s,x.n,(1:Int),(),(),IntKind.i64.wrap (-x.mJ),(7:Int),x.mem,(),x.mJ]
def Ao(s:Int)(x:Fl):List Ev:=[⟨12,x.mem,s,x.n,x.seq⟩,⟨19,x.mem,0,x.mJ,x.seq⟩]
abbrev evC(s:Int)(x:Fl):Array Value:=#[(12:Int),x.mem,s,x.n,x.seq,(19:Int),x.mem,(),x.mJ,x.seq]
def XI(s:Int)(x:Fl):eM (Ao s x):=fun y hy=>by
 simp[Ao]at hy;rcases hy with rfl|rfl
 ·exact bS (show(12:Int)<13 by decide)
 ·exact ci (show(15:Int)<19 by decide)
def XJ(s:Int){x:Fl}(h1:bO x.n)(h2:bO x.mJ):∀y∈yv s x,bO y.bJ:=fun y hy=>by
 simp[yv]at hy;rcases hy with rfl|rfl|rfl|rfl
 ·show bO (IntKind.i64.wrap (-x.n));rw[xE];exact yu _
 ·exact h1
 ·show bO (IntKind.i64.wrap (-x.mJ));rw[xE];exact yu _
 ·exact h2
variable{K:bF Nat}
def XK{s:Int}(ok:cC D)(hb:D.cv.length<=1000)(hlog:D.log.length+D.lN<=1000000):tB B K D s (eH D.lN D):=fun W A hA hK hB=>by
 by_cases h0:D.short s=0
 ·exact(Kd ok h0 W A hA hK hB).bC fun e w' ⟨A',D',he,st,e2⟩=>⟨A',D',he,st,by rw[e2];exact(eH.refl ok).bC (cH _)⟩
 have HSH:=aa (zV hA ok s);have HS64:=aa (XG D s);obtain⟨sh,hsh⟩:=aH (D.short s);rw[hsh]at HSH HS64 h0;have hne:(sh==0)=false:=aG h0;have HA:=aa hA;have HK:=aa hK;have OK:=aa ok;have HBN:=aa hb;have HLOG:=aa hlog;have hw1000:D.who.length<=1000:=ok.who;clear h0 hA hK ok hsh hb hlog;go_enter func215,ntmps215;go_wp2_with(go_at_call 162;refine HSH.o.bC ?_;rintro e w1⟨rfl,c1⟩;have C1:=aa c1;have D1:=aa (HA.o.keep c1);clear c1);obtain⟨nw,kw,hS0,hsl⟩:=wH rfl (D1.o.d (wd:=w1.drew));have HSL:=aa hsl;have N0:=aa (j7.start w1 B A D D1.o);clear hsl;go_wp2;go_region_held3(fun X=>X.cell? (be A.gd 11)=some (.slice nw D.who kw)) (first|exact hS0|exact s1|exact s2|assumption|go_keep)
  (first
   |(go_at_call 263;refine(Ki N0.o.2 OK.o).bC ?_;rintro e x1⟨vc,vf,p,rfl,hpl,hpn,c64,f64,lR,jR,c1⟩;have N1:=aa (N0.o.keep c1);have HPL:=aa hpl;have C64:=aa c64;have F64:=aa f64;have L64:=aa lR;have K64:=aa jR;have SL1:=aa (HSL.o.keep c1);have s1:x1.cell? (be A.gd 11)=some (.slice nw D.who kw):=(c1.c (p:=(be A.gd 11)) N0.o.2.blk.lt).bu hS0;clear c1 hpl c64 f64 lR jR hpn)
   |(go_at_call 264;refine(Wi vc vf _ p D.who x1 HPL.o SL1.o hw1000 C64.o F64.o L64.o K64.o).bC ?_;rintro e x2⟨rm,y,rfl,hr64,c2⟩;have N2:=aa (N1.o.keep c2);have R64:=aa hr64;have s2:x2.cell? (be A.gd 11)=some (.slice nw D.who kw):=(c2.c (p:=(be A.gd 11)) N1.o.2.blk.lt).bu s1;clear c2 hr64))
 all_goals
  rename_i hHeldX;clear hHeldX s1 s2 hS0 N1 HPL C64 F64 L64 K64 SL1 HSL N0;have C2:=aa (C1.o.bu (N2.o.1.bC C1.o.size));have q10:=XH rfl N2.o.2;clear N2 D1 C1;go_wp2_with(first
   |(go_at_call 266;refine(Xr (HA.o.keep C2.o) HBN.o s).bC ?_;rintro e x3⟨v3,L3,rfl,o3,l3,c3⟩;have C3:=aa (C2.o.bu (c3.bC C2.o.size));have S3:=aa (Sl.own oD o3);have LL3:=aa l3;obtain⟨n3,k3,rfl⟩:=bV o3;clear o3 l3 c3)
   |(go_at_call 267;(first
     |(refine(Km rfl (HA.o.keep C5.o) OK.o).bC ?_;rintro e x6⟨by2,rfl,by264,c6⟩;have C6:=aa (C5.o.bu (c6.bC C5.o.size));have O6:=aa (cJ O5.o c6);clear c6)
     |(refine(Km rfl (HA.o.keep C3.o) OK.o).bC ?_;rintro e x4⟨by1,rfl,by164,c4⟩;have C4:=aa (C3.o.bu (c4.bC C3.o.size));have S4:=aa (S3.o.keep c4);clear c4)))
   |(go_at_call 265;refine(XE _ L3 sh _ x4 S4.o (bW LL3.o HBN.o) HS64.o).bC ?_;rintro e x5⟨v5,R,y5,rfl,o5,l5,r5,c5⟩;have C5:=aa (C4.o.bu (c5.bC C4.o.size));have O5:=aa o5;have RL:=aa (bW l5 LL3.o);have R64:=aa r5;obtain⟨n5,k5,rfl⟩:=bV o5;clear o5 l5 r5 c5)
   |(go_at_call 268;refine(XF _ R x5 (Sl.own Am O5.o)).bC ?_;rintro e x5b⟨co,rfl,co64,c5b⟩;have C5:=aa (C5.o.bu (c5b.bC C5.o.size));have O5:=aa (cJ O5.o c5b);clear c5b)
   |(go_at_call 212;refine(EE OK.o (yu _) (by have:=HLOG.o;unfold DS.lN at this;omega) x6 A (HA.o.keep C6.o) (HK.o.keep C6.o) (bW hB C6.o.size)).bC ?_;rintro e x7⟨A7,D7,rfl,st7,lx7⟩;have ST7:=aa ((cL.same (K:=K) HA.o C6.o).bu st7);have LX7:=aa lx7;have O7:=aa (dq O6.o st7.mod ah);clear st7 lx7))
  clear LL3 S3 S4 O5 O6 C2 C3 C4 C5 C6;go_loopw[51] (fun vi wr=>∃(k:Nat) (A':DA) (D':DS),k<=R.length/\vi=k/\cL B K W wr A A' D'/\eH (D.most+2*k) D D'/\wr.ownsRow x4 351 7 (.slice n5 R k5) R (bN qL R)) (aW R);exact⟨0,A7,D7,cH _,rfl,ST7.o,LX7.o,O7.o⟩;obtain⟨k,A',D',hk,rfl,hst,hlx,hown⟩:=hrel;have HST:=aa hst;have LX:=aa hlx;have HO:=aa hown;have hsz:=hst.mod.size;obtain⟨a3,cap3,hw',_,g1',g2',gc'⟩:=Sl.own Am hown;clear hst hlx hown;by_cases hlt:k<R
  ·obtain⟨e1,e2⟩:n5=a3/\k5=cap3:=aG hw';subst e1 e2;obtain⟨b,off,rfl,hbb,hcl⟩:=gc' af;obtain⟨r0,r1,r2,r3,r4,r5,r6⟩:=Kl (hcl k hlt);have HX64:=aa (R64.o _ (cZ hlt));obtain⟨x,hx⟩:=aH (R[k]);rw[hx]at r0 r1 r2 r3 r4 r5 r6 HX64;have hi1:0<=(k:Int):=af;have hi2:k<(R:Int):=af;unfold maxLen at g2';have cX:Bw wr (aZ wr (rD x) 351):=aI;have X1:=aa (bI.new wr 351 (rD x));have ST1:=aa (HST.o.keep cX);have HO1:=aa (cJ HO.o cX);have hm1:=X1.o.c 1;clear hcl gc' hw' hx cX;have N3:=aa (j7.start (aZ wr (rD x) 351) B A' D' ST1.o.at');have X3:=aa (X1.o.d (wd:=(wr.alloc (bH (rD x) 351)).drew));have hS3:=ch (jC ST1.o.gd N3.o.2) (ch (X3.o.c 5) (X3.o.c 6));have HK3:=aa (HK.o.step ST1.o);have HB3:=aa (show B<=(wr.alloc (bH (rD x) 351)).heap.size from bW hB ST1.o.mod.size);have OKk:=aa LX.o.ok;have hll:=LX.o.len;have hN:bO x.n:=HX64.o.1;have hCo:bO x.mJ:=HX64.o.2;have HEN:=aa (XJ s hN hCo);go_wp2;go_region_held3(fun X=>X.cell? (be A.gd 8)=some (ptr A'.gv)/\X.cell? (be wr 5)=some (.int .i64 x.n)/\X.cell? (be wr 6)=some (.int .i64 x.mJ)) (first|exact hS3|exact hS4|exact hS5|exact hS6|exact hS7|exact hS8|exact hS9|assumption|go_keep)
    (first
     |(go_at_call 140;(first
       |(refine(qZ x.mem _).bC ?_;rintro e x9⟨rfl,hx9⟩;have N7:Hid (j7 (aZ wr (rD x) 351) B A' D' x9):=aa (by rw[hx9];exact N6.o.alloc _);have X7:Hid (bI x9 wr 351 (rD x)):=aa (by rw[hx9];exact X6.o.alloc _);have hS7:=ch (jC ST1.o.gd N7.o.2) (ch (X7.o.c 5) (X7.o.c 6));have N8:=aa (N7.o.alloc (bH (EF s x) 231));have X8:=aa (X7.o.alloc (bH (EF s x) 231));have F8:=aa (bI.new x9 231 (EF s x));have hS8:=ch (jC ST1.o.gd N8.o.2) (ch (X8.o.c 5) (X8.o.c 6));clear hx9)
       |(refine(qZ x.mem _).bC ?_;rintro e x9⟨rfl,rfl⟩;have N4:=aa (N3.o.alloc (bH (cT ⟨7,x.mem⟩) 81));have X4:=aa (X3.o.alloc (bH (cT ⟨7,x.mem⟩) 81));have hS4:=ch (jC ST1.o.gd N4.o.2) (ch (X4.o.c 5) (X4.o.c 6)))))
     |(go_at_call 155;(first
       |(refine(mZ _).bC ?_;rintro e x9⟨rfl,rfl⟩;have N6:=aa (N5.o.alloc (bH (cT ⟨1,0⟩) 81));have X6:=aa (X5.o.alloc (bH (cT ⟨1,0⟩) 81));have hS6:=ch (jC ST1.o.gd N6.o.2) (ch (X6.o.c 5) (X6.o.c 6)))
       |(refine(mZ _).bC ?_;rintro e x9⟨rfl,rfl⟩;have N5:=aa (N4.o.alloc (bH (cT ⟨1,0⟩) 81));have X5:=aa (X4.o.alloc (bH (cT ⟨1,0⟩) 81));have hS5:=ch (jC ST1.o.gd N5.o.2) (ch (X5.o.c 5) (X5.o.c 6)))))
     |(go_at_call 141;refine(Jc (K:=K) N8.o.2 OKk.o (HK3.o.keep N8.o.1) (bW HB3.o N8.o.1.size) _ (yv s x) (Sl.blk 4 Cp F8.o rfl rfl ah) (by show 4<=1000000;omega) HEN.o).bC ?_;rintro e x10⟨gb,vb,pp,rfl,st9⟩;have ST9:=aa (ST1.o.bu (st9.before N8.o.1));have X9:=aa (X8.o.cu st9.mod ah);have hS9:=ch (show x10.cell? (be A.gd 8)=some (ptr A'.gv)from jC (A:={A' with gb:=gb,vb:=vb,dd:=pp}) ST9.o.gd ST9.o.at') (ch (X9.o.c 5) (X9.o.c 6));have HO9:=aa (dq (cJ HO1.o N8.o.1) st9.mod ah);clear st9))
   all_goals
    rename_i hHeldY;clear hHeldY hS3 hS4 hS5 hS6 hS7 hS8 hS9 r0 r1 r2 r3 r4 r5 r6 N3 N4 N5 N6 N7 N8 X3 X4 X5 X6 X7 X8 F8 X1;have u0:=X9.o.c 0;have u5:=X9.o.c 5;have u6:=X9.o.c 6;have HK9:=aa (HK.o.step ST9.o);have OK9:=aa (OKk.o.post (yv s x));have cY:Bw x10 (x10.alloc (bH (evC s x) 101)):=aI;have HT:=aa (tx (K:=K) ST9.o.gd (ST9.o.at'.keep cY) (HK9.o.keep cY) (bW hB (bW ST9.o.mod.size cY.size)) (Ao s x) (be x10 0) 2 (Sl.blk 2 jg (bI.new x10 101 (evC s x)) rfl rfl ah) (by show D'.log.length+2<=1000000;have h1:=HLOG.o;have h2:=RL.o;unfold DS.lN at h1;omega));have HO10:=aa (cJ HO9.o cY);have LX2:=aa ((LX.o.bu (eH.post OKk.o (yv s x))).bu (eH.tell OK9.o (Ao s x) (XI s x)));go_wp2_with(go_at_call 164;refine HT.o.bC ?_;rintro e w12⟨A8,rfl,st8⟩;have ST8:=aa ((ST9.o.keep cY).bu st8);have HO8:=aa (dq HO10.o st8.mod ah);clear st8);go_roundw;exact⟨k+1,A8,_,af,aw,ST8.o,LX2.o.bC (by show D.most+2*k+0+2<=_;omega),HO8.o⟩;exact aV
  ·obtain rfl:k=R.length:=af;have hk9:¬(R.length<(R:Int)):=af;go_wp2_with fail;refine bodyPost_end (results_none rfl _ _ _) rfl ?_;exact⟨rfl,A',D',HST.o,LX.o.bC (by have:=RL.o;unfold DS.lN;omega)⟩
def kA(C:bZ)(x:Lg):Int×Int:=if fX C x.bK then(if x.bJ<1 then(0,1)else dK (x.bJ*oV C x.bK))else(0,10)
variable{C:bZ}
def XL(hv:dz C)(h:fX C a):bO (oV C a):=by
 have c:=h;unfold fX at h;unfold oV;rw[yc c];have b:(a-1).toNat<C.secs:=af;rw[dG b];have:=hv.secs _ (cZ b)
 show bO (C.secs[(a-1).toNat]).cF;unfold bO;omega
def XM(vm vs vc:bE)(C:bZ)(x:Lg)(w:bD)(hc:dM w vm vs vc C)(hv:dz C)(h64:bO x.bJ):bG 332 #[eT vm vs vc C,vLg x] w (bi (bg (kA C x)) w):=by
 let⟨g,v⟩:=aH ((w.alloc (bH (cU vm vs vc C) 26)).alloc (bH (dI x) 120));have b:Bw w g:=by rw[<-v];exact aI.alloc au _
 have z:bI g w 26 (cU vm vs vc C):=by rw[<-v];exact(bI.new w 26 _).alloc _
 have F:bI g (w.heap.size+1) 120 (dI x):=by rw[<-v];exact heap_alloc2_new _ _ _
 let⟨j,N,Y,y,K,J,p,X⟩:=s8 z;have M:g.cell? (be (w.heap.size+1) 1)=x.bK:=F.c 1;let⟨Z,A,u⟩:=Jh3 F v (IT vm vs vc C g (hc.keep b) x.bK);let⟨⟨s,P⟩,D⟩:∃r,kA C x=r:=⟨_,rfl⟩;rw[D];unfold kA at D;let⟨n,t⟩:=Jh2 h64 b;have h:Hid (fX C x.bK->bO (oV C x.bK)):=aa (XL hv);clear v z F b hc h64 hv;by_cases L:fX C x.bK
 ·rw[yc L]at D;rw[yc L]at u;have I:=aa L;by_cases ha:x.bJ<1
  ·rw[yc ha]at D;obtain⟨rfl,rfl⟩:(0:Int)=s/\(1:Int)=P:=aG D;have l:=dT ha;clear D L;go_enter func332,ntmps332;go_wp2_with fail;rw[show(w.alloc (bH #[vm,vs,vc,C.line,C.capital,C.lead,C.cj,C.cv] 26)).alloc (bH #[x.mem,x.bK,x.bJ] 120)=g from A.o];go_wp2_with(go_at_call 144;refine u.o.bC ?_;rintro e k⟨d,rfl,m,f⟩;have H:=((Z.o.keep f).alloc (bH (iQ d) 127)).c 2;have a:=aa (f.alloc f.size (bH (iQ d) 127));clear f m);go_ret2;exact⟨rfl,t.o.bu (a.o.bC t.o.size)⟩
  ·rw[ya ha]at D;have l:=dF ha;have q:=aa D;have G:=aa (fun W=>GM x.bJ (oV C x.bK) n.o (h.o I.o) W);rw[q.o]at G;clear D L ha;go_enter func332,ntmps332;go_wp2_with fail;rw[show(w.alloc (bH #[vm,vs,vc,C.line,C.capital,C.lead,C.cj,C.cv] 26)).alloc (bH #[x.mem,x.bK,x.bJ] 120)=g from A.o];go_wp2_with(first|(go_at_call 144;refine u.o.bC ?_;rintro e k⟨d,rfl,m,f⟩;have H:=((Z.o.keep f).alloc (bH (iQ d) 127)).c 2;have B:=(bI.new k 127 (iQ d)).c 0;have a:=aa (f.alloc f.size (bH (iQ d) 127));have U:=aa (m I.o);clear f m)|(go_at_call 229;rw[U.o];refine(G.o _).bC ?_;rintro e O⟨rfl,i⟩;subst i));go_ret2;have E:=a.o;dsimp only[iQ]at E;rw[U.o]at E;exact⟨rfl,t.o.bu (E.bC t.o.size)⟩
 ·rw[ya L]at D;rw[ya L]at u;obtain⟨rfl,rfl⟩:(0:Int)=s/\(10:Int)=P:=aG D;clear D L;go_enter func332,ntmps332;go_wp2_with fail;rw[show(w.alloc (bH #[vm,vs,vc,C.line,C.capital,C.lead,C.cj,C.cv] 26)).alloc (bH #[x.mem,x.bK,x.bJ] 120)=g from A.o];go_wp2_with(go_at_call 144;refine u.o.bC ?_;rintro e k⟨d,rfl,m,f⟩;have a:=aa (f.alloc f.size (bH (iQ d) 127));clear f m);go_ret2;exact⟨rfl,t.o.bu (a.o.bC t.o.size)⟩
def pX(C:bZ):List Lg->Int
 |[]=>0
 |x::l=>if(kA C x).2≠0 then(kA C x).2 else pX C l
def XN(C:bZ):∀(l:bF Lg) (k:Nat) (hk:k<l),(∀j (hj:j<k) (h2:j<l.length),(kA C l[j]).2=0)->(kA C l[k]).2≠0->pX C l=(kA C l[k]).2:=by
 intro l;induction l with
 |nil=>intro k hk;exact xl hk au
 |cons x l ih=>
  intro k hk h u;cases k with
  |zero=>simp only[pX,jr]at u⊢;rw[yc u]
  |succ k=>
   have O:=h 0 af au;simp only[jr]at O;simp only[pX,O,qj]at u⊢;rw[ya au];exact ih k (aG hk) (fun j hj h2=>h (j+1) af (aG h2)) u
def XO(C:bZ):∀(l:bF Lg),(∀j (h2:j<l.length),(kA C l[j]).2=0)->pX C l=0:=by
 intro l;induction l with
 |nil=>intro _;rfl
 |cons x l ih=>
  intro h;have O:=h 0 au;simp only[jr]at O;simp only[pX,O];rw[ya au];exact ih fun j h2=>by have:=h (j+1) (aG h2);simpa using this
def mf(C:bZ)(x:Lg):Lg:=⟨x.mem,x.bK,(kA C x).1⟩
def kB(C:bZ)(l:List Lg):List Lg×Int:=if 1024<l.length then([],6)else if pX C l≠0 then([],pX C l)else fS (fI (l.map (mf C)))
def XP(C:bZ)(l:bF Lg)(k:Nat)(h:k<l):fI ((l.take (k+1)).map (mf C))=di l[k].mem (kA C l[k]).1 (fI ((l.take k).map (mf C))):=by
 have c:k<(l.map (mf C)).length:=by rw[cR];exact h
 have:=JT (l.map (mf C)) k c
 rw[<-List.map_take,<-List.map_take,lj]at this;exact this
def Kn(C:bZ)(x:Lg):bO (kA C x).1:=by
 unfold kA;split
 ·split
  ·unfold bO;omega
  ·exact Ep _
 ·unfold bO;omega
def XQ(vm vs vc v:bE)(C:bZ)(l:bF Lg)(w:bD)(hc:dM w vm vs vc C)(hv:dz C)(hl:Sl df 3 w v l)(hn:l.length<=100000)(hm:∀x∈l,bO x.mem)(h64:∀x∈l,bO x.bJ):bG 272 #[eT vm vs vc C,v] w fun e w'=>∃u er,e=.returned (.tuple #[u,aY er])/\w'.ownsRow w.heap.size 120 3 u (kB C l).1.length (bN df (kB C l).1)/\Bw w w':=by
 have bx:∀w:bD,(Instr.makeMap 409 none).run prog w=.ok (.map (some w.heap.size)) (w.alloc (.map #[] 0)):=fun w=>rfl;let⟨U,ae⟩:=aH (w.alloc (bH (cU vm vs vc C) 26));have aN:=aa ae;have P:Bw w U:=by rw[<-ae];exact aI
 have bp:U.heap.size=w.heap.size+1:=by rw[<-ae];simp
 have k0:bI U w.heap.size 26 (cU vm vs vc C):=by rw[<-ae];exact bI.new w 26 _
 let⟨B0,HC,HV,HL,HM,a4⟩:=Jh6 P hc hv hl hm h64;have f:Hid (kB C l=if 1024<l.length then([],6)else if pX C l≠0 then([],pX C l)else fS (fI (l.map (mf C)))):=aa rfl;obtain⟨n1,k1,rfl,_⟩:=hl;clear ae hc hv hm h64;by_cases ag:1024<l.length
 ·have hd:=dT (show(1024:Int)<(l.length:Int) by omega);have HR:Hid (kB C l=([],6)):=aa (by rw[f.o,yc ag]);clear ag k0 P;go_enter func272,ntmps272;go_wp2_with fail;rw[show w.alloc (bH #[vm,vs,vc,C.line,C.capital,C.lead,C.cj,C.cv] 26)=U from aN.o];go_ret2;exact⟨_,6,rfl,by rw[HR.o];exact wG _ _,B0.o⟩
 have hd:=dF (show¬(1024:Int)<(l.length:Int) by omega);have bz:l.length<=1024:=af;let⟨O,D⟩:=aH (U.alloc (.map #[] 0));let⟨M,X⟩:=aH U.heap.size;have m:w.heap.size<M:=af;have bo:O.heap.size=M+1:=by rw[<-D,<-X];simp
 have bl:Hid (et O M vI []):=aa (by rw[<-D,<-X];exact(fF.new U vI).mid.map);have aD:fF O O.heap.size M vI (fI ((l.take 0).map (mf C))) []:=⟨rfl,⟨bl.o,⟨rfl,fun i h=>xl h (by simp[fI]),fun i j h=>xl h au⟩⟩⟩;have B3:Bw w O:=by rw[<-D];exact P.alloc P.size _
 have K3:Hid (bI O w.heap.size 26 (cU vm vs vc C)):=aa (by rw[<-D];exact k0.alloc _);let⟨bc,a9⟩:=Jh2 aD B3;have bh:Hid (∀wr,ec [M] O wr->Bw w wr):=aa fun wr hm=>hm.low a9.o (fun k hk=>by rw[List.mem_singleton.1 hk];omega);have a1:Hid (∀wr,ec [M] O wr->bI wr w.heap.size 26 (cU vm vs vc C)):=aa fun wr hm=>(hm.far w.heap.size af aA).bu K3.o;let⟨S,bk⟩:=Jh2 D X;have bn:Hid (w.heap.size+1=M):=aa af;let⟨j0,hj,a8,bm,F⟩:=wm Er;clear D X aD B3 P k0 ag;go_enter func272,ntmps272;go_wp2_with fail;rw[show w.alloc (bH #[vm,vs,vc,C.line,C.capital,C.lead,C.cj,C.cv] 26)=U from aN.o];rw[show U.alloc (.map #[] 0)=O from S.o];try rw[show w.heap.size+1=M from bn.o]
 try rw[show U.heap.size=M from bk.o]
 go_loopw[17] (fun vi wr=>∃(k:Nat) (bv:bF bE),k<=l.length/\vi=k/\fF wr O.heap.size M vI (fI ((l.take k).map (mf C))) bv/\ec [M] O wr/\∀j (h:j<l.length),j<k->(kA C l[j]).2=0) (aW l.length);exact⟨0,[],cH _,rfl,bc.o,ec.refl _ _,fun j _ h=>af⟩;obtain⟨k,bv,hk,rfl,hG,K,av⟩:=hrel;let⟨HG,a6,Q,a,KW⟩:=Jh5 hG K av (bh.o _ K) (a1.o _ K);clear hG K av;by_cases ad:k<l.length
 ·obtain⟨bK,bb,b,bw,rfl,_,n⟩:=(HL.o.keep a.o).hd;let⟨r0,r1,r2⟩:=kL (n k ad);have bs:0<=(k:Int):=af;have br:k<(l.length:Int):=af;unfold maxLen at bb;have ai:=aa (XP C l k ad);have N:Hid (∀p∈fI ((l.take k).map (mf C)),p.2.length<=10000):=aa fun p hp=>by have:=(wE ((l.take k).map (mf C))).2 p hp;rw[cR,dx]at this;omega
  have aF:=aa (a4.o _ (cZ ad));have g:Hid ((kA C l[k]).2≠0->pX C l=(kA C l[k]).2):=aa (XN C l k ad (fun j hj h2=>Q.o j h2 hj));have an:Hid ((kA C l[k]).2=0->∀j (h:j<l.length),j<k+1->(kA C l[j]).2=0):=aa (fun h0 j h hj=>by
   rcases fA j k with h2|h2
   ·exact Q.o j h h2
   ·obtain rfl:j=k:=af;exact h0)
  clear n Q;generalize l[k]=x at*;let⟨G,aJ⟩:=aH (fI ((l.take k).map (mf C)));rw[aJ]at HG ai N;clear aJ;have cX:Bw wr (aZ wr (dI x) 120):=aI;have xb:bI (aZ wr (dI x) 120) wr.heap.size 120 (dI x):=bI.new wr 120 (dI x);let⟨aT,aq⟩:=Jh2 xb cX;have s:bI (aZ wr (dI x) 120) w.heap.size 26 (cU vm vs vc C):=KW.o.alloc _;let⟨c0,c1,c2,c3,c4,c5,c6,c7⟩:=s8 s;let⟨x0,x1,x2⟩:=xb.k3 0 1 2;have J:w.heap.size<=wr.heap.size:=a.o.size;have al:Hid (Bw w (aZ wr (dI x) 120)):=aa (a.o.bu (aq.o.bC J));have A:=aa (XM vm vs vc C x _ (HC.o.keep al.o) HV.o aF.o);let⟨⟨nn,er⟩,aC⟩:∃r,kA C x=r:=⟨_,rfl⟩;rw[aC]at A ai g an;dsimp only at A ai g an;clear cX xb s aC;by_cases he:er=0
  rotate_left
  ·have bq:(er !=0)=true:=aG he;have HR:Hid (kB C l=([],er)):=aa (by rw[f.o,ya af,yc (by rw[g.o he];exact he),g.o he]);clear he;go_wp2_with(go_at_call 332;refine A.o.bC ?_;rintro e w4⟨rfl,ay⟩;have C4:=aa ay;clear ay);go_ret2;exact⟨_,er,rfl,by rw[HR.o];exact wG _ _,al.o.bu (C4.o.bC al.o.size)⟩
  ·subst he;have aU:Hid (fF (aZ wr (dI x) 120) O.heap.size M vI G bv):=aa (HG.o.keep aq.o);have I:Hid (ec [M] O (aZ wr (dI x) 120)):=aa (a6.o.alloc _);go_wp2_with(go_at_call 332;refine A.o.bC ?_;rintro e Z⟨rfl,cz⟩;have CZ:=aa cz;clear cz);have ab:Hid (fF Z O.heap.size M vI G bv):=aa (aU.o.keep CZ.o);have aL:Hid (ec [M] O Z):=aa (I.o.bu (ec.below CZ.o));have aj:Hid (bI Z wr.heap.size 120 (dI x)):=aa (aT.o.keep CZ.o);let⟨u,L,z⟩:=JQ ab.o N.o x.mem nn;have ac:=aa z;obtain⟨nu,ku,rfl⟩:=bV z.own;have hL:=z.ld;have ar:(Z.drew.alloc (bH #[nn] 2)).heap[M]?=Z.heap[M]?:=rU Z.drew _ M ab.o.mid.map.lt;have az:(Z.cell? ⟨wr.heap.size,0,none⟩=some (.int .i64 x.mem))/\(Instr.lookup 409 (.map (some M)) (aY x.mem) false).run prog Z=.ok (lL M x.mem Z) Z:=⟨aj.o.c 0,tu ab.o _⟩;have aR:((Z.drew.alloc (bH #[nn] 2)).cell? ⟨wr.heap.size,0,none⟩=some (.int .i64 x.mem))/\(Instr.lookup 409 (.map (some M)) (aY x.mem) false).run prog (Z.drew.alloc (bH #[nn] 2))=.ok (lL M x.mem (Z.drew.alloc (bH #[nn] 2))) (Z.drew.alloc (bH #[nn] 2)):=⟨((aj.o.d (wd:=Z.drew)).alloc _).c 0,tu (ab.o.d.alloc _) _⟩;have R:(Z.drew.cell? ⟨wr.heap.size,0,none⟩=some (.int .i64 x.mem))/\(Instr.lookup 409 (.map (some M)) (aY x.mem) false).run prog Z.drew=.ok (lL M x.mem Z.drew) Z.drew:=⟨aj.o.c 0,tu ab.o.d _⟩;have aK:lL M x.mem Z.drew=.slice nu L.length ku:=(uI (z.look Z.drew rfl)).1;have ax:lL M x.mem (Z.drew.alloc (bH #[nn] 2))=.slice nu L.length ku:=(uI (z.look (Z.drew.alloc (bH #[nn] 2)) ar)).1;clear ad z ar c0 c1 c2 c3 c4 c5 c6 c7 x0 x1 x2;go_region_held_law(fun W=>(W.cell? ⟨wr.heap.size,0,none⟩=some (.int .i64 x.mem))/\(Instr.lookup 409 (.map (some M)) (aY x.mem) false).run prog W=.ok (lL M x.mem W) W) (first|exact az|exact aR|exact R|exact E|exact aS|assumption|go_keep)
    (first|(refine lV kI ah kj _ aB _ _ 45 aB O.heap.size 2 j0 (aY 0) 8 underlying45 hj a8 bm F aB (.slice nu L.length ku) L (by first|exact aK|exact ax|rfl) (by exact ac.o.own.alloc _) (some (be Z.heap.size 0)) 1 1 [nn] aB aB (by exact Sl.qr eI kI Z 2 nn (cs:=#[nn]) rfl) aP aO (by have h9:=aL.o.size;simp;omega) ?_;intro v' T ak Y aM;have a5:=ac.o.step _ T v' (ab.o.d.alloc _) Qa0 ak (by exact aM);obtain⟨o6,a3,bA,a0⟩:=a5;have ap:=aa a0;have t:=aa (JR (aL.o.drew.alloc (bH #[nn] 2)) (u:=.slice nu L.length ku) Qa0 (fun q hq=>(ac.o.own.lt q hq).1));have V:=aa (((aj.o.d (wd:=Z.drew)).alloc (bH #[nn] 2)).grown (w':=T) (ac.o.own.alloc _) Qa0 ah);have am:T.heap[M]?=Z.heap[M]?:=(JS (W:=Z.drew.alloc (bH #[nn] 2)) Qa0 (iN ab.o.mid.map.lt au) ac.o.far).bu (rU Z.drew _ M ab.o.mid.map.lt);have E:=ch (V.o.c 0) (uI (ac.o.look T am)).2;have a2:bI (putObj T M o6) wr.heap.size 120 (dI x):=(sD T M _ _ (sG (ab.o.mid.map.heap am) V.o)).bu V.o;have aS:=ch (a2.c 0) (tu ap.o x.mem);clear Y aM ak a0 am))
   all_goals
    clear az aR R E aS aK ax;have ba:=aa (t.o.bu (vL T M o6));go_wp2;go_roundw;exact⟨k+1,a3,af,aw,by rw[ai.o];exact ap.o,ba.o,an.o aE⟩;exact aV
 ·obtain rfl:k=l.length:=af;have bB:¬(l.length<(l.length:Int)):=af;rw[show l.take l.length=l from eU (bL _)]at HG;have H:=aa (Ek HG.o (Eo (l:=l.map (mf C)) (fun x hx=>by obtain⟨y,hy,rfl⟩:=Fy.1 hx;exact HM.o y hy) (fun x hx=>by obtain⟨y,hy,rfl⟩:=Fy.1 hx;exact Kn C y) aQ));have HR:Hid (kB C l=fS (fI (l.map (mf C)))):=aa (by rw[f.o,ya af,ya (by rw[XO C l (fun j h=>Q.o j h h)];simp)]);unfold Ai at H;let⟨⟨gl,ge⟩,ao⟩:∃r,fS (fI (l.map (mf C)))=r:=⟨_,rfl⟩;have a7:=aa ao;rw[ao]at H;clear ao;go_wp2_with(go_at_call 333;refine H.o.bC ?_;rintro e T⟨u5,rfl,B,c5⟩;have O5:=aa B;have C5:=aa c5;clear B c5);go_ret2;refine⟨_,_,rfl, ?_,a.o.bu (C5.o.bC a.o.size)⟩;rw[HR.o,a7.o];exact d8 O5.o a.o.size
def XR(hv:dz C){l:bF Lg}(hn:l.length<=100000)(hm:∀x∈l,bO x.mem)(h64:∀x∈l,bO x.bJ):Aj C l (kB C l).1:=fun W v vm vs vc hc hl=>XQ vm vs vc v C l W hc hv hl hn hm h64
variable{cl:bF Lg}
def XS(ha:bO a)(h:(lI a cl).2=0):oQ a (cl.map (·.bJ))/\np cl=true:=by
 unfold lI at h;split at h
 ·rename_i d;exact xl h d
 rename_i d;split at h
 ·exact xl h ah
 rename_i c;have d:(ei cl).2=0:=aG d;unfold ei at d;split at d
 ·rename_i b;exact xl d b
 rename_i b;have b:gU cl=0:=aG b;unfold gU at b;split at b
 ·exact xl b ah
 rename_i M;split at b
 ·rename_i V;have A:du (cl.map (·.bJ))=(cd (cl.map (·.bJ)),0):=by
   unfold du dK at b⊢;split at b
   ·rename_i r;rw[yc r]
   ·exact xl b ah
  refine⟨⟨af,ha,fun x hx=> ?_,A,aQ⟩,V⟩;obtain⟨y,B,rfl⟩:=Fy.1 hx;obtain⟨i,p,rfl⟩:=eW B;unfold np at V;rw[List.all_eq_true]at V;have f:=V i (aG p);unfold nU at f;simp[dy,p]at f;omega
 ·exact xl b ah
def yw(a:Int)(cl G L:List Lg):Prop:=(G=[]/\L=[])∨(np cl=true/\oQ a (cl.map (·.bJ))/\∃r,r.length=cl.length/\((cd (cl.map (·.bJ))<=a/\r=cl.map (·.bJ))∨(a<cd (cl.map (·.bJ))/\pP a (cd (cl.map (·.bJ))) (cl.map (·.bJ)) r))/\G=i8 r cl/\L=i8 (io (cl.map (·.bJ)) r) cl)
def XT(a:Int)(cl:List Lg)(w:World)(e:Ending)(w':World):Prop:=∃u1 u2 G L er,e=.returned (.tuple #[u1,u2,aY er])/\w'.ownsRow w.heap.size 120 3 u1 G.length (bN df G)/\w'.ownsRow w.heap.size 120 3 u2 L.length (bN df L)/\Bw w w'/\yw a cl G L
def Ko(w:bD)(B:Nat):w.ownsRow B 120 3 bd ([]:bF Lg).length (bN df []):=⟨aK,bS ⟨rfl,rfl⟩⟩
def XU(a:Int)(v:bE)(cl:bF Lg)(w:bD)(hv:Sl df 3 w v cl)(ha:bO a)(h64:∀x∈cl,bO x.bJ)(hn:cl.length<=100000):bG 269 #[a,v] w (XT a cl w):=by
 let⟨W1,ab⟩:=aH (w.alloc (bH #[v] 66));have c1:Bw w W1:=by rw[<-ab];exact aI
 have m:bI W1 w 66 #[v]:=by rw[<-ab];exact bI.new w 66 #[v]
 have R:=aa m;have aO:(w.alloc (bH #[v] 66)).cell? (be w 0)=some v:=by rw[ab];exact m.c 0
 let⟨aF,ae⟩:=Jh2 (hv.keep c1) (De a ha v cl W1 (hv.keep c1) hn h64);have E:=XS (cl:=cl) ha;let⟨⟨s1,s2⟩,L⟩:∃r,lI a cl=r:=⟨_,rfl⟩;rw[L]at ae E;dsimp only at E;have A:=aa ab;have ax:w.heap.size<W1.heap.size:=m.lt;let⟨Y,t⟩:=Jh2 ax c1;obtain⟨n1,k1,rfl,_⟩:=hv;by_cases O:s2=0
 rotate_left
 ·have aN:(s2 !=0)=true:=aG O;clear L E O m ab;go_enter func269,ntmps269;go_wp2_with(go_at_call 202;rw[show w.alloc (bH #[.slice n1 cl.length k1] 66)=W1 from A.o];refine ae.o.bC ?_;rintro e w2⟨rfl,f⟩;have C2:=aa f;clear f);go_ret3;exact⟨_,_,[],[],s2,rfl,Ko _ _,Ko _ _,t.o.bu (C2.o.bC t.o.size),bS ⟨rfl,rfl⟩⟩
 subst O;let⟨ok,aq⟩:=E rfl;let⟨OK,I⟩:=Jh2 ok aq;have aL:cl.length<=1024:=by have:=ok.n;rw[cR]at this;exact this
 have al:Hid (∀W,W1.heap.size<=W.heap.size->∀u,Sl eI 1 W u (cl.map (·.bJ))->bG 329 #[a,u] W fun e y=>∃r N,e=.returned (.tuple #[N,()])/\y.ownsRow W.heap.size 2 1 N r.length (bN eI r)/\Bw W y/\(((cd (cl.map (·.bJ))<=a/\r=cl.map (·.bJ))∨(a<cd (cl.map (·.bJ))/\pP a (cd (cl.map (·.bJ))) (cl.map (·.bJ)) r))/\∀i (h:i<(cl.map (·.bJ)).length) (h2:i<r.length),0<=r[i]/\r[i]<=(cl.map (·.bJ))[i])/\r.length=cl.length):=aa (fun W _ u hu=>by
  by_cases an:cd (cl.map (·.bJ))<=a
  ·refine(Dp a u _ W hu OK.o an).bC ?_;rintro e y⟨N,rfl,ho,c⟩;exact⟨cl.map (·.bJ),N,rfl,ho,c,⟨bS ⟨an,rfl⟩,fun i h1 h2=>⟨OK.o.pos _ (cZ h1),kh _⟩⟩,by rw[cR]⟩
  ·refine(Iz a u _ W hu OK.o af).bC ?_;rintro e y⟨r,N,rfl,ho,c,s⟩;exact⟨r,N,rfl,ho,c,⟨ci ⟨af,s⟩,fun i h1 h2=>by
    have:=s.pos i h1
    have h3:i<cl.length:=by rw[cR]at h1;exact h1
    simpa[dy,h2,h3]using this⟩,by rw[s.len,cR]⟩)
 have au:Hid (∀W r,(((cd (cl.map (·.bJ))<=a/\r=cl.map (·.bJ))∨(a<cd (cl.map (·.bJ))/\pP a (cd (cl.map (·.bJ))) (cl.map (·.bJ)) r))/\∀i (h:i<(cl.map (·.bJ)).length) (h2:i<r.length),0<=r[i]/\r[i]<=(cl.map (·.bJ))[i])->∀u N,Sl eI 1 W u (cl.map (·.bJ))->Sl eI 1 W N r->bG 330 #[u,N] W fun e y=>∃q,e=.returned (.tuple #[q,()])/\y.ownsRow W.heap.size 2 1 q cl.length (bN eI (io (cl.map (·.bJ)) r))/\Bw W y):=aa (fun W r hr u N hu hu'=>by
  have S:r.length=(cl.map (·.bJ)).length:=by
   rcases hr.1 with⟨_,rfl⟩|⟨_,h⟩
   ·rfl
   ·exact h.len
  have q:=It u N _ r W hu hu' S aQ hr.2 OK.o.all;rw[zN S,cR]at q;exact q)
 have d:Hid (∀W u,Sl df 3 W u cl->bG 296 #[u] W fun e y=>∃v',e=.returned v'/\y.ownsRow W.heap.size 2 1 v' cl.length (bN eI (cl.map (·.bJ)))/\Bw W y):=aa (fun W u hu=>by
  have q:=zK u cl W hu af;unfold gP at q;rw[cR]at q;exact q)
 have ai:Hid (∀W r,r.length=cl.length->∀g u v',Sl eI 1 W v' r->Sl df 3 W u cl->bI W g 66 #[u]->bG 331 #[v',ptr g] W (gP df 120 3 (i8 r cl) W)):=aa (fun W r S g u v' hv' hu hg=>Do g v' u _ cl W hv' hu hg S af);have b:Hid (∀r:bF Int,r.length=cl.length->(io (cl.map (·.bJ)) r).length=cl.length):=aa (fun r hr=>by rw[zN (by rw[hr,cR]),cR]);let⟨U,C⟩:∃P,cl.map (·.bJ)=P:=⟨_,rfl⟩;have H:=aa C;rw[C]at al au d b;have ak:U.length=cl.length:=by rw[<-C,cR]
 have HL:=aa ak;clear h64 ab L m aL C ak E ok aq hn c1;have aM:True:=trivial;go_enter func269,ntmps269;go_wp2_with(first|(go_at_call 202;rw[show w.alloc (bH #[.slice n1 cl.length k1] 66)=W1 from A.o];refine ae.o.bC ?_;rintro e w2⟨rfl,f⟩;have g2:=(bI.keep R.o f).c 0;have K:=aa (aF.o.keep f);have Z:=aa (bI.keep R.o f))|(go_at_call 296;refine(d.o w2 _ K.o).bC ?_;rintro e w3⟨u3,rfl,ag,F⟩;have aP:=aa (cJ ag (bM _ _));have av:=aa (K.o.keep F);have aw:=aa (bI.keep Z.o F);have ah:=aa (Sl.own (enc:=eI) (k:=1) (fun _=>rfl) (by rw[HL.o];exact ag));clear ag g2)|(go_at_call 329;refine(al.o w3 (bW f.size F.size) _ ah.o).bC ?_;rintro e X⟨r,u4,rfl,ad,p,ao,B⟩;have ac:=aa B;have aj:=aa ao;clear ao B;rw[ac.o]at ad;have aB:=aa (av.o.keep p);have aD:=aa (bI.keep aw.o p);have ay:=aa (ah.o.keep p);have ap:=aa (Sl.own (enc:=eI) (k:=1) (l:=r) (fun _=>rfl) (by rw[ac.o];exact ad));obtain⟨n4,k4,rfl⟩:=bV ad;clear ad)|(go_at_call 330;refine(au.o X r aj.o _ _ ay.o ap.o).bC ?_;rintro e T⟨u5,rfl,G,c5⟩;have j:=aa (aB.o.keep c5);have V:=aa (bI.keep aD.o c5);have aE:=aa (ap.o.keep c5);have aJ:=aa (Sl.own (enc:=eI) (k:=1) (l:=io U r) (fun _=>rfl) (by rw[b.o r ac.o];exact G));clear G)|(go_at_call 331;first|(clear aM;refine(ai.o T r ac.o _ _ _ aE.o j.o V.o).bC ?_;rintro e w6⟨u6,rfl,J,D⟩;have aA:=aa J;have aC:=aa (j.o.keep D);have Q:=aa (bI.keep V.o D);have az:=aa (aJ.o.keep D);clear J)|(refine(ai.o w6 (io U r) (b.o r ac.o) _ _ _ az.o aC.o Q.o).bC ?_;rintro e w7⟨u7,rfl,ar,c7⟩;have aK:=aa ar;clear ar)));have d2:=t.o.bu (f.bC t.o.size);have d3:=d2.bu (F.bC d2.size);have z:=d3.bu (p.bC d3.size);have M:=z.bu (c5.bC z.size);have d6:=M.bu (D.bC M.size);go_ret3;exact⟨_,_,_,_,_,rfl,d8 (cJ aA.o c7) M.size,d8 aK.o d6.size,d6.bu (c7.bC d6.size),ci ⟨I.o,OK.o,r,ac.o,by rw[H.o];exact aj.o.1,rfl,by rw[H.o]⟩⟩
end
variable{B:Nat}{K:bF Nat}{D:DS}{P Q:DS->Prop}
def qI.mono{n:Int}(h:qI B K D n P)(hq:∀D',P D'->Q D'):qI B K D n Q:=fun W A hA hK hB=>(h W A hA hK hB).bC fun _ _ ⟨A',D',he,st,p⟩=>⟨A',D',he,st,hq _ p⟩
def qI.bC:=@qI.mono
def tB.mono{s:Int}(h:tB B K D s P)(hq:∀D',P D'->Q D'):tB B K D s Q:=fun W A hA hK hB=>(h W A hA hK hB).bC fun _ _ ⟨A',D',he,st,p⟩=>⟨A',D',he,st,hq _ p⟩
def tB.bC:=@tB.mono
variable{cl:bF Lg}
def Ap{l:bF Int}{x:Lg}(h:x∈i8 l cl):(∃c∈cl,x.mem=c.mem/\x.bK=c.bK)/\x.bJ∈l:=by
 unfold i8 at h;let⟨⟨a,c⟩,B,V⟩:=acY.1 h;unfold nW at V;split at V
 ·cases V
  exact⟨⟨c,(List.of_mem_zip B).2,rfl,rfl⟩,(List.of_mem_zip B).1⟩
 ·cases V
def Kp(l:bF Int)(cl:bF Lg):(i8 l cl).length<=cl:=by unfold i8;refine bW (gK _ _) ?_;rw[List.length_zip];omega
def Kq{W r:bF Int}(h1:ep W)(hp:∀i,i<W.length->0<=r.getD i 0/\r.getD i 0<=W.getD i 0)(hl:r.length=W.length):ep r/\ep (io W r):=by
 have D:∀i (p:i<r.length),0<=r[i]/\r[i]<=W[i]'Qat:=fun i p=>by
  have:=hp i af
  simpa[dy,p,show i<W.length from af]using this
 refine⟨fun x hx=> ?_,fun x hx=> ?_⟩
 ·obtain⟨i,p,rfl⟩:=eW hx;have a:=h1 _ (cZ (show i<W.length from af));have c:=D i p;unfold bO at a⊢;omega
 ·obtain⟨i,p,rfl⟩:=eW hx;unfold io at p⊢;rw[xF]at p;rw[vz];have a:=h1 _ (cZ (show i<W.length from af));have c:=D i af;unfold bO at a⊢;omega
structure tD(cl G L:List Lg):Prop where
 cut:∃a,bO a/\yw a cl G L
 g:nZ G
 l:nZ L
 gm:∀x∈G,∃c∈cl,x.mem=c.mem/\x.bK=c.bK
 lm:∀x∈L,∃c∈cl,x.mem=c.mem/\x.bK=c.bK
variable{a:Int}{L:bF Lg}
def tD.of{G:bF Lg}(ha:bO a)(h:yw a cl G L):tD cl G L:=by
 have b:=h;rcases h with⟨rfl,rfl⟩|⟨h1,h2,r,hr,h3,rfl,rfl⟩
 ·exact⟨⟨a,ha,b⟩,⟨au,nofun⟩,⟨au,nofun⟩,nofun,nofun⟩
 ·have M:ep r/\ep (io (cl.map (·.bJ)) r):=by
   rcases h3 with⟨_,rfl⟩|⟨_,hp⟩
   ·refine Kq h2.all (fun i hi=>⟨?_,kh _⟩) rfl;rw[dy,dG hi];exact h2.pos _ (cZ hi)
   ·exact Kq h2.all hp.pos (by rw[cR];exact hr)
  have H:cl.length<=1024:=by have:=h2.n;rwa[cR]at this
  exact⟨⟨a,ha,b⟩,⟨bW (Kp _ _) H,fun x hx=>M.1 _ (Ap hx).2⟩,⟨bW (Kp _ _) H,fun x hx=>M.2 _ (Ap hx).2⟩,fun x hx=>(Ap hx).1,fun x hx=>(Ap hx).1⟩
def Kr(ha:bO a)(h64:∀x∈cl,bO x.bJ)(hn:cl.length<=100000):qJ a cl (tD cl):=fun W v hv=>
 (XU a v cl W hv ha h64 hn).bC fun _ _ ⟨u1,u2,G,L,er,he,h1,h2,hb,hs⟩=>⟨u1,u2,G,L,er,he,h1,h2,hb,tD.of ha hs⟩
inductive pj (D:DS):Nat->List Ev->List (List Lg)->List Lg->Prop
 |nil:pj D 0 [] [] []
 |snoc {k:Nat} {ev:List Ev} {Gs:List (List Lg)} {L G L':List Lg}:pj D k ev Gs L->tD (D.good ((k:Int)+1)) G L'->pj D (k+1) (ev++(ey 13 G++ey 14 L')) (Gs++[G]) (L++L')
def Aq(k:Int)(l:bF Lg):(ey k l).length=l.length:=by unfold ey;rw[cR]
structure XV(D:DS)(k:Nat)(ev:List Ev)(Gs:List (List Lg))(L:List Lg):Prop where
 len:ev.length<=2048*k
 gs:Gs.length=k
 l:L.length<=1024*k
 g:∀g∈Gs,g.length<=1024
 lR:∀x∈L,bO x.bJ
 lm:∀x∈L,∃y∈D.bQ,x.mem=y.mem
def XW{c:Lg}(h:c∈D.good a):∃y∈D.bQ,c.mem=y.mem:=Ak (P:=fun m=>∃y∈D.bQ,m=y.mem) (fun x hx=>⟨x,hx,rfl⟩) a c h
variable{k:Nat}{ev:bF Ev}
def pj.ok{Gs:bF (bF Lg)}(h:pj D k ev Gs L):XV D k ev Gs L:=by
 induction h with
 |nil=>exact⟨au,rfl,au,nofun,nofun,nofun⟩
 |snoc h c ih=>
  have d:=c.g.1;have a:=c.l.1;refine⟨?_,by rw[cO,ih.gs];rfl, ?_,fun g hg=> ?_,fun x hx=> ?_,fun x hx=> ?_⟩
  ·rw[cO,cO,Aq,Aq];have:=ih.len;omega
  ·rw[cO];have:=ih.l;omega
  ·rcases xq.1 hg with hg|hg
   ·exact ih.g g hg
   ·simp at hg;subst hg;exact d
  ·rcases xq.1 hx with hx|hx
   ·exact ih.lR x hx
   ·exact c.l.2 x hx
  ·rcases xq.1 hx with hx|hx
   ·exact ih.lm x hx
   ·let⟨y,B,e,_⟩:=c.lm x hx;rw[e];exact XW B
structure lO(D D':DS)(ev:List Ev):Prop where
 C:D'.C=D.C
 bQ:D'.bQ=D.bQ
 who:D'.who=D.who
 cv:D'.cv=D.cv
 dt:D'.dt=D.dt
 state:D'.state=D.state
 log:D'.log=D.log++ev
 ok:cC D'
variable{n:Nat}{D':DS}
def eH.same(h:eH n D D'):∃ev,lO D D' ev/\ev.length<=n/\eM ev:=by let⟨ev,d,c,x⟩:=h.log;exact⟨ev,⟨h.C,h.bQ,h.who,h.cv,h.dt,h.state,d,h.ok⟩,c,x⟩
def lO.trans{D1 D2:DS}{e1 e2:bF Ev}(h:lO D D1 e1)(k:lO D1 D2 e2):lO D D2 (e1++e2):=⟨k.C.bu h.C,k.bQ.bu h.bQ,k.who.bu h.who,k.cv.bu h.cv,k.dt.bu h.dt,k.state.bu h.state,by rw[k.log,h.log,fz],k.ok⟩
def lO.bu:=@lO.trans
def lO.good(h:lO D D' ev)(a:Int):D'.good a=D.good a:=by unfold DS.good;rw[h.bQ,h.who]
def Ar(ok:cC D)(G:bF Lg):lO D (D.give G) (ey 13 G):=by
 induction G generalizing D with
 |nil=>exact⟨rfl,rfl,rfl,rfl,rfl,rfl,by simp[DS.give,ey],ok⟩
 |cons x G ih=>
  have d:lO D (D.uJ x) [⟨13,x.mem,x.bK,x.bJ,0⟩]:=⟨rfl,rfl,rfl,rfl,rfl,rfl,rfl,(ok.move _ _ _ _).tell _⟩;exact d.bu (ih d.ok)
def Ks(ok:cC D)(ev:bF Ev):lO D (D.tell ev) ev:=⟨rfl,rfl,rfl,rfl,rfl,rfl,rfl,ok.tell ev⟩
variable{C:bZ}
def Ya{l:bF Lg}(hm:∀x∈l,bO x.mem):(kB C l).1.length<=1024/\∀x∈(kB C l).1,bO x.mem/\bO x.bJ:=by
 unfold kB;split
 ·simp
 split
 ·simp
 ·rename_i d _;have c:=Eo (l:=l.map (mf C)) (fun x hx=>by obtain⟨y,B,rfl⟩:=Fy.1 hx;exact hm y B) (fun x hx=>by obtain⟨y,B,rfl⟩:=Fy.1 hx;exact Kn C y) aQ;have b:=(wE (l.map (mf C))).1;rw[cR]at b;refine⟨bW (Kc _) af,fun x hx=>⟨?_,Kb _ x hx⟩⟩;unfold fS at hx;split at hx
  ·simp at hx
  ·obtain⟨k,a,rfl⟩:=Fy.1 hx;obtain⟨p,s,rfl⟩:=Fy.1 (Ei.1 a);exact c.key p s
def wI(D:DS)(L G L':List Lg):Prop:=(iq (jN D (kB D.C L).1)=0/\tD (jN D (kB D.C L).1) G L')∨(iq (jN D (kB D.C L).1)≠0/\G=[]/\L'=[])
def wI.fd{G L':bF Lg}(h:wI D L G L'):nZ G/\nZ L':=by
 rcases h with⟨_,h⟩|⟨_,rfl,rfl⟩
 ·exact⟨h.g,h.l⟩
 ·exact⟨⟨au,nofun⟩,⟨au,nofun⟩⟩
def Kt(D:DS)(Gs:List (List Lg))(G L':List Lg)(D3:DS):Prop:=∃ev1 evs L ev2,pj D D.C.secs evs Gs L/\wI D L G L'/\lO D D3 (ev1++evs++ev2++(ey 13 G++ey 15 L'))/\ev1.length<=D.C.secs.length*D.lN/\ev2.length<=D.most/\eM ev1/\eM ev2
def SI2(D:DS)(k:Nat)(D2:DS)(Gs:List (List Lg))(L:List Lg):Prop:=k<=D.C.secs.length/\∃ev1 evs,pj D k evs Gs L/\lO D D2 (ev1++evs)/\ev1.length<=D.C.secs.length*D.lN/\eM ev1
def qJ.mono{P Q:bF Lg->bF Lg->Prop}(h:qJ a cl P)(hq:∀G L,P G L->Q G L):qJ a cl Q:=fun W v hv=>(h W v hv).bC fun _ _ ⟨u1,u2,G,L,er,he,h1,h2,hb,hs⟩=>⟨u1,u2,G,L,er,he,h1,h2,hb,hq _ _ hs⟩
def qJ.bC:=@qJ.mono
def Yb(ok:cC D)(hw:D.who.length<=16)(hb:D.cv.length<=100)(hlog:D.log.length<=800000)(hmb:∀x∈D.bQ,bO x.mem)(hsc:∀x∈D.bQ,0<=x.bK/\x.bK<=(D.C.secs:Int)):
  Al B K D (fun k D1=>eH (k*D.lN) D D1) (SI2 D) (Kt D):=by
 have U:D.C.secs.length<=8:=ok.ct.s2;have E:D.most<=560:=by unfold DS.most;omega
 have j:D.lN<=760:=by unfold DS.lN;omega
 have n:∀k,k<=D.C.secs.length->k*D.lN<=6080:=fun k q=>bW (qm (bW q U) j) ah;refine⟨?_,fun k D1 h=>⟨h.ok,h.C⟩,fun k q D1 h=> ?_,fun D1 h=> ?_,fun k D2 Gs L h=> ?_,fun k q D2 Gs L h=> ?_,fun D2 Gs L h=> ?_,fun Gs G L' D3 h=> ?_⟩
 ·rw[Nat.zero_mul];exact eH.refl ok
 ·have o:D1.lN=D.lN:=by unfold DS.lN DS.most;rw[h.who,h.cv]
  have T:=h.len;have i:=n k af;refine(XK h.ok (by rw[h.cv];omega) (by rw[o];omega)).bC fun D' c=> ?_;rw[o]at c;have:=h.bu c
  rwa[<-pD]at this
 ·let⟨v,d,c,m⟩:=h.same;exact⟨cH _,v,[],pj.nil,by rw[ix];exact d,c,m⟩
 ·obtain⟨q,b,f,u,a,S,J⟩:=h;have d:=u.ok;have c:=d.len;refine⟨a.ok, ?_,a.C,d.gs,d.l,fun x hx=>hmb x (by rw[<-a.bQ];exact hx)⟩;rw[a.log,cO,cO];have:=n _ (bL _)
  have:2048*k<=2048*8:=yO _ af
  omega
 ·obtain⟨s,b,f,u,a,S,J⟩:=h;refine⟨tD (D.good ((k:Int)+1)),fun G L h=>⟨h.g,h.l⟩, ?_,fun G L' h=> ?_⟩
  ·rw[a.good];exact Kr (ru a.ok _ _) (fun x hx=>yf _ _ x hx) (by have:=wA ok ((k:Int)+1);omega)
  ·have c:=a.bu ((Ar a.ok G).bu (Ks (Ar a.ok G).ok (ey 14 L')));exact⟨q,b,_,pj.snoc u h,by rw[<-fz];exact c,S,J⟩
 ·obtain⟨s,b,f,u,a,S,J⟩:=h;have d:=u.ok;have A:=Ya (C:=D.C) (l:=L) (fun x hx=>by obtain⟨y,t,e⟩:=d.lm x hx;rw[e];exact hmb y t);have W:jN D2 (kB D.C L).1=jN D (kB D.C L).1:=by unfold jN;rw[a.good]
  have Z:D2.log.length<=825000:=by
   rw[a.log,cO,cO];have c:=d.len;exact Qct
  have F:D2.most=D.most:=by unfold DS.most;rw[a.who]
  have z:=d.l;refine⟨(kB D.C L).1,eH D2.most D2,fun _ G L'=>wI D L G L',by rw[a.C];exact XR ok.ct af (fun x hx=>by obtain⟨y,t,e⟩:=d.lm x hx;rw[e];exact hmb y t) d.lR,A.1,A.2,fun D3 m=>⟨m.ok,by have:=m.len;omega⟩,EE a.ok An af,fun _ G L' h=>h.fd,fun D3 m h0=> ?_,fun D3 _ h0=>ci ⟨by rwa[W]at h0,rfl,rfl⟩,fun D3 G L' m P=> ?_⟩
  ·rw[W]at h0⊢;refine(Kr (ru m.ok _ _) (fun x hx=>(Ez _ _).2 x hx) ?_).bC fun G L' h=>bS ⟨h0,h⟩;have V:=(Ez (D.good 0) (kB D.C L).1).1;have H:=wA ok 0;have r:=A.1;omega
  ·let⟨p,V,H,r⟩:=m.same;have i:=a.bu (V.bu ((Ar V.ok G).bu (Ks (Ar V.ok G).ok (ey 15 L'))));exact⟨b,f,L,p,u,P,by simpa only[fz]using i,S,af,J,r⟩
 ·obtain⟨b,f,L,p,u,P,a,S,Y,J,W⟩:=h;have d:=u.ok;have c:=P.fd;have m:=c.1.1;have M:=c.2.1;refine⟨a.ok, ?_,a.C,d.gs,fun x hx=>hsc x (by rw[<-a.bQ];exact hx),af,fun g hg=> ?_⟩
  ·rw[a.log];simp only[cO,Aq];have V:=d.len;exact Qct
  ·rcases je.1 hg with rfl|hg
   ·omega
   ·have:=d.g g hg;omega
def Yd(l:bF Int)(x:Int):x∈Lib.compact l↔x∈l:=by
 unfold Lib.compact Lib.compactUpTo;constructor
 ·intro h;obtain⟨i,p,rfl⟩:=Fy.1 h;have C:=FC.1 (tU.1 p).1;simp[C]
 ·intro h;obtain⟨i,p,a,b⟩:∃i,∃p:i<l.length,l[i]=x/\∀j (hj:j<i),l[j]'Qat≠x:=by
   induction l with
   |nil=>simp at h
   |cons y l ih=>
    by_cases e:y=x
    ·exact⟨0,au,aG e,fun j hj=>af⟩
    ·have c:x∈l:=by
      rcases je.1 h with h|h
      ·exact xl h.symm e
      ·exact h
     let⟨i,p,d,M⟩:=ih c;refine⟨i+1,aA,aG d,fun j hj=> ?_⟩;cases j with
     |zero=>simpa using e
     |succ j=>simpa using M j af
  refine Fy.2 ⟨i,tU.2 ⟨FC.2 p, ?_⟩,by simp[p,a]⟩;unfold Lib.keeps;cases i with
  |zero=>simp
  |succ i=>
   have:=b i af
   simp[p,show i<l.length from af,a];exact fun e=>this e.symm
def Ye{l:bF Int}(h:l.Pairwise (·<=·)):(Lib.compact l).Pairwise (·<·):=by
 unfold Lib.compact Lib.compactUpTo;rw[yR,List.pairwise_filter];rw[AW];intro i j p J q K U;simp only[rZ]at p J;simp only[List.getElem_range]at*;unfold Lib.keeps at U;cases j with
 |zero=>omega
 |succ j=>
  simp[J,p,show j<l.length from af]at U⊢;have d:l[i]<=l[j]:=by
   by_cases e:i=j
   ·subst e;exact kh _
   ·exact AW.1 h i j p af af
  have c:=AW.1 h j (j+1) af J af;omega
def Yf:∀(l:bF Int) (a b:Int),l.Pairwise (·<·)->(∀x∈l,a<x/\x<=b)->(l:Int)<=max (b-a) 0:=by
 intro l;induction l with
 |nil=>intro a b _ _;simp;omega
 |cons x l ih=>
  intro a b s h;have d:=h x (iG ..);let⟨Z,Y⟩:=A0.1 s;have:=ih x b Y fun y hy=>⟨Z y hy,(h y (jS _ hy)).2⟩
  rw[gL];omega
def EG(l:bF Int)(x:Int):x∈oM l↔x∈l:=by unfold oM;rw[Yd];exact(List.mergeSort_perm l _).mem_iff
def Yg(l:bF Int):(oM l).Pairwise (·<·):=by unfold oM;refine Ye ?_;have h:=List.pairwise_mergeSort (le:=fun x y:Int=>decide (x<=y)) (fun a b c h1 h2=>by simp only[decide_eq_true_eq]at*;omega) (fun a b=>by simp only[Bool.or_eq_true,decide_eq_true_eq];omega) l;exact h.imp fun h=>aG h
def Yh{l:bF Int}{M:Nat}(h:∀x∈l,1<=x/\x<=(M:Int)):(oM l).length<=M:=by
 have:=Yf (oM l) 0 M (Yg l) fun x hx=>by have:=h x ((EG l x).1 hx);omega
 omega
variable{l:bF Ob}{m:Int}
def EH:m∈gQ l↔∃x∈l,x.cN=1/\mu x=true/\x.mem=m:=by
 unfold gQ;rw[EG];constructor
 ·intro h;let⟨y,B,V⟩:=acY.1 h;let⟨x,j,c⟩:=acY.1 B;unfold eJ at c;split at c
  ·rename_i a;cases c
   unfold oN at V;exact⟨y,j,a.1,a.2,aG V⟩
  ·cases c
 ·rintro⟨x,j,d,c,rfl⟩
  refine acY.2 ⟨x,acY.2 ⟨x,j, ?_⟩,rfl⟩;unfold eJ;rw[yc ⟨d,c⟩]
def As{a b:bF Int}:m∈ft a b↔m∈a∨m∈b:=by unfold ft;rw[EG,xq]
structure iM(C:bZ)(l:List Ob):Prop where
 uq:∀i j (hi:i<l.length) (hj:j<l.length),l[i].cN=1->l[j].cN=1->l[i].mem=l[j].mem->l[i].bK=l[j].bK->i=j
 dn:∀x∈l,x.cN=1->0<x.cE->0<=x.done/\x.done<=x.cE
 mb:∀x∈l,1<=x.mem/\x.mem<=(C.mem.length:Int)
 sc:∀x∈l,0<=x.bK/\x.bK<=(C.secs.length:Int)
 nn:∀x∈l,-9223372036854775808<x.cE/\x.cE<=9223372036854775807
structure jO(who:List Int)(l:List Ob):Prop where
 o:∀m∈who,∃x∈l,x.mem=m/\0<x.cE/\x.cN=3/\x.done<x.cE
 st:∀x∈l,x.mem∉who->0<x.cE->x.cN=1∨x.cN=2
def wJ{P:Ob->Prop}(h:∀x∈l,P x)(i:Nat){y:Ob}(hy:P y):∀x∈l.set i y,P x:=by
 intro x j;rcases rT j with h1|h1
 ·exact h x h1
 ·rw[h1];exact hy
def iM.set(h:iM C l){i:Nat}(hi:i<l){y:Ob}(e1:y.mem=l[i].mem)(e2:y.bK=l[i].bK)(e3:y.cE=l[i].cE)(hs:y.cN=1->l[i].cN=1/\(0<y.cE->0<=y.done/\y.done<=y.cE)):iM C (l.set i y):=by
 have Z:=cZ hi;refine⟨fun a b ha hb s1 s2 m1 m2=> ?_,wJ h.dn i (fun s=>(hs s).2),wJ h.mb i (by rw[e1];exact h.mb _ Z),wJ h.sc i (by rw[e2];exact h.sc _ Z),wJ h.nn i (by rw[e3];exact h.nn _ Z)⟩;rw[js]at ha hb;rw[tY]at s1 s2 m1 m2;rw[tY]at m1 m2;by_cases n:i=a<;>by_cases z:i=b
 ·omega
 ·subst n;simp only[if_true,ya z]at*;exact h.uq i b hi hb (hs s1).1 s2 (by rw[<-e1];exact m1) (by rw[<-e2];exact m2)
 ·subst z;simp only[if_true,ya n]at*;exact h.uq a i ha hi s1 (hs s2).1 (by rw[<-e1];exact m1) (by rw[<-e2];exact m2)
 ·simp only[ya n,ya z]at*;exact h.uq a b ha hb s1 s2 m1 m2
variable{who:bF Int}
def jO.set(h:jO who l){i:Nat}(hi:i<l)(h1:l[i].cN=1){y:Ob}(hs:0<y.cE->y.cN=1∨y.cN=2):jO who (l.set i y):=by
 refine⟨fun m hm=> ?_,wJ h.st i fun _ hn=>hs hn⟩;let⟨x,b,c,a,M,V⟩:=h.o m hm;obtain⟨j,J,rfl⟩:=eW b;have q:i≠j:=fun e=>by subst e;rw[h1]at M;exact xl M ah
 refine⟨l[j], ?_,c,a,M,V⟩;have:(l.set i y)[j]'(by rw[js];exact J)=l[j]:=by rw[tY,ya q]
 rw[<-this];exact cZ _
def Ku(h:¬eo (dR m a) l<0):∃i,∃hi:i<l.length,(eo (dR m a) l).toNat=i/\gZ l (eo (dR m a) l)=l[i]/\l[i].cN=1/\l[i].mem=m/\l[i].bK=a:=by
 rcases uz (dR m a) l with⟨h1,_⟩|⟨i,hi,h1,h2,_⟩
 ·rw[h1]at h;exact xl ah h
 ·rw[h1];unfold dR at h2;simp only[qW,decide_eq_true_eq]at h2;exact⟨i,hi,au,we l i hi,h2.1.1,h2.1.2,h2.2⟩
def iM.pay(h:iM C l)(k:jO who l)(m a n:Int):iM C (im l m a n).2/\jO who (im l m a n).2/\(im l m a n).2.length=l.length:=by
 unfold im;split
 ·exact⟨h,k,rfl⟩
 split
 ·exact⟨h,k,rfl⟩
 ·rename_i d c;have d:(jj l m a n).2=0:=aG d;let⟨i,p,o,r,Q,U,_,f⟩:=zC d;rw[o]at c⊢;rw[f]at c⊢;have L:l[i].cN=1:=by
   exact QcV
  have H:=h.nn _ (cZ p);have b:=h.dn _ (cZ p) L;have q:(i:Int).toNat=i:=au;rw[q];refine⟨h.set p rfl rfl rfl (fun _=>⟨L,fun s=> ?_⟩),k.set p L fun _=>bS L,au⟩;have s:0<l[i].cE:=s;have b:=b s;have g:wrap64 (l[i].cE-l[i].done)=l[i].cE-l[i].done:=jF _ af;rw[g]at c;have j:wrap64 (l[i].done+n)=l[i].done+n:=jF _ af;show 0<=wrap64 (l[i].done+n)/\wrap64 (l[i].done+n)<=l[i].cE;rw[j];omega
def iM.take(h:iM C l)(k:jO who l)(m a n:Int):iM C (jk l m a n).2/\jO who (jk l m a n).2/\(jk l m a n).2.length=l.length:=by
 unfold jk;split
 ·exact⟨h,k,rfl⟩
 split
 ·exact⟨h,k,rfl⟩
 ·rename_i d c;have d:(jj l m a n).2=0:=aG d;let⟨i,p,o,r,Q,U,_,f⟩:=zC d;rw[o]at c⊢;rw[f]at c⊢;have L:l[i].cN=1:=by
   exact QcV
  have H:=h.nn _ (cZ p);have b:=h.dn _ (cZ p) L;have j:(i:Int).toNat=i:=au;rw[j];refine⟨h.set p rfl rfl rfl (fun _=>⟨L,fun s=> ?_⟩),k.set p L fun _=>bS L,au⟩;have s:0<l[i].cE:=s;have b:=b s;have g:wrap64 (l[i].done-n)=l[i].done-n:=jF _ af;show 0<=wrap64 (l[i].done-n)/\wrap64 (l[i].done-n)<=l[i].cE;rw[g];omega
def iM.mark(h:iM C l)(k:jO who l)(m a s d:Int)(hc:∀y∈l,y.cN=1->y.mem=m->y.bK=a->y.cE<0):iM C (fL l m a s d).2/\jO who (fL l m a s d).2/\∀P:Ob->Prop,(∀y∈l,y.cN=1->P y)->(∀y∈(fL l m a s d).2,y.cN=1->P y):=by
 unfold fL;split
 ·exact⟨h,k,fun P hP=>hP⟩
 split
 ·exact⟨h,k,fun P hP=>hP⟩
 ·rename_i g c;let⟨i,p,o,r,Q,U,R⟩:=Ku g;rw[o,r];have f:=hc _ (cZ p) Q U R;have L:¬s=1:=by
   intro e;subst e;simp[mr]at c
  refine⟨h.set p rfl rfl rfl (fun e=>xl e L),k.set p Q fun b=> ?_,fun P hP=>wJ hP i fun e=>xl e L⟩;have b:0<l[i].cE:=b;omega
def Yi(h:iM C l)(k:jO who l)(c:Int)(bT:bF Lg)(hm:∀x∈bT,fE C x.mem x.bK=0)(h64:∀x∈bT,bO x.bJ):iM C (iA l c bT).2/\jO who (iA l c bT).2:=by
 unfold iA;split
 ·exact⟨h,k⟩
 split
 ·exact⟨h,k⟩
 split
 ·exact⟨h,k⟩
 split
 ·exact⟨h,k⟩
 rename_i _ O _ t;have t:∀i,i<bT.length->oT bT i (bT.getD i default)=false:=by
  intro i n;unfold qB at t;simp only[Bool.not_eq_true,mP,FC]at t;simpa using t i n
 have b:∀i (n:i<bT.length),bT.getD i default=bT[i]:=fun i n=>by simp[dy,n]
 have v:∀x∈l,x.cN≠1:=by
  intro x a e;have:0<lw l 1:=by
   unfold lw;have:0<l.countP (fun x=>decide (x.cN=1)):=List.countP_pos_iff.2 ⟨x,a,aG e⟩
   omega
  exact O this
 have S:∀y∈bT.map (jK c),∃x∈bT,y=jK c x:=fun y B=>by
  obtain⟨x,a,rfl⟩:=Fy.1 B;exact⟨x,a,rfl⟩
 refine⟨⟨fun i j n hj s1 s2 m1 m2=> ?_, ?_, ?_, ?_, ?_⟩, ?_, ?_⟩
 ·have G:¬i<l.length:=fun hl=>v _ (cZ hl) (by rw[lC hl]at s1;exact s1);have g:¬j<l.length:=fun hl=>v _ (cZ hl) (by rw[lC hl]at s2;exact s2);rw[cO,cR]at n hj;rw[pA af,pA af]at m1 m2;simp only[lj]at m1 m2;obtain⟨p,rfl⟩:∃p,i=l.length+p:=⟨i-l.length,af⟩;obtain⟨q,rfl⟩:∃q,j=l.length+q:=⟨j-l.length,af⟩;simp only[Nat.add_sub_cancel_left]at m1 m2;have f:∀p q (u:p<bT.length) (F:q<bT.length),p<q->bT[p].mem=bT[q].mem->bT[p].bK=bT[q].bK->False:=by
   intro p q u F D E r;have d:=t q F;rw[b q F]at d;unfold oT at d;simp only[Bb,mP]at d;have M:bT[p]∈bT.take q:=List.mem_take_iff_getElem.2 ⟨p,af,rfl⟩;have V:=d.2 _ M;unfold sU at V;simp[E,r]at V
  rcases Nat.lt_trichotomy p q with d|d|d
  ·exact xl (f p q af af d m1 m2) id
  ·omega
  ·exact xl (f q p af af d m1.symm m2.symm) id
 ·intro x a s u;rcases xq.1 a with a|a
  ·exact h.dn x a s u
  ·obtain⟨y,B,rfl⟩:=S x a;have u:0<y.bJ:=u;show 0<=(0:Int)/\(0:Int)<=y.bJ;omega
 ·intro x a;rcases xq.1 a with a|a
  ·exact h.mb x a
  ·obtain⟨y,B,rfl⟩:=S x a;have:=hm y B
   unfold fE at this;show 1<=y.mem/\y.mem<=_;split at this
   ·rename_i V;unfold fR at V;omega
   ·exact xl this ah
 ·intro x a;rcases xq.1 a with a|a
  ·exact h.sc x a
  ·obtain⟨y,B,rfl⟩:=S x a;have:=hm y B
   unfold fE at this;show 0<=y.bK/\y.bK<=_;split at this
   ·split at this
    ·omega
    ·split at this
     ·rename_i A;unfold fX at A;omega
     ·exact xl this ah
   ·exact xl this ah
 ·intro x a;rcases xq.1 a with a|a
  ·exact h.nn x a
  ·obtain⟨y,B,rfl⟩:=S x a;obtain⟨i,n,rfl⟩:=eW B;have d:=t i n;rw[b i n]at d;have M:=h64 _ (cZ n);unfold oT at d;simp only[Bb,decide_eq_false_iff_not]at d;show-9223372036854775808<(bT[i]).bJ/\(bT[i]).bJ<=9223372036854775807
   unfold bO at M;omega
 ·intro m z;let⟨x,a,d⟩:=k.o m z;exact⟨x,List.mem_append_left _ a,d⟩
 ·intro x a T u;rcases xq.1 a with a|a
  ·exact k.st x a T u
  ·obtain⟨y,B,rfl⟩:=S x a;exact bS rfl
def gG(who:List Int)(x:Ob):Ob:=if x.cN≠1∨(fM x who).1=1 then x else{x with cN:=(fM x who).1,done:=(fM x who).2}
def Kv(who:bF Int)(x:Ob):(gG who x).mem=x.mem/\(gG who x).bK=x.bK/\(gG who x).cE=x.cE/\((gG who x).cN=1->x.cN=1):=by
 unfold gG;split
 ·exact⟨rfl,rfl,rfl,id⟩
 ·rename_i h;refine⟨rfl,rfl,rfl,fun e=>xl ?_ h⟩;exact ci e
def Kw{x:Ob}(h:0<x.cE)(h2:x.cE<=9223372036854775807):lv x=x.cE:=by unfold lv wrap64;omega
def Yl{x:Ob}(h:x.cE<0)(h2:-9223372036854775808<x.cE):lv x=-x.cE:=by unfold lv wrap64;omega
def Ym{L:bF Ob}(h:iM C L)(who:bF Int)(k:Nat)(hk:k<L)(D:DS)(ho:D.bQ=(L.take k).map (gG who)++L.drop k)(hw:D.who=who):(D.fa L[k]).bQ=(L.take (k+1)).map (gG who)++L.drop (k+1):=by
 have N:((L.take k).map (gG who)).length=k:=by rw[cR,dx,ll (pE hk)]
 have o:(L.take (k+1)).map (gG who)++L.drop (k+1)=(L.take k).map (gG who)++gG who L[k]::L.drop (k+1):=by
  rw[fj hk,jf,fz];rfl
 have p:L.drop k=L[k]::L.drop (k+1):=rR hk;rw[o];unfold DS.fa;rw[hw];by_cases m:L[k].cN≠1∨(fM L[k] who).1=1
 ·rw[yc m,ho,p];congr 2;unfold gG;rw[yc m]
 rw[ya m];have f:L[k].cN=1:=Decidable.byContradiction fun e=>m (bS e);have r:¬(fM L[k] who).1=1:=fun e=>m (ci e);have Z:(fL D.bQ L[k].mem L[k].bK (fM L[k] who).1 (fM L[k] who).2).2=(L.take k).map (gG who)++gG who L[k]::L.drop (k+1):=by
  have n:D.bQ.length=L.length:=by rw[ho,cO,N,fc];omega
  have M:∀i (hi:i<L.length),k<=i->D.bQ[i]'Qat=L[i]:=fun i hi hki=>by
   have:D.bQ[i]'Qat=((L.take k).map (gG who)++L.drop k)[i]'(by rw[<-ho];omega):=by simp only[ho]
   rw[this,pA af,List.getElem_drop];congr 1;omega
  have s:∀i (hi:i<k),D.bQ[i]'Qat=gG who (L[i]'Qat):=fun i hi=>by
   have:D.bQ[i]'Qat=((L.take k).map (gG who)++L.drop k)[i]'(by rw[<-ho];omega):=by simp only[ho]
   rw[this,lC af,lj,uX]
  have a:dR L[k].mem L[k].bK L[k]=true:=by unfold dR;simp[f]
  have g:eo (dR L[k].mem L[k].bK) D.bQ=(k:Nat):=by
   rcases uz (dR L[k].mem L[k].bK) D.bQ with⟨_,c⟩|⟨i,hi,d,c,x⟩
   ·have:=c k af
    rw[M k hk (bL _),a]at this;exact xl this au
   ·rw[d];congr 1;unfold dR at c;simp only[qW,decide_eq_true_eq]at c;rcases fA i k with hik|hik
    ·rw[s i hik]at c;obtain⟨K,U,_,t⟩:=Kv who (L[i]'Qat);rw[K,U]at c;exact h.uq i k af hk (t c.1.1) f c.1.2 c.2
    ·rw[M i af hik]at c;exact h.uq i k af hk c.1.1 f c.1.2 c.2
  have q:gZ D.bQ (k:Nat)=L[k]:=by rw[we _ k af];exact M k hk (bL _)
  have j:=h.nn _ (cZ hk);have l:=h.dn _ (cZ hk) f;have b:mr (lv L[k]) (fM L[k] who).1 (fM L[k] who).2=false:=by
   unfold fM at r⊢;rw[ya (by simp[f])]at r⊢;split at r<;>rename_i d
   ·rw[yc d];have:=l d.1
    rw[Kw d.1 j.2];unfold mr;simp[d.2];omega
   ·rw[ya d];split at r<;>rename_i c
    ·rw[yc c];have:=l c
     rw[Kw c j.2];unfold mr;simp;omega
    ·rw[ya c];split at r<;>rename_i x
     ·rw[yc x,Yl x.1 j.1];unfold mr;simp;omega
     ·exact xl f r
  unfold fL;rw[g,q,ya af,ya (by simp[b]),show((k:Nat):Int).toNat=k by simp];show D.bQ.set k _=_;rw[ho,uS _ _ af,N,ue,p,iO];congr 2;unfold gG;rw[ya m]
 split<;>exact Z
def Yn(h:iM C D.bQ):D.close.bQ=D.bQ.map (gG (ft D.who (gQ D.bQ)))/\D.close.who=ft D.who (gQ D.bQ):=by
 have f:∀k,k<=D.bQ.length->((D.bQ.take k).foldl DS.fa D.outs).bQ=(D.bQ.take k).map (gG (ft D.who (gQ D.bQ)))++D.bQ.drop k/\((D.bQ.take k).foldl DS.fa D.outs).who=ft D.who (gQ D.bQ):=by
  intro k;induction k with
  |zero=>intro _;exact⟨by simp[DS.outs,DS.tell],rfl⟩
  |succ k ih=>
   intro b;let⟨G,a⟩:=ih af;rw[J4 _ _ k af];exact⟨Ym h _ k af _ G a,by rw[J1];exact a⟩
 have:=f D.bQ (bL _)
 rw[ic,List.drop_length,ix]at this;exact this
def Yo(h:iM C l)(k:jO who l):iM C (l.map (gG (ft who (gQ l))))/\jO (ft who (gQ l)) (l.map (gG (ft who (gQ l)))):=by
 let⟨n,A⟩:=aH (ft who (gQ l));rw[A];have b:=Kv n;refine⟨⟨fun i j hi hj s1 s2 m1 m2=> ?_, ?_, ?_, ?_, ?_⟩, ?_, ?_⟩
 ·rw[cR]at hi hj;rw[lj]at s1 s2;simp only[lj,(b _).1,(b _).2.1]at m1 m2;exact h.uq i j hi hj ((b _).2.2.2 s1) ((b _).2.2.2 s2) m1 m2
 ·intro y B s f;obtain⟨x,a,rfl⟩:=Fy.1 B;unfold gG at s f⊢;split at s<;>rename_i P
  ·rw[yc P]at f⊢;exact h.dn x a s f
  ·exact xl (ci s) P
 ·intro y B;obtain⟨x,a,rfl⟩:=Fy.1 B;rw[(b x).1];exact h.mb x a
 ·intro y B;obtain⟨x,a,rfl⟩:=Fy.1 B;rw[(b x).2.1];exact h.sc x a
 ·intro y B;obtain⟨x,a,rfl⟩:=Fy.1 B;rw[(b x).2.2.1];exact h.nn x a
 ·intro m Z;rw[<-A,As]at Z;rcases Z with Z|Z
  ·let⟨x,a,d,c,p,M⟩:=k.o m Z;have e:gG n x=x:=by unfold gG;rw[yc (bS (by rw[p];decide))]
   exact⟨x,Fy.2 ⟨x,a,e⟩,d,c,p,M⟩
  ·let⟨x,a,d,c,p⟩:=EH.1 Z;unfold mu at c;simp only[qW,decide_eq_true_eq]at c;have g:fM x n=(3,x.done):=by
    unfold fM;rw[ya (by simp[d]),ya af,yc af]
   refine⟨gG n x,Fy.2 ⟨x,a,rfl⟩,by rw[(b x).1];exact p,by rw[(b x).2.2.1];omega, ?_, ?_⟩
   ·unfold gG;rw[g,ya (by simp[d])]
   ·unfold gG;rw[g,ya (by simp[d])];show x.done<x.cE;omega
 ·intro y B T f;obtain⟨x,a,rfl⟩:=Fy.1 B;rw[(b x).1]at T;rw[(b x).2.2.1]at f;by_cases L:x.cN=1
  ·have q:=h.dn x a L f;by_cases V:x.done=x.cE
   ·have g:fM x n=(2,x.done):=by
     unfold fM;rw[ya (by simp[L]),yc ⟨f,V⟩]
    right
    unfold gG;rw[g,ya (by simp[L])]
   ·exfalso;refine T ?_;rw[<-A,As];right
    refine EH.2 ⟨x,a,L, ?_,rfl⟩;unfold mu;simp;omega
  ·have e:gG n x=x:=by unfold gG;rw[yc (bS L)]
   rw[e];refine k.st x a (fun Z=>T ?_) f;rw[<-A,As];exact bS Z
def Kx(h:iM C l)(k:jO who l):(ft who (gQ l)).length<=C.mem:=by
 refine Yh fun x hx=> ?_;rcases xq.1 hx with hx|hx
 ·obtain⟨y,B,rfl,_⟩:=k.o x hx;exact h.mb y B
 ·obtain⟨y,B,_,_,rfl⟩:=EH.1 hx;exact h.mb y B
structure iu(D:DS):Prop where
 ok:cC D
 o:iM D.C D.bQ
 k:jO D.who D.bQ
 w:D.who.length<=16
 d:∀x∈D.bQ,bO x.done
def iu.same(h:iu D)(s:lO D D' ev):iu D':=⟨s.ok,by rw[s.C,s.bQ];exact h.o,by rw[s.who,s.bQ];exact h.k,by rw[s.who];exact h.w,by rw[s.bQ];exact h.d⟩
def iu.Yp(h:iu D):∀x∈D.bQ,bO x.mem:=fun x hx=>by
 have h1:=h.o.mb x hx;have h2:D.C.mem.length<=16:=h.ok.ct.m2;unfold bO;omega
variable{rows:bF (bF Lg)}{lost:bF Lg}
def Yq{cl:bF Ob}:∀{D:DS},iM C D.bQ->jO D.who D.bQ->(∀x∈cl,∀y∈D.bQ,y.cN=1->y.mem=x.mem->y.bK=x.bK->y.cE<0)->
  iM C (D.marks rows lost cl).bQ/\jO D.who (D.marks rows lost cl).bQ/\(D.marks rows lost cl).who=D.who/\(D.marks rows lost cl).cv=D.cv/\(D.marks rows lost cl).dt=D.dt/\(D.marks rows lost cl).state=D.state:=by
 induction cl with
 |nil=>intro D h k _;exact⟨h,k,rfl,rfl,rfl,rfl⟩
 |cons x l ih=>
  intro D h k P;obtain⟨s,d,V⟩:∃s d,D.mark ⟨x.mem,x.bK,wrap64 (-x.cE)⟩ (kY x.mem (rows.getD x.bK.toNat [])) (decide (0<kY x.mem lost))={D with bQ:=(fL D.bQ x.mem x.bK s d).2}:=⟨_,_,rfl⟩;let⟨a,c,b⟩:=h.mark k x.mem x.bK s d (P x au);have M:=ih (D:={D with bQ:=(fL D.bQ x.mem x.bK s d).2}) a c fun z hz y hy hs hm ha=>b (fun y=>y.mem=z.mem->y.bK=z.bK->y.cE<0) (fun y hy hs=>P z (by simp[hz]) y hy hs) y hy hs hm ha;show iM C (DS.marks (D.mark _ _ _) rows lost l).bQ/\_;rw[show D.marks rows lost (x::l)=DS.marks (D.mark ⟨x.mem,x.bK,wrap64 (-x.cE)⟩ (kY x.mem (rows.getD x.bK.toNat [])) (decide (0<kY x.mem lost))) rows lost l from rfl,V];exact M
def Yr(h:∀x∈l,bO x.cE)(hd:∀x∈l,bO x.done)(m a s d:Int):∀x∈(fL l m a s d).2,bO x.done:=by
 unfold fL;split
 ·exact hd
 split
 ·exact hd
 ·rename_i b c;let⟨i,p,o,r,_⟩:=Ku b;intro x j;rcases rT j with h3|h3
  ·exact hd x h3
  ·subst h3;rw[r]at c;have M:=h _ (cZ p);simp[mr]at c;have V:lv l[i]<=9223372036854775807:=by
    unfold lv wrap64;unfold bO at M;omega
   show bO d;unfold bO;omega
def Ys(cl:bF Ob):∀{D:DS},cC D->(∀x∈D.bQ,bO x.done)->∀x∈(D.marks rows lost cl).bQ,bO x.done:=by
 induction cl with
 |nil=>intro D _ h;exact h
 |cons x l ih=>intro D n h;exact ih (n.mark _ _ _) (Yr n.fC h _ _ _ _)
def Yu(h:∀x∈l,bO x.done):∀x∈l.map (gG who),bO x.done:=fun x hx=>by
 obtain⟨y,hy,rfl⟩:=Fy.1 hx;have h1:=h y hy;unfold gG;split
 ·exact h1
 ·show bO (fM y who).2;unfold fM;repeat' split
  all_goals first|exact h1|(show bO (0:Int);unfold bO;omega)
def Yv(h:iM C l):∀x∈l.filterMap pO,∀y∈l,y.cN=1->y.mem=x.mem->y.bK=x.bK->y.cE<0:=fun x hx y hy hs hm ha=>by
 obtain⟨z,hz,he⟩:=acY.1 hx;unfold pO eJ at he;split at he
 ·rename_i hc;cases he
  simp at hc;obtain⟨i,hi,rfl⟩:=eW hz;obtain⟨j,hj,rfl⟩:=eW hy;have:=h.uq j i hj hi hs hc.1 hm ha
  subst this;exact hc.2
 ·cases he
def Yw(ok:cC D)(a:Int):∃ev,lO D (D.leave1 a) ev/\ev.length<=1/\eM ev:=by
 unfold DS.leave1;split
 ·exact⟨_,⟨rfl,rfl,rfl,rfl,rfl,rfl,rfl,(ok.move _ _ _ _).tell _⟩,bL _,pg (ci (show(15:Int)<16 by decide))⟩
 ·exact⟨[],⟨rfl,rfl,rfl,rfl,rfl,rfl,au,ok⟩,au,nofun⟩
def eM.append{a b:bF Ev}(h:eM a)(k:eM b):eM (a++b):=fun x hx=>by
 rcases xq.1 hx with hx|hx
 ·exact h x hx
 ·exact k x hx
def Yx(ok:cC D):∀n,∃ev,lO D (D.ja n) ev/\ev.length<=n/\eM ev:=by
 intro n;induction n with
 |zero=>exact⟨[],⟨rfl,rfl,rfl,rfl,rfl,rfl,by simp[DS.ja],ok⟩,au,nofun⟩
 |succ n ih=>
  obtain⟨o,I,q,Z⟩:=ih;let⟨r,h,O,Q⟩:=Yw I.ok (n:Int);exact⟨o++r,I.bu h,aN,Z.append Q⟩
def Yy(I:iu D)(rows:bF (bF Lg))(lost:bF Lg):∃ev,iu (D.fin rows lost)/\(D.fin rows lost).log=D.log++ev/\ev.length<=9/\eM ev/\(D.fin rows lost).C=D.C/\(D.fin rows lost).who=D.who/\(D.fin rows lost).dt=D.dt/\(D.fin rows lost).cv=[]/\(D.fin rows lost).state=0:=by
 let⟨b,c,a,M,V,A⟩:=Yq (rows:=rows) (lost:=lost) I.o I.k (Yv I.o);let⟨v,T,n⟩:=EC rows lost (D.bQ.filterMap pO) I.ok;let⟨ev,s,l,o⟩:=Yx v (D.C.secs.length+1);have U:D.C.secs.length<=8:=I.ok.ct.s2;refine⟨ev,⟨⟨s.ok.ct,s.ok.bal,s.ok.b64,s.ok.holds,s.ok.rise,s.ok.bQ,s.ok.fC,s.ok.who⟩, ?_, ?_, ?_, ?_⟩, ?_,af,o,s.C.bu n,s.who.bu a,s.dt.bu V,rfl,rfl⟩
 ·show iM (DS.ja _ _).C (DS.ja _ _).bQ;rw[s.C,n,s.bQ];exact b
 ·show jO (DS.ja _ _).who (DS.ja _ _).bQ;rw[s.who,a,s.bQ];exact c
 ·show(DS.ja _ _).who.length<=16
  rw[s.who,a];exact I.w
 ·show∀x∈(DS.ja _ _).bQ,bO x.done
  rw[s.bQ];exact Ys _ I.ok I.d
 ·show(DS.ja _ _).log=_
  rw[s.log,T]
def Yz(D:DS)(x:Ob):(D.fa x).cv=D.cv/\(D.fa x).dt=D.dt/\(D.fa x).state=D.state/\∃ev,(D.fa x).log=D.log++ev/\ev.length<=1/\eM ev:=by
 unfold DS.fa;split
 ·exact⟨rfl,rfl,rfl,[],au,au,nofun⟩
 ·split
  ·exact⟨rfl,rfl,rfl,_,rfl,bL _,pg (bS (show(9:Int)<13 by decide))⟩
  ·exact⟨rfl,rfl,rfl,[],au,au,nofun⟩
def YB(l:bF Ob):∀D:DS,(l.foldl DS.fa D).cv=D.cv/\(l.foldl DS.fa D).dt=D.dt/\(l.foldl DS.fa D).state=D.state/\∃ev,(l.foldl DS.fa D).log=D.log++ev/\ev.length<=l.length/\eM ev:=by
 induction l with
 |nil=>intro D;exact⟨rfl,rfl,rfl,[],au,au,nofun⟩
 |cons x l ih=>
  intro D;let⟨n,a,b,o,B,Q,P⟩:=Yz D x;let⟨z,t,V,r,G,I,c⟩:=ih (D.fa x);exact⟨z.bu n,t.bu a,V.bu b,o++r,by rw[qX,G,B,fz],by rw[cO,gL];omega,P.append c⟩
def YC(l:bF Int):∀{D:DS},cC D->lO D (D.kz l) []:=by
 induction l with
 |nil=>intro D n;exact⟨rfl,rfl,rfl,rfl,rfl,rfl,by simp[DS.kz],n⟩
 |cons x l ih=>
  intro D n;have d:lO D (D.release x) []:=⟨rfl,rfl,rfl,rfl,rfl,rfl,by simp[DS.release],Jg n x⟩;exact d.bu (ih d.ok)
def YD(I:iu D):∃ev,iu D.jo/\D.jo.log=D.log++ev/\ev.length<=2048/\eM ev/\D.jo.C=D.C/\D.jo.cv=D.cv/\D.jo.dt=D.dt/\D.jo.state=D.state/\∀m∈D.who,m∈D.jo.who:=by
 have T:=Kx I.o I.k;have Z:D.C.mem.length<=16:=I.ok.ct.m2;let⟨K,U,u,i,W⟩:=Ey I.ok af;let⟨a,r⟩:=Yn I.o;let⟨G,c⟩:=Yo I.o I.k;have s:=YC (D.close.holds.map RH.bR) K;let⟨b,f,F,ev,p,h,g⟩:=YB D.bQ D.outs;have J:eM (iW D.who (gQ D.bQ)):=fun x hx=>by
  unfold iW at hx;obtain⟨m,_,rfl⟩:=Fy.1 hx;exact bS (show(8:Int)<13 by decide)
 have X:D.close.C=D.C:=by rw[<-W];exact s.C.symm
 have S:=Et I.ok;have q:=I.ok.bQ;refine⟨iW D.who (gQ D.bQ)++ev,⟨s.ok, ?_, ?_, ?_, ?_⟩, ?_, ?_,J.append g,W,s.cv.bu b,s.dt.bu f,s.state.bu F,fun m Z=>by
  show m∈(DS.kz _ _).who;rw[s.who,r,As];exact bS Z⟩
 ·show iM (DS.kz _ _).C (DS.kz _ _).bQ;rw[s.C,s.bQ,X,a];exact G
 ·show jO (DS.kz _ _).who (DS.kz _ _).bQ;rw[s.who,s.bQ,a,r];exact c
 ·show(DS.kz _ _).who.length<=16
  rw[s.who,r];omega
 ·show∀x∈(DS.kz _ _).bQ,bO x.done
  rw[s.bQ,a];exact Yu I.d
 ·show(DS.kz _ _).log=_
  rw[s.log,ix];show(D.bQ.foldl DS.fa D.outs).log=_
  rw[p];show D.log++iW D.who (gQ D.bQ)++ev=_;rw[fz]
 ·rw[cO];omega
def YE(B:Nat)(K:List Nat)(A:DA)(D:DS)(w:World)(e:Ending)(w':World):Prop:=∃b y A' D',e=.returned (.tuple #[.bool b,aY y])/\cL B K w w' A A' D'/\
 if D.state≠1 then b=false/\y=11/\D'=D else y=0/\b=tA D' D'.C.secs.length/\iu D'/\D'.state=2/\D'.C=D.C/\D'.cv=D.cv/\D'.dt=D.dt/\(∀m∈D.who,m∈D'.who)/\∃ev,D'.log=D.log++ev/\ev.length<=2608/\eM ev
variable{w:bD}
def YF{A:DA}(h:cQ w B A D)(I:iu D)(hK:dS w K A)(hB:B<=w)(hlog:D.log.length<=880000):bG 171 #[ptr A.gd] w (YE B K A D w):=by
 have T:=Kx I.o I.k;have Z:D.C.mem.length<=16:=I.ok.ct.m2;let⟨l,J,q,O,s,c,p,r,v,f⟩:=YD I;have E:D.jo.most<=560:=by have:=J.w;unfold DS.most;omega
 have t:D.jo.log.length<=882048:=by rw[q,cO];omega
 refine(J7 h I.ok hK hB af af (eH D.jo.most D.jo) (fun j x=>x.ok) (EE J.ok An af)).bC fun e w' ⟨b,y,A',D',he,st,hd⟩=>⟨b,y,A',D',he,st, ?_⟩;split at hd
 ·rename_i L;rw[yc L];exact hd
 ·rename_i L;rw[ya L];obtain⟨n,j,x,rfl,u⟩:=hd;let⟨g,i,z,S⟩:=x.same;have a:=J.same i;refine⟨n,u,⟨⟨a.ok.ct,a.ok.bal,a.ok.b64,a.ok.holds,a.ok.rise,a.ok.bQ,a.ok.fC,a.ok.who⟩,a.o,a.k,a.w,a.d⟩,rfl,i.C.bu c,i.cv.bu p,i.dt.bu r,fun m Z=>(by show m∈j.who;rw[i.who];exact f m Z),l++g, ?_,aN,s.append S⟩;show j.log=_;rw[i.log,q,fz]
def YG(B:Nat)(K:List Nat)(A:DA)(D:DS)(w:World)(e:Ending)(w':World):Prop:=∃r A' D',e=.returned (aY r)/\cL B K w w' A A' D'/\
 if D.state≠2 then r=11/\D'=D else r=0/\iu D'/\D'.state=0/\D'.C=D.C/\D'.who=D.who/\D'.cv=[]/\D'.dt=D.dt/\∃Gs G L' ev1 evs L ev2 ev3,pj D D.C.secs evs Gs L/\wI D L G L'/\D'.log=D.log++(ev1++evs++ev2++(ey 13 G++ey 15 L')++ev3)/\ev1.length<=6080/\ev2.length<=560/\ev3.length<=9/\eM ev1/\eM ev2/\eM ev3
def YH{A:DA}(h:cQ w B A D)(I:iu D)(hK:dS w K A)(hB:B<=w)(hb:D.cv.length<=100)(hlog:D.log.length<=800000):bG 172 #[ptr A.gd] w (YG B K A D w):=by
 have U:D.C.secs.length<=8:=I.ok.ct.s2;have E:D.most<=560:=by have:=I.w;unfold DS.most;omega
 have j:D.lN<=760:=by unfold DS.lN;omega
 refine(Kg h I.ok hK hB (fun k D1=>eH (k*D.lN) D D1) (SI2 D) (Kt D) (fun _=>Yb I.ok I.w hb hlog I.Yp I.o.sc)).bC fun e w' ⟨r,A',D',he,st,hd⟩=>⟨r,A',D',he,st, ?_⟩;split at hd
 ·rename_i d;rw[yc d];exact hd
 ·rename_i d;rw[ya d];obtain⟨n,i,G,t,q,⟨b,f,L,g,u,P,a,W,s,Z,Q⟩,rfl⟩:=hd;let⟨c,J,l,p,S,y,v,M,R,m⟩:=Yy (I.same a) (G::i) t;refine⟨n,J,m,y.bu a.C,v.bu a.who,R,M.bu a.dt,i,G,t,b,f,L,g,c,u,P, ?_,bW W (bW (qm U j) ah),af,p,Z,Q,S⟩;rw[l,a.log,fz]
def YI{T:bF Tr}(h:kW C T):∀x∈T.flatMap eB,(1<=x.mem/\x.mem<=C.mem)/\0<=x.bK/\x.bK<=C.secs:=by intro x j;let⟨t,a,j⟩:=FE.1 j;let⟨i,k,O⟩:=h.who t a;unfold fR at i k;unfold fX at O;simp only[eB,je,qk,or_false]at j;rcases j with rfl|rfl|rfl|rfl<;>dsimp only<;>omega
def YJ{T:bF Tr}(h:kW C T){bT:bF Lg}(hn:yp C T bT):∀x∈bT,(1<=x.mem/\x.mem<=C.mem)/\0<=x.bK/\x.bK<=C.secs:=by
 intro x j;let⟨d,c⟩:=hn.is x j;have a:oZ (T.flatMap eB) (dX x)≠[]:=fun e=>c (by rw[d];unfold o8;rw[e];rfl);unfold oZ at a;let⟨n,hn⟩:=List.exists_mem_of_ne_nil _ a;let⟨y,B,_⟩:=Fy.1 hn;rw[tU]at B;have e:dX y=dX x:=aG B.2;have:=YI h y B.1
 unfold dX at e;simp only[Sd.mk.injEq]at e;rw[<-e.1,<-e.2];exact this
section
open Go.Sort Go.Proofs
def Ky{a b:Tm}(h:eY (gT a) (gT b)<=0):a.dh<=b.dh:=by
 unfold gT at h;rw[eY]at h;unfold ff at h;by_cases d:a.dh<b.dh
 ·omega
 ·by_cases c:b.dh<a.dh
  ·simp[d,c]at h
  ·omega
def wK{l:bF Tm}{P:bF Nat}{now:Int}{t:Tm}(hP:P.Perm (List.range l))(h:mz l P now=some t):t∈l/\t.dh<=now:=by
 unfold mz zW at h;cases P with
 |nil=>simp at h
 |cons i P=>
  have p:i<l:=by simpa using hP.mem_iff.1 (iG ..)
  simp only[eu]at h;rw[dy,dG p,pB]at h;split at h
  ·cases h
  ·cases h
   exact⟨cZ p,af⟩
def At{l:bF Tm}{P:bF Nat}{now:Int}(hP:P.Perm (List.range l))(hs:ro (l.map gT) P){x:Tm}(hx:x∈l)(hd:x.dh<=now):∃t,mz l P now=some t/\eY (gT t) (gT x)<=0:=by
 unfold mz zW;cases hc:P with
 |nil=>rw[hc]at hP;have:=hP.length_eq;simp at this;rw[lB this.symm]at hx;simp at hx
 |cons i P'=>
  have p:i<l:=by simpa using hP.mem_iff.1 (by rw[hc];exact iG ..)
  obtain⟨k,a,rfl⟩:=eW hx;have c:k∈P:=hP.mem_iff.2 (aG a);let⟨j,J,b⟩:=eW c;have g:eY (gT l[i]) (gT l[k])<=0:=by
   rcases tX j with h0|h0
   ·subst h0;have:i=k:=by rw[<-b];simp[hc]
    subst this;have:=(qw (gT l[i]) (gT l[i])).2
    omega
   ·have h:=AW.1 hs 0 j af J h0;have o:P[0]'Qat=i:=by simp[hc]
    rw[o,b]at h;simpa[dy,p,a]using h
  have d:=Ky g;refine⟨l[i], ?_,g⟩;simp only[eu];rw[dy,dG p,pB,ya af]
end
section
attribute [local go_sem ↓] wp_at_zero wp_at_succ
def YK(c:Cm)(hk:c.kd=2)(w:bD):bG 103 #[rB c] w (bi (.tuple #[pG c.g8,()]) w):=by have C:Bw w (aZ w (jB c) 38):=aI;have d:=C.alloc C.size (bH #[(),(),(),(),(),()] 58);have R:Hid (bI ((w.alloc (bH (jB c) 38)).alloc (bH #[(),(),(),(),(),()] 58)) (w.heap.size+1) 58 #[(),(),(),(),(),()]):=aa (heap_alloc2_new _ _ _);have u:(c.kd !=2)=false:=aG hk;have D:Hid (c.g8=⟨c.id,c.mb,c.ot,c.sc,c.qt,c.pr⟩):=aa rfl;rw[D.o];clear hk;go_enter func103,ntmps103;go_wp2_with(refine fQ rfl 58 _ _ rfl rfl (w.heap.size+1) #[c.id,c.mb,c.ot,c.sc,c.qt,c.pr] rfl rfl aj aD _ R.o rfl ?_;intro M x;have q:=aa x;have W:=x.row.c 0;have I:=x.row.c 1;have h:=x.row.c 2;have K:=x.row.c 3;have t:=x.row.c 4;have S:=x.row.c 5;clear x);refine wb (v:=.tuple #[.agg #[c.id,c.mb,c.ot,c.sc,c.qt,c.pr],()]) (by simp[results,results103,go_sem,W,I,h,K,t,S]) rfl ?_;exact⟨rfl,q.o.low d af⟩
def YS.next(Y:YS)(cq:Int)(short:Bool):Int:=(ml Y.phase cq short (decide ((Y.C.bU:Int)<=Y.cycle))).1
variable{A:YA}{Y:YS}
def Au(h:dp w B A Y)(cq:Int)(short:Bool):bG 174 #[ptr A.gy,cq,.bool short] w (bi (Y.next cq short) w):=by
 have E:=aa h;let⟨z,S,p,_⟩:=h.ct.sl.c;have a:w.cell? (be A.gy 2)=some (.slice z Y.C.bU S):=(h.blk.c 2).bu (ym some p);have J:w.cell? (be A.gy 11)=Y.phase:=h.blk.c 11;have b:w.cell? (be A.gy 13)=Y.cycle:=h.blk.c 13;have I:=aa (On Y.phase cq short (decide ((Y.C.bU:Int)<=Y.cycle)) w.drew h.ol.d);have q:Hid (Y.next cq short=(ml Y.phase cq short (decide ((Y.C.bU:Int)<=Y.cycle))).1):=aa rfl;have r:=aa p;have N:=ch a (ch J b);clear h p;go_enter func174,ntmps174;go_wp2;go_region_held3(fun W=>W.cell? (be A.gy 2)=some (.slice z Y.C.bU S)/\W.cell? (be A.gy 11)=Y.phase/\W.cell? (be A.gy 13)=Y.cycle) (first|exact N|exact x|assumption|go_keep)
  (first|(go_at_call 223;refine I.o.bC ?_;rintro e k⟨rfl,f⟩;have n:=aa (E.o.keepD f);have g:=aa f;have x:=ch ((n.o.blk.c 2).bu (ym some r.o)) (ch (n.o.blk.c 11) (n.o.blk.c 13))))
 all_goals
  go_wp2;go_ret;exact⟨by rw[q.o];rfl,sW g.o⟩
def Kz(k:Nat)(h1:1<=k)(h2:k<=10)(g:Nat)(w:bD):bG 36 #[ptr g,k] w (bj (.func (.func (70+k)) #[ptr g] #[]) w):=by
 obtain rfl|rfl|rfl|rfl|rfl|rfl|rfl|rfl|rfl|rfl:k=1∨k=2∨k=3∨k=4∨k=5∨k=6∨k=7∨k=8∨k=9∨k=10:=af
 all_goals
  go_enter func36,ntmps36;go_wp2;go_ret;exact⟨rfl,rfl⟩
def KA(f g:Nat)(W:bD):(binOp BinOp.eql 96 (.func (.func f) #[ptr g] #[]) .nilFunc).run prog W=.ok (.bool false) W:=aB
abbrev yx(e n:Int):Value:=.agg #[e,n]
def KC(h:dp w B A Y)(c:Cm)(he:c.kX≠0):bG 9 #[ptr A.gy,rB c] w fun e w'=>e=.returned (yx c.kX 0)/\dr B w w' A A Y:=by
 let⟨g,a⟩:=aH ((w.alloc (bH (jB c) 38)).alloc (bH #[(),()] 35));have C:Bw w (aZ w (jB c) 38):=aI;have d:Bw w g:=by rw[<-a];exact C.alloc C.size _
 have R:Hid (bI g (w.heap.size+1) 35 #[(),()]):=aa QbR;have H:Hid (Boxed g w c):=aa Qc0;let⟨j,Z,s,m,r,n,p⟩:=H.o.cells;let⟨b,E,S⟩:=Jh3 a h (Ed c g);let⟨y,i⟩:=aH c.kX;rw[i]at S he⊢;have u:(y !=0)=true:=aG he;clear h a i he;go_enter func9,ntmps9;go_wp2_with fail;rw[show(w.alloc (bH #[c.kd,c.id,c.mb,c.ot,c.sc,c.qt,c.pr] 38)).alloc (bH #[(),()] 35)=g from b.o];go_wp2_with(first|(go_at_call 35;refine S.o.bC ?_;rintro e k⟨rfl,f⟩;have P:=aa (R.o.keep f);have l:=aa (d.bu (f.bC d.size)))|(refine fQ rfl 35 _ _ rfl rfl (w.heap.size+1) #[aY y,()] rfl rfl aj aD _ P.o rfl ?_;intro M x;have q:=aa x;have W:=x.row.c 0;have I:=x.row.c 1;clear x));refine wb (v:=.agg #[aY y,()]) (by simp[results,results9,go_sem,W,I]) rfl ?_;exact⟨rfl,dr.same E.o (q.o.low l.o af)⟩
variable{c:Cm}
def Cm.cq(h:c.kX=0):∃k:Nat,1<=k/\k<=10/\c.kd=k:=by
 have f:(lK c.kd).2=true:=by
  unfold Cm.kX Cm.right at h;cases hh:(lK c.kd).2 with
  |true=>rfl
  |false=>rw[hh]at h;simp at h
 unfold lK at f;by_cases x:c.kd=2
 ·exact⟨2,af,af,x⟩
 by_cases M:c.kd=7
 ·exact⟨7,af,af,M⟩
 by_cases V:c.kd=5
 ·exact⟨5,af,af,V⟩
 by_cases A:c.kd=6
 ·exact⟨6,af,af,A⟩
 by_cases r:c.kd=4
 ·exact⟨4,af,af,r⟩
 by_cases i:c.kd=8
 ·exact⟨8,af,af,i⟩
 by_cases T:c.kd=9
 ·exact⟨9,af,af,T⟩
 by_cases a:c.kd=1
 ·exact⟨1,af,af,a⟩
 by_cases d:c.kd=10
 ·exact⟨10,af,af,d⟩
 by_cases b:c.kd=3
 ·exact⟨3,af,af,b⟩
 ·simp[x,M,V,A,r,i,T,a,d,b]at f
variable{w':bD}
def dp.EI{TS:bF TypeId}(h:dp w B A Y)(m:cg B TS K w w')(hd:∀T∈[94,125,127,63,138,184,224,2,227,333,186,71,175,211,3,101,144,188,191,163,268,150,197],T∉TS):dp w' B A Y:=⟨h.blk.cu m (hd _ ah),h.ct.cu m (hd _ ah) (hd _ ah) (hd _ ah),h.dg.cu m (fun T hT=>hd T (by revert hT;revert T;decide)),h.reg.cu m (hd _ ah) (hd _ ah) (hd _ ah) (hd _ ah) (hd _ ah) (hd _ ah) (hd _ ah) (hd _ ah),h.ce.cu m (hd _ ah) (hd _ ah),dq h.log m (hd _ ah),h.lA,h.l1,h.ol.cu m h.l0,h.l0⟩
variable{g:Nat}{cs:Array bE}
def dr.ans{w1 w2:bD}{A1:YA}{Y1:YS}{kS:Array bE}(s:dr B w w1 A A1 Y1)(hw:B<=w)(hg:w.heap.size<=g)(hb:bI w1 g 35 kS)(p:pJ w1 g 35 cs w2):dr B w w2 A A1 Y1:=by have m:cg B [35] [] w1 w2:=cg.put hb p au af au;refine⟨s.at'.EI m ah,⟨m.os.bu s.mod.os,m.tape.bu s.mod.tape,m.output.bu s.mod.output,bW s.mod.size m.size,fun k hk hc=> ?_⟩,s.gy⟩;exact(p.mod.far k (iN hk s.mod.size) aA).bu (s.mod.far k hk hc)
def KD(h:dp w B A Y)(c:Cm)(he:c.kX=0)(hm:qn Y.phase c.kd=false):bG 9 #[ptr A.gy,rB c] w fun e w'=>e=.returned (yx 11 0)/\dr B w w' A A Y:=by
 let⟨k,l,D,z⟩:=Cm.cq he;let⟨g,a⟩:=aH ((w.alloc (bH (jB c) 38)).alloc (bH #[(),()] 35));have C:Bw w (aZ w (jB c) 38):=aI;have b:Bw w g:=by rw[<-a];exact C.alloc C.size _
 have R:Hid (bI g (w.heap.size+1) 35 #[(),()]):=aa QbR;have H:Hid (Boxed g w c):=aa Qc0;let⟨j,Z,p2,y,V,U,p⟩:=H.o.cells;let⟨u,E,P,S,K⟩:=Jh5 a h (h.keep b) (Ed c g) he;rw[he]at S;have t:=aa (fun W=>Kz k l D A.gy W);rw[<-z]at t;have F:=aa hm;have i:=fun W=>KA (70+k) A.gy W;clear h a he hm z;go_enter func9,ntmps9;go_wp2_with fail;rw[show(w.alloc (bH #[c.kd,c.id,c.mb,c.ot,c.sc,c.qt,c.pr] 38)).alloc (bH #[(),()] 35)=g from u.o];go_wp2_with(first|(go_at_call 35;refine S.o.bC ?_;rintro e T⟨rfl,f⟩;have L:=aa (R.o.keep f);have G:=aa (b.bu (f.bC b.size));have n:=aa (P.o.keep f);have m:=aa (H.o.keep f);have u0:=m.o.cells.1;have J:T.cell? (be A.gy 11)=Y.phase:=n.o.blk.c 11;have N:=ch u0 J)|(go_at_call 36;refine(t.o _).bC ?_;rintro e O⟨rfl,r⟩;subst r));go_region_held3(fun W=>W.cell? (be w 0)=c.kd/\W.cell? (be A.gy 11)=Y.phase) (first|exact N|assumption|go_keep)
  (first|(go_at_call 37;refine(FZ Y.phase c.kd _).bC ?_;rintro e X⟨rfl,s⟩;subst s;rw[F.o]))
 all_goals
  go_wp2_with(refine fQ rfl 35 _ _ rfl rfl (w.heap.size+1) #[(11:Int),()] rfl rfl aj aD _ L.o.d rfl ?_;intro M x;have q:=aa x;have Q:=x.row.c 0;have I:=x.row.c 1;clear x);refine wb (v:=.agg #[(11:Int),()]) (by simp[results,results9,go_sem,Q,I]) rfl ?_;exact⟨rfl,dr.same E.o (q.o.low (G.o.drew) af)⟩
def YL(B:Nat)(A:YA)(Q:Int->Int->YS->Prop)(w:World)(e:Ending)(w':World):Prop:=∃n er A' Y',e=.returned (yx er (if er=0 then n else 0))/\dr B w w' A A' (YS.hear Y')/\dv Y'/\Q n er Y'
def iF(B f:Nat)(Y:YS)(c:Cm)(Q:Int->Int->YS->Prop):Prop:=∀W A,dp W B A Y->Calls prog f #[ptr A.gy,rB c] W fun e w'=>∃n er A' Y',e=.returned (.tuple #[aY n,aY er])/\dr B W w' A A' Y'/\dv Y'/\Y'.log.length+Y'.D.log.length<=999000/\Q n er Y'
variable{W:bD}
def iF.at{f:Nat}{Q:Int->Int->YS->Prop}(h:iF B f Y c Q)(hA:dp W B A Y):bG f #[ptr A.gy,.agg #[c.kd,c.id,c.mb,c.ot,c.sc,c.qt,c.pr]] W fun e w'=>∃n er A' Y',e=.returned (.tuple #[aY n,aY er])/\dr B W w' A A' Y'/\dv Y'/\Y'.log.length+Y'.D.log.length<=999000/\Q n er Y':=h W A hA
def YM(h:dp w B A Y)(c:Cm)(he:c.kX=0)(hm:qn Y.phase c.kd=true)(f:Nat)(hf:c.kd+70=f)(eg:∀args w,(callFunc f args).run prog w=.ok (.enter f args) w)(Q:Int->Int->YS->Prop)(hh:iF B f Y c Q):bG 9 #[ptr A.gy,rB c] w (YL B A Q w):=by
 let⟨k,al,ak,hk⟩:=Cm.cq he;obtain rfl:f=70+k:=af;let⟨W1,u⟩:=aH ((w.alloc (bH (jB c) 38)).alloc (bH #[(),()] 35));have C:Bw w (aZ w (jB c) 38):=aI;have cB:Bw w W1:=by rw[<-u];exact C.alloc C.size _
 have ag:Hid (bI W1 (w.heap.size+1) 35 #[(),()]):=aa (by rw[<-u];exact heap_alloc2_new _ _ _);have H:Hid (Boxed W1 w.heap.size c):=aa (by rw[<-u];exact(Boxed.new w c).keep aI);let⟨p0,Z,p2,y,p4,p5,p⟩:=H.o.cells;let⟨ai,E,P,S,K⟩:=Jh5 u h (h.keep cB) (Ed c W1) he;rw[he]at S;have t:=aa (fun W=>Kz k al ak A.gy W);rw[<-hk]at t;let⟨HM,z⟩:=Jh2 hm hh;let⟨g,hg⟩:=aH (70+k);rw[hg]at t z eg;have am:=fun W=>KA g A.gy W;clear h u he hm hk hh hf hg;go_enter func9,ntmps9;go_wp2_with fail;rw[show(w.alloc (bH #[c.kd,c.id,c.mb,c.ot,c.sc,c.qt,c.pr] 38)).alloc (bH #[(),()] 35)=W1 from ai.o];go_wp2_with(first|(go_at_call 35;refine S.o.bC ?_;rintro e w2⟨rfl,c2⟩;have R2:=aa (ag.o.keep c2);have C2:=aa (cB.bu (c2.bC cB.size));have n:=aa (P.o.keep c2);have m:=aa (H.o.keep c2);have u0:=m.o.cells.1;have J:w2.cell? (be A.gy 11)=Y.phase:=n.o.blk.c 11;have N:=ch u0 J)|(go_at_call 36;refine(t.o _).bC ?_;rintro e O⟨rfl,D⟩;subst D));go_region_held3(fun W=>W.cell? ⟨w.heap.size,0,none⟩=c.kd/\W.cell? (be A.gy 11)=Y.phase) (first|exact N|assumption|go_keep)
  (first|(go_at_call 37;refine(FZ Y.phase c.kd _).bC ?_;rintro e X⟨rfl,s⟩;subst s;rw[HM.o]))
 all_goals
  rename_i r;clear r N u0 J;let⟨u0,u1,u2,u3,u4,u5,u6⟩:=(show Boxed (O.drew) w.heap.size c from m.o).cells;go_wp2_with(first
   |(go_at_fn g;refine(z.o.at n.o.d).bC ?_;rintro e T⟨U,R,A5,V,rfl,M,b,a,l⟩;have G:=aa ((dr.same E.o (C2.o.drew)).bu M);have ac:=aa b;have ae:=aa a;have Q5:=aa l;have i:=aa M.gy;have R5:=aa ((R2.o.d (wd:=O.drew)).cu M.mod ah);clear M b a l)
   |(go_at_call 38;rw[<-i.o];refine(VU G.o.at' ac.o ae.o).bC ?_;rintro e F⟨A6,rfl,ab⟩;have j:=aa (G.o.bu ab);have q:=aa (R5.o.cu ab.mod ah);clear ab)
   |(refine fQ rfl 35 _ _ rfl rfl (w.heap.size+1) #[R,()] rfl rfl aj aD _ q.o rfl ?_;intro W5 x;have PX:=aa x;have s0:=x.row.c 0;have I:=x.row.c 1;clear x)
   |(refine fQ rfl 35 _ _ rfl rfl (w.heap.size+1) #[(),U] rfl rfl aj aD _ q.o rfl ?_;intro W5 x;have PX:=aa x;have s0:=x.row.c 0;have I:=x.row.c 1;clear x))
  ·have L:(R !=0)=true:=aF;have ad:R≠0:=aG L;refine wb (v:=.agg #[R,()]) Qdd rfl ?_;exact⟨U,R,A6,V,by rw[ya ad],j.o.ans E.o.lt af q.o PX.o,ac.o,Q5.o⟩
  ·have L:(R !=0)=false:=aF;obtain rfl:R=0:=aG L;refine wb (v:=.agg #[(),U]) Qdd rfl ?_;exact⟨U,0,A6,V,by rw[yc rfl],j.o.ans E.o.lt af q.o PX.o,ac.o,Q5.o⟩
structure oa(w wr:World)(b:Nat)(v:Value)(l:List En):Prop where
 blk:bI wr b 230 #[v]
 own:wr.ownsRow w 231 4 v l (bN lW l)
 low:Bw w wr
 hb:w.heap.size<=b
variable{b:Nat}{v:bE}
def Av{wr:bD}{l:bF En}(h:oa w wr b v l)(hn:l.length<=10000)(a c:Ac)(n:Int)(hn64:-9223372036854775807<=n/\n<=9223372036854775807):bG 139 #[fo a,fo c,n,ptr b] wr fun e w'=>∃v',e=.returned (.tuple #[])/\oa w w' b v' (l++[⟨a.k,a.m,0,-n⟩,⟨c.k,c.m,0,n⟩])/\wr.heap.size<=w'.heap.size/\∀g T cs,bI wr g T cs->T≠230->T≠231->bI w' g T cs:=by
 obtain⟨F,U⟩:=a;obtain⟨E,D⟩:=c;let⟨i0,hi,S,X,R⟩:=wm OZ;have C:Bw wr ((wr.alloc (bH (cT ⟨F,U⟩) 81)).alloc (bH (cT ⟨E,D⟩) 81)):=aI.alloc au _;have d:=C.alloc C.size (bH #[F,U,(),(-n:Int),E,D,(),n] 231);let⟨V,Q,N⟩:=Jh3 h (cJ h.own d) (h.blk.keep d);have P:((wr.alloc (bH (cT ⟨F,U⟩) 81)).alloc (bH (cT ⟨E,D⟩) 81)).cell? (be b 0)=some v:=(h.blk.keep C).c 0;have ac:=h.low.size;have H:wrap64 (-n)=-n:=jF _ af;have A:IntKind.i64.wrap (-n)=-n:=gI _ af;have r:=h.low.bu (d.bC h.low.size);have J:=aa r;have u:=r.size;obtain⟨Z,L,rfl⟩:=bV h.own;have Y:([⟨F,U,0,-n⟩,⟨E,D,0,n⟩]:bF En).length=2:=rfl;let⟨L2,f⟩:=aH (l++[⟨F,U,0,-n⟩,⟨E,D,0,n⟩]);have ab:=aa f;clear h r;have I:Hid (bI (((wr.alloc (bH (cT ⟨F,U⟩) 81)).alloc (bH (cT ⟨E,D⟩) 81)).alloc (bH #[F,U,(),(-n:Int),E,D,(),n] 231)) (wr.heap.size+2) 231 #[F,U,(),(-n:Int),E,D,(),n]):=aa (by have h:=bI.new ((wr.alloc (bH (cT ⟨F,U⟩) 81)).alloc (bH (cT ⟨E,D⟩) 81)) 231 #[F,U,(),(-n:Int),E,D,(),n];simpa using h);go_enter func139,ntmps139;go_wp2_with(at_builtin;refine fG Cp ah OY _ rfl _ _ 230 rfl w 231 i0 (.agg #[(),(),(),()]) 32 underlying230 hi S X R aB (.slice Z l L) l rfl Q.o (some (be (wr.heap.size+2) 0)) 2 [⟨F,U,0,-n⟩,⟨E,D,0,n⟩] rfl (Sl.two I.o) (by show l.length+2<=maxLen;unfold maxLen;omega) (by show(l.length+2)*32<=_;omega) u ?_;intro v' O z j M;rw[f]at z;have y:=aa (N.o.grown Q.o j ah);have x:=aa z;have t:=aa (cg.grown (B:=w.heap.size) (TS:=[230,231]) (K:=[]) Q.o j au (bL _) au);have i:=y.o.c 0;have f7:=y.o.free 0;have G:=aa (J.o.grown j u (fun q hq=>(Q.o.lt q hq).1));obtain⟨s,W,rfl⟩:=bV z;clear z j M);go_end0;rw[f];have m1:cg w [230,231] [] O (O.setCell (be b 0) (.slice s L2.length W)):=cg.set y.o au V.o.hb au;refine⟨.slice s L2.length W,rfl,⟨y.o.set 0 _,ed x.o (fun g hg=>fV O (be b 0) _ g (fun e=>fp y.o x.o ah g hg (aG e))),G.o.setCell (p:=(be b 0)) V.o.hb _,V.o.hb⟩, ?_,fun g T cs hg h1 h2=> ?_⟩
 ·exact bW d.size (bW t.o.size m1.size)
 ·exact((hg.keep d).cu t.o (by simp[h1,h2])).cu m1 (by simp[h1,h2])
def oa.keep{wr:bD}{l:bF En}(h:oa w wr b v l)(c:Bw wr W):oa w W b v l:=⟨h.blk.keep c,cJ h.own c,h.low.bu (c.bC h.low.size),h.hb⟩
def nz(C:bZ)(k:Nat):Mb:=C.mem.getD k ⟨0,0⟩
def mE(C:bZ):Nat->List En
 |0=>[]
 |k+1=>mE C k++[⟨7,(k:Int)+1,0,-(nz C k).cw⟩,⟨8,(k:Int)+1,0,(nz C k).cw⟩]++[⟨7,(k:Int)+1,0,-(nz C k).cI⟩,⟨9,(k:Int)+1,0,(nz C k).cI⟩]
def pn(C:bZ):List En:=mE C C.mem.length++[⟨5,0,0,-C.line⟩,⟨3,0,0,C.line⟩]++[⟨6,0,0,-C.capital⟩,⟨4,0,0,C.capital⟩]
def DS.fT(D:DS):DS:=({D with nE:=true}:DS).post (pn D.C)
def KE(C:bZ):∀k,(mE C k).length=4*k:=by
 intro k;induction k with
 |zero=>rfl
 |succ k ih=>simp[mE,ih];omega
def YN(h:dz C):∀k,k<=C.mem.length->∀x∈mE C k,bO x.bJ:=by
 intro k;induction k with
 |zero=>intro _ x j;simp[mE]at j
 |succ k ih=>
  intro a x j;have Z:=h.mem (nz C k) (by unfold nz;rw[dy,dG af];exact cZ _);unfold mE at j;simp only[xq,je,qk,or_false]at j;unfold bO;rcases j with(j|rfl|rfl)|rfl|rfl
  ·exact ih af x j
  all_goals dsimp only;omega
def YO(h:dz C):∀x∈pn C,bO x.bJ:=by
 intro x j;have d:=h.line;have c:=h.capital;unfold pn at j;simp only[xq,je,qk,or_false]at j;rcases j with(j|rfl|rfl)|rfl|rfl
 ·exact YN h _ (bL _) x j
 all_goals(unfold bO;dsimp only;omega)
def cC.fT(ok:cC D):cC D.fT:=cC.post (D:={D with nE:=true}) ⟨ok.ct,ok.bal,ok.b64,ok.holds,ok.rise,ok.bQ,ok.fC,ok.who⟩ _
def YP{A:DA}(h:cQ w B A D)(ok:cC D)(hK:dS w K A)(hB:B<=w)(he:D.nE=false)(hz:∀k,k<D.C.mem.length->(nz D.C k).cw<=1099511627776-D.eQ ⟨8,(k:Int)+1⟩ 0/\-1099511627776<=D.eQ ⟨8,(k:Int)+1⟩ 0):
  bG 99 #[ptr A.gd] w fun e w'=>∃A' r,e=.returned (aY r)/\cL B K w w' A A' D.fT:=by
 let⟨ae,aC,l,HZ⟩:=Jh4 h hK ok hz;have aE:=ok.ct.m2;have HV:=aa ok.ct;let⟨nm,km,aF,_,d1,d2,n⟩:=h.ct.sl.m;have ar:=aa n;have bc:w.cell? (be A.gd 14)=some (.bool false):=by rw[<-he];exact h.blk.c 14
 let⟨C,hC⟩:=aH D.C;rw[hC]at ar aE d1 HZ HV;have p0:w.cell? (be A.gd 0)=some (.slice nm C.mem.length km):=(h.blk.c 0).bu (by rw[<-hC];exact ym some aF);have HC:=aa hC;unfold maxLen at d2;clear h ok hK hz n aF he hC;go_enter func99,ntmps99;go_wp2;go_loopw[23] (fun vi wr=>∃k:Nat,k<=C.mem.length/\vi=.int .i64 k/\Bw w wr) (aW C.mem.length);exact⟨0,cH _,rfl,bM _ _⟩;obtain⟨k,hk,rfl,ad⟩:=hrel;by_cases ac:k<C.mem.length
 ·obtain⟨b,al,rfl,y,n⟩:=ar.o af;have T:Hid (nz C k=C.mem[k]):=aa (by unfold nz;rw[dy,dG ac];rfl);let⟨q0,q1⟩:=xM (n k ac);have r0:=(ad.c (p:=⟨b,al+k*2,none⟩) y).bu q0;have r1:=(ad.c (p:=⟨b,al+k*2+1,none⟩) y).bu q1;have a4:0<=(k:Int):=af;have aR:k<(C.mem:Int):=af;have ak:k<=1000:=af;have ap:=HZ.o k ac;rw[T.o]at ap;have j:=HV.o.mem C.mem[k] (cZ ac);clear n q0 q1;generalize C.mem[k]=x at*;have cX:Bw wr (aZ wr (eR x) 125):=aI;let⟨X,E⟩:=aH (wr.alloc (bH (eR x) 125));have a:=aa E;have H:Hid (bI X wr 125 (eR x)):=aa Qc6;have Y:Bw w X:=by rw[<-E];exact ad.bu (cX.bC ad.size)
  have f:=aa (ae.o.keep Y);have z:=aa (j7.start X B A D f.o);let⟨q,am⟩:=aH (D.eQ ⟨8,(k:Int)+1⟩ 0);have a9:=aa am;have bn:Hid (bO q):=aa (by rw[<-am];exact ru l.o _ _);rw[am]at ap;have dZ:decide (1099511627776-q<x.cw)=false:=dF af;have a0:wrap64 (1099511627776-q)=1099511627776-q:=jF _ af;have a6:IntKind.i64.wrap (1099511627776-q)=1099511627776-q:=gI _ af;have N:X.cell? (be wr 0)=x.cw:=H.o.c 0;have aN:=(gJ k ak).1;have s:=(gJ k ak).2;clear E cX am ap j;go_wp2_with fail;rw[show wr.alloc (bH #[x.cw,x.cI] 125)=X from a.o];go_region_held3(fun W=>W.cell? (be wr 0)=x.cw) (first|exact N|exact I|exact s2|assumption|go_keep)
   (first
    |(go_at_call 138;refine(pK ((k:Int)+1) _).bC ?_;rintro e V⟨rfl,rfl⟩;have S:=aa (z.o.alloc (bH (cT ⟨8,(k:Int)+1⟩) 81));have I:(X.drew.alloc (bH (cT ⟨8,(k:Int)+1⟩) 81)).cell? (be wr 0)=x.cw:=(H.o.keep S.o.1).c 0)
    |(go_at_call 137;refine(ye S.o.2 l.o ⟨8,(k:Int)+1⟩ 0).bC ?_;rintro e x2⟨rfl,c2⟩;rw[a9.o];have G:=aa (S.o.keep c2);have s2:x2.cell? (be wr 0)=x.cw:=(H.o.keep G.o.1).c 0;clear c2))
  all_goals
   rename_i ab;clear ab I s2 N;go_wp2;go_roundw;exact⟨k+1,ac,by first|rfl|go_num,Y.bu (G.o.1.bC Y.size)⟩;exact eZ ac
 ·obtain rfl:k=C.mem.length:=af;have a8:¬(C.mem.length<(C.mem:Int)):=af;have cA:Bw wr (aZ wr #[bd] 230):=aI;have bA:=ad.bu (cA.bC ad.size);have bh:(wr.alloc (bH #[bd] 230)).cell? (be A.gd 0)=some (.slice nm C.mem.length km):=(bA.c (p:=(be A.gd 0)) ae.o.blk.lt).bu p0;have aD:Hid (oa w (aZ wr #[bd] 230) wr bd (mE C 0)):=aa ⟨bI.new wr 230 _,⟨by simp[bN,mE],bS ⟨rfl,rfl⟩⟩,bA,ad.size⟩;let⟨b,hb⟩:=aH wr.heap.size;rw[hb]at aD;go_wp2_with fail;clear hb;go_loopw[45] (fun vi wr=>∃(k:Nat) (v:bE),k<=C.mem.length/\vi=.int .i64 k/\oa w wr b v (mE C k)) (aW C.mem.length);exact⟨0,_,cH _,rfl,aD.o⟩;obtain⟨k,v,hk,rfl,ag⟩:=hrel;have M:=aa ag;have ai:=ag.low;clear ag;by_cases ac:k<C.mem.length
  ·obtain⟨b',al,rfl,y,n⟩:=ar.o af;have T:Hid (nz C k=C.mem[k]):=aa (by unfold nz;rw[dy,dG ac];rfl);let⟨q0,q1⟩:=xM (n k ac);have r0:=(ai.c (p:=⟨b',al+k*2,none⟩) y).bu q0;have r1:=(ai.c (p:=⟨b',al+k*2+1,none⟩) y).bu q1;have a4:0<=(k:Int):=af;have aR:k<(C.mem:Int):=af;have ak:k<=1000:=af;have j:=HV.o.mem C.mem[k] (cZ ac);have u:=KE C k;have ay:Hid (mE C (k+1)=mE C k++[⟨7,(k:Int)+1,0,-C.mem[k].cw⟩,⟨8,(k:Int)+1,0,C.mem[k].cw⟩]++[⟨7,(k:Int)+1,0,-C.mem[k].cI⟩,⟨9,(k:Int)+1,0,C.mem[k].cI⟩]):=aa (by rw[<-T.o];rfl);let⟨L,hL⟩:=aH (mE C k);rw[hL]at M ay u;clear n q0 q1 hL T;generalize C.mem[k]=x at*;have cX:Bw wr (aZ wr (eR x) 125):=aI;let⟨X,E⟩:=aH (wr.alloc (bH (eR x) 125));have a:=aa E;have H:Hid (bI X wr 125 (eR x)):=aa Qc6;have aU:Hid (oa w X b v L):=aa (by rw[<-E];exact M.o.keep cX);have z:Hid (Bw X X.drew):=aa (bM _ _).drew;have an:Hid (∀W,Bw X W->bG 139 #[fo ⟨7,(k:Int)+1⟩,fo ⟨8,(k:Int)+1⟩,x.cw,ptr b] W fun e w'=>∃v',e=.returned (.tuple #[])/\oa w w' b v' (L++[⟨7,(k:Int)+1,0,-x.cw⟩,⟨8,(k:Int)+1,0,x.cw⟩])/\bI w' wr 125 (eR x)):=aa fun W c=>(Av (aU.o.keep c) af ⟨7,(k:Int)+1⟩ ⟨8,(k:Int)+1⟩ x.cw af).bC fun _ _ ⟨v',he,ag,_,fr⟩=>⟨v',he,ag,fr _ _ _ (H.o.keep c) ah ah⟩;have N:X.cell? (be wr 0)=x.cw/\X.cell? (be wr 1)=x.cI:=⟨H.o.c 0,H.o.c 1⟩;have ax:Hid (∀W,Bw X W->W.cell? (be wr 0)=x.cw/\W.cell? (be wr 1)=x.cI):=aa fun W c=>⟨(H.o.keep c).c 0,(H.o.keep c).c 1⟩;have aN:=(gJ k ak).1;have s:=(gJ k ak).2;clear E cX;go_wp2_with fail;rw[show wr.alloc (bH #[x.cw,x.cI] 125)=X from a.o];go_region_held3(fun W=>W.cell? (be wr 0)=x.cw/\W.cell? (be wr 1)=x.cI) (first|exact N|exact I|exact s2|exact s3|assumption|go_keep)
    (first
     |(go_at_call 140;refine(qZ ((k:Int)+1) _).bC ?_;rintro e V⟨rfl,rfl⟩;(first|have S:=aa (G.o.alloc G.o.size (bH (cT ⟨7,(k:Int)+1⟩) 81))|have S:=aa (z.o.alloc z.o.size (bH (cT ⟨7,(k:Int)+1⟩) 81)));have I:=ax.o _ S.o)
     |(go_at_call 138;refine(pK ((k:Int)+1) _).bC ?_;rintro e x2⟨rfl,rfl⟩;(first|have G:=aa (S.o.alloc S.o.size (bH (cT ⟨8,(k:Int)+1⟩) 81))|have G:=aa (z.o.alloc z.o.size (bH (cT ⟨8,(k:Int)+1⟩) 81)));have s2:=ax.o _ G.o)
     |(go_at_call 139;(first|refine(an.o _ G.o).bC ?_|refine(an.o _ S.o).bC ?_);rintro e x3⟨v3,rfl,av,ao⟩;have aT:=aa av;have P:=aa ao;have s3:=ch (ao.c 0) (ao.c 1);clear av ao))
   all_goals
    rename_i ab;clear ab I s2 N;have Z:Hid (∀W,Bw x3 W->bG 139 #[fo ⟨7,(k:Int)+1⟩,fo ⟨9,(k:Int)+1⟩,x.cI,ptr b] W fun e w'=>∃v',e=.returned (.tuple #[])/\oa w w' b v' (L++[⟨7,(k:Int)+1,0,-x.cw⟩,⟨8,(k:Int)+1,0,x.cw⟩]++[⟨7,(k:Int)+1,0,-x.cI⟩,⟨9,(k:Int)+1,0,x.cI⟩])/\bI w' wr 125 (eR x)):=aa fun W c=>(Av (aT.o.keep c) aA ⟨7,(k:Int)+1⟩ ⟨9,(k:Int)+1⟩ x.cI af).bC fun _ _ ⟨v',he,ag,_,fr⟩=>⟨v',he,ag,fr _ _ _ (P.o.keep c) ah ah⟩;have a5:Hid (∀W,Bw x3 W->W.cell? (be wr 0)=x.cw/\W.cell? (be wr 1)=x.cI):=aa fun W c=>⟨(P.o.keep c).c 0,(P.o.keep c).c 1⟩;have M0:Hid (Bw x3 x3.drew):=aa (bM _ _).drew;go_wp2;go_region_held3(fun W=>W.cell? (be wr 0)=x.cw/\W.cell? (be wr 1)=x.cI) (first|exact s3|exact t1|exact t3|assumption|go_keep)
     (first
      |(go_at_call 140;refine(qZ ((k:Int)+1) _).bC ?_;rintro e y1⟨rfl,rfl⟩;have M1:=aa (M0.o.alloc M0.o.size (bH (cT ⟨7,(k:Int)+1⟩) 81));have t1:=a5.o _ M1.o)
      |(go_at_call 139;refine(Z.o _ M1.o).bC ?_;rintro e y3⟨v5,rfl,az,O⟩;have aV:=aa az;have t3:=ch (O.c 0) (O.c 1);clear az O))
    all_goals
     rename_i ab;clear ab t1 t3 s3;go_wp2;go_roundw;exact⟨k+1,v5,ac,by first|rfl|go_num,by rw[ay.o];exact aV.o⟩;exact eZ ac
  ·obtain rfl:k=C.mem.length:=af;have a8:¬(C.mem.length<(C.mem:Int)):=af;have aq:Hid (pn C=mE C C.mem.length++[⟨5,0,0,-C.line⟩,⟨3,0,0,C.line⟩]++[⟨6,0,0,-C.capital⟩,⟨4,0,0,C.capital⟩]):=aa rfl;let⟨u,aB,bk,bb⟩:=Jt4 (KE C C.mem.length) (YO HV.o) HV.o.line HV.o.capital;let⟨L,hL⟩:=aH (mE C C.mem.length);rw[hL]at M aq u;have a1:=aa (ae.o.keep ai);have c3:wr.cell? (be A.gd 3)=some (.int .i64 C.line):=by rw[<-HC.o];exact a1.o.blk.c 3
   have an:=aa (Av M.o af ⟨5,0⟩ ⟨3,0⟩ C.line af);have ba:True:=trivial;clear hL;go_wp2_with(first
    |(go_at_call 139;(first
      |(clear ba;refine an.o.bC ?_;rintro e V⟨v1,rfl,au,aS,aM⟩;have Z:=aa (Av au aA ⟨6,0⟩ ⟨4,0⟩ C.capital af);have c4:V.cell? (be A.gd 4)=some (.int .i64 C.capital):=(by rw[<-HC.o];exact(ae.o.keep au.low).blk.c 4);clear au aS aM)
      |(refine Z.o.bC ?_;rintro e x2⟨v2,rfl,i,aQ,a7⟩;rw[<-aq.o]at i;have aj:=aa i;have J:=aa (ae.o.keep i.low);have aJ:x2.cell? (be A.gd 14)=some (.bool D.nE):=J.o.blk.c 14;have aP:x2.frozen? (be A.gd 14)=false:=J.o.blk.free 14;clear i aQ a7))))
   have R:=aa (aC.o.keep aj.o.low);have t:=aa ((cL.same (K:=K) ae.o aj.o.low).bu (J.o.UH (K:=K) true (R.o.blk J.o.blk ah)));have aK:b≠A.gd:=by have h1:=aj.o.hb;have h2:=ae.o.blk.lt;omega
   have H:Hid (bI (x2.setCell (be A.gd 14) (.bool true)) b 230 #[v2]):=aa (aj.o.blk.far 14 _ aK);have aw:Hid ((x2.setCell (be A.gd 14) (.bool true)).ownsRow w 231 4 v2 (pn C).length (bN lW (pn C))):=aa (ed aj.o.own (fun g hg=>fV x2 (be A.gd 14) _ g (fun e=>fp J.o.blk aj.o.own ah g hg (aG e))));have aL:Hid (cC {D with nE:=true}):=aa ⟨l.o.ct,l.o.bal,l.o.b64,l.o.holds,l.o.rise,l.o.bQ,l.o.fC,l.o.who⟩;obtain⟨n2,U,rfl⟩:=bV aj.o.own;have bm:(pn C).length<=1000:=by rw[aq.o];simp;omega
   let⟨X,E⟩:=aH (x2.setCell (be A.gd 14) (.bool true));rw[E]at t H aw⊢;have N:X.cell? (be A.gd 8)=some (ptr A.gv)/\X.cell? ⟨b,0,none⟩=some (.slice n2 (pn C).length U):=⟨t.o.at'.blk.c 8,H.o.c 0⟩;have a2:=aa (Jc (K:=K) (t.o.at'.d (wd:=X.drew)) aL.o ((aC.o.step t.o).d (wd:=X.drew)) (bW hB t.o.mod.size) (.slice n2 (pn C).length U) (pn C) (Sl.own Cp (lu aw.o)) af aB);have a3:Hid (D.fT=({D with nE:=true}:DS).post (pn C)):=aa (by unfold DS.fT;rw[HC.o]);have Q:=aa (fun w' (m:cg B DTS K X.drew w')=>(H.o.d (wd:=X.drew)).cu m ah);clear E aJ aP;go_region_held3(fun W=>W.cell? (be A.gd 8)=some (ptr A.gv)/\W.cell? ⟨b,0,none⟩=some (.slice n2 (pn C).length U)) (first|exact N|exact s9|assumption|go_keep)
    (first|(go_at_call 141;refine a2.o.bC ?_;rintro e x9⟨gb,vb,pp,rfl,F⟩;have aO:=aa (t.o.bu (F.before (bM _ _).drew));have s9:=ch (F.at'.blk.c 8) ((Q.o _ F.mod).c 0);clear F))
   all_goals
    go_wp2;go_ret;exact⟨_,_,rfl,by rw[a3.o];exact aO.o⟩
def oc(m:Int)(x:Ob):Option Lg:=if x.mem=m/\x.cN=1/\0<x.cE/\0<jt x.cE x.done then some ⟨m,x.bK,jt x.cE x.done⟩else none
def mg(m:Int)(l:List Ob)(k:Nat):List Lg:=(l.take k).filterMap (oc m)
def YQ(m:Int)(l:bF Ob)(k:Nat)(h:k<l):mg m l (k+1)=mg m l k++(oc m l[k]).toList:=by unfold mg;rw[fj h,xz];cases hx:oc m l[k]<;>simp[hx]
def YR(v:bE)(l:bF Ob)(m:Int)(w:bD)(hv:Sl eS 6 w v l)(hn:l.length<=100000)(h64:∀x∈l,bO x.cE/\bO x.done):bG 156 #[v,m] w (gP df 120 3 (l.filterMap (oc m)) w):=by
 let⟨ad,D⟩:=Jh2 h64 hv;obtain⟨n1,k1,rfl,_⟩:=hv;let⟨J,hi,S,ae,ag⟩:=wm oF;clear h64;go_enter func156,ntmps156;go_wp2;go_loopw[5,10] (fun vo vi wr=>∃k:Nat,k<=l.length/\vi=k/\wr.ownsRow w 120 3 vo (mg m l k).length (bN df (mg m l k))/\Bw w wr) (fun _ vi _=>l.length-(intOf vi).toNat);exact⟨0,cH _,rfl,⟨by simp[bN,mg],bS ⟨rfl,by simp[mg]⟩⟩,bM _ _⟩;obtain⟨k,hk,rfl,h,r⟩:=hrel;have Q:=aa h;obtain⟨no,d,rfl⟩:=bV h;clear h;by_cases ab:k<l.length
 ·obtain⟨am,ai,b,al,rfl,_,ac⟩:=(D.o.keep r).hd;let⟨r0,s,P,r3,r4,r5⟩:=oA (ac k ab);have aj:0<=(k:Int):=af;have C:k<(l:Int):=af;unfold maxLen at ai;have z:=aa (YQ m l k ab);have ak:(mg m l k).length<=k:=bW (gK _ _) aM;have HX:=aa (ad.o l[k] (cZ ab));clear ac;generalize mg m l k=L at*;generalize l[k]=x at*;have t:=r.alloc r.size (bH (gE x) 71);let⟨N,Z⟩:=Jh2 (Q.o.alloc (bH (gE x) 71)) (bI.new wr 71 (gE x));let⟨y,B⟩:=aH (jt x.cE x.done);have U:=aa B;have p:=aa (fun W=>xJ x.cE x.done HX.o.1 HX.o.2 W);rw[B]at p;have I:Hid (oc m x=if x.mem=m/\x.cN=1/\0<x.cE/\0<y then some ⟨m,x.bK,y⟩else none):=aa (by unfold oc;rw[B]);clear B;by_cases Y:x.mem=m
  rotate_left
  ·have hb:=xp.2 Y;have R:Hid (mg m l (k+1)=L):=aa (by rw[z.o,I.o,ya (by intro u;exact Y u.1)];simp);clear Y;go_wp2;exact QaZ
  have ap:=beq_iff_eq.2 Y;by_cases f:x.cN=1
  rotate_left
  ·have hb:=xp.2 f;have R:Hid (mg m l (k+1)=L):=aa (by rw[z.o,I.o,ya (by intro u;exact f u.2.1)];simp);clear Y f;go_wp2;exact QaZ
  have an:=beq_iff_eq.2 f;by_cases F:0<x.cE
  rotate_left
  ·have hb:=dF F;have R:Hid (mg m l (k+1)=L):=aa (by rw[z.o,I.o,ya (by intro u;exact F u.2.2.1)];simp);clear Y f F;go_wp2;exact QaZ
  have ar:=dT F;by_cases c4:0<y
  rotate_left
  ·have hb:=dF c4;have R:Hid (mg m l (k+1)=L):=aa (by rw[z.o,I.o,ya (by intro u;exact c4 u.2.2.2)];simp);clear Y f F c4;go_wp2_with(go_at_call 166;refine(p.o _).bC ?_;rintro e O⟨rfl,rfl⟩);exact QaZ
  ·have ao:=dT c4;have R:Hid (L++[⟨m,x.bK,y⟩]=mg m l (k+1)):=aa (by rw[z.o,I.o,yc ⟨Y,f,F,c4⟩];rfl);clear Y f F c4;go_wp2_with(go_at_call 166;refine(p.o _).bC ?_;rintro e O⟨rfl,rfl⟩);let⟨X,hX⟩:=aH (wr.alloc (bH (gE x) 71));rw[hX]at N Z t⊢;have H:=ch (Z.o.c 2) (ch (Z.o.c 3) (Z.o.c 4));have g:=t.size;have aq:wr.heap.size<X.heap.size:=Z.o.lt;have n:=N;go_region_held_law(fun W=>W.cell? (be wr 2)=some (.int .i64 x.bK)/\W.cell? (be wr 3)=some (.int .i64 x.cE)/\W.cell? (be wr 4)=some (.int .i64 x.done)) (first|exact H|exact E|assumption|go_keep)
    (first|(refine lV eG ah oE _ aB _ _ 66 aB w 120 J (.agg #[(),(),()]) 24 underlying66 hi S ae ag aB (.slice no L d) L aB (by exact n.o.alloc _) (some ⟨X.heap.size,0,none⟩) 1 1 [⟨m,x.bK,y⟩] aB aB (by exact Sl.qr df eG X 120 ⟨m,x.bK,y⟩ (cs:=#[m,.int .i64 x.bK,.int .i64 y]) rfl) aP aO aA ?_;intro j T h a M;have G:=(t.alloc t.size (bH #[m,aY x.bK,aY y] 120)).grown (w':=T) QaH (t.alloc t.size _).size (fun q hq=>(n.o.lt q hq).1);have V:=aa ((Z.o.alloc (bH #[m,aY x.bK,aY y] 120)).grown (w':=T) (n.o.alloc _) QaH ah);have E:=ch (V.o.c 2) (ch (V.o.c 3) (V.o.c 4));rw[R.o]at h;obtain⟨A,k3,rfl⟩:=bV h)|(go_at_call 166;refine(p.o _).bC ?_;rintro e O⟨rfl,rfl⟩))
   all_goals
    go_wp2;go_roundw;exact⟨k+1,af,aw,h,G⟩;exact aV
 ·obtain rfl:k=l.length:=af;have i:¬(l.length<(l:Int)):=af;have K:Hid (mg m l l.length=l.filterMap (oc m)):=aa (by unfold mg;rw[ic]);go_wp2;go_ret;exact⟨_,rfl,by rw[<-K.o];exact Q.o,r⟩
def KF{A:DA}(h:cQ w B A D)(ok:cC D):bG 52 #[ptr A.gd] w (ki eS 71 6 D.bQ w):=by have u:w.cell? (be A.gd 9)=some (ptr A.gs):=h.blk.c 9;have d:=aa (wg B A.gs A.vo D.bQ w h.fZ aU);clear h ok;go_enter func52,ntmps52;go_wp2_with(go_at_call 85;refine d.o.bC ?_;rintro e i⟨f,rfl,a,b⟩);exact QcS
def KG{A:DA}(h:cQ w B A D)(ok:cC D):bG 55 #[ptr A.gd] w (ki eI 3 1 D.who w):=by have J:w.cell? (be A.gd 11)=some A.vw:=h.blk.c 11;have d:=aa (FX A.vw D.who w (Sl.own kI h.who) (by have:=ok.who;omega));have S:=bV h.who;obtain⟨T,I,z⟩:=S;rw[z]at J d;clear h ok z;go_enter func55,ntmps55;go_wp2_with(go_at_call 88;refine d.o.bC ?_;rintro e i⟨f,rfl,a,b⟩);exact QcS
def YS.wL(Y:YS)(m:Int):List Lg:=Y.D.bQ.filterMap (oc m)
def YS.lacks(Y:YS)(m:Int):Bool:=decide (0<((Y.wL m).length:Int))
def YT(ok:dv Y):∀x∈Y.D.bQ,bO x.cE/\bO x.done:=fun x hx=>⟨ok.ez.fC x hx,ok.jD x hx⟩
def KH(h:dp w B A Y)(ok:dv Y)(m:Int):bG 110 #[ptr A.gy,m] w (bi (.bool (Y.lacks m)) w):=by
 have s:w.cell? (be A.gy 8)=some (ptr A.D.gd):=h.blk.c 8;let⟨V,Z⟩:=Jh2 (KF h.dg ok.ez) (YT ok);have H:Y.D.bQ.length<=100000:=by have:=ok.ez.bQ;omega
 have p:Hid (Y.wL m=Y.D.bQ.filterMap (oc m)):=aa rfl;have N:Hid (Y.lacks m=decide (0<((Y.wL m).length:Int))):=aa rfl;rw[N.o];generalize Y.wL m=L at*;generalize Y.D.bQ=l at*;clear h ok;go_enter func110,ntmps110;go_wp2_with(first|(go_at_call 52;refine V.o.bC ?_;rintro e i⟨j,rfl,d,b⟩;have a:=aa (Sl.own il d);have t:=aa b;clear d b)|(go_at_call 156;refine(YR _ l m _ a.o H Z.o).bC ?_;rintro e k⟨G,rfl,Q,f⟩;have g:=aa (t.o.bu (f.bC t.o.size));rw[<-p.o]at Q;obtain⟨n,U,rfl⟩:=bV Q;clear Q f));go_ret;exact⟨xT au,g.o⟩
variable{gw:Nat}
def KJ(e:A.gw=gw)(h:dp w B A Y)(hn:Y.ce.length<=48)(x:Tm)(hx:x∉Y.ce)(hr:(Y.ce:Int)<Y.C.room)(K:bF Nat)(hK:A.gw∉K)(hKv:∀k,A.vt.ownBlock=some k->k∉K)(hlt:∀k∈K,k<w.heap.size):
  bG 101 #[ptr gw,kM x] w fun e w'=>∃A',e=.returned (aY 0)/\dr B w w' A A' {Y with ce:=Y.ce++[x]}/\A'.gw=gw/\(∀k,A'.vt.ownBlock=some k->k∉K)/\∀k∈K,w'.heap[k]?=w.heap[k]?:=by
 subst e;refine(Qt x B A.gw Y.C.room A.vt Y.ce K w h.ce.blk h.ce.l1 h.lt h.ce.own hx hr af hK hKv).bC ?_;rintro e w'⟨a,V,g⟩;refine⟨{A with vt:=a},V,h.Ef (g.mod.less au) ⟨aG g.blk,g.own,h.ce.l1⟩,rfl,fun k hk=> ?_,fun k hk=>g.mod.far k (hlt k hk) (ci (bS hk))⟩;rcases g.goes with e|⟨j,hj,e⟩
 ·exact hKv k (by rw[<-e];exact hk)
 ·rw[e]at hk;have:j=k:=aG hk
  intro Z;have:=hlt k Z
  omega
def YS.opened(Y:YS)(k:Nat):YS:={Y with D:=Y.D.fT,ce:=Y.ce++(eP Y.C.bU).take k}
def YS.open(Y:YS):YS:=(Y.opened (eP Y.C.bU).length).come 1
def wM(h:dp w B A Y)(e1:A.gy=g)(e2:A.gw=gw):w.cell? (be g 10)=some (ptr gw):=by subst e1 e2;exact h.blk.c 10
def KN(c:Cm)(ok:dv Y)(he:Y.D.nE=false)(hz:∀k,k<Y.C.mem.length->(nz Y.C k).cw<=1099511627776-Y.D.eQ ⟨8,(k:Int)+1⟩ 0/\-1099511627776<=Y.D.eQ ⟨8,(k:Int)+1⟩ 0)(hw0:Y.ce=[])(hnd:(eP Y.C.bU).Nodup)(hlog:Y.log.length+2*Y.D.log.length<=900000):iF B 71 Y c fun n er Y'=>n=0/\er=0/\Y'=Y.open:=by
 intro w A h;have aE:=aa h;have cA:Bw w (aZ w (jB c) 38):=aI;have aD:=aa (h.keep cA);have aq:Y.D.C=Y.C:=ok.dc;have f:=aa (YP (h.keep cA).dg ok.ez (h.keep cA).pb (h.keep cA).lt he (by rw[aq];exact hz));have p8:(w.alloc (bH (jB c) 38)).cell? (be A.gy 8)=some (ptr A.D.gd):=(h.keep cA).blk.c 8;have HV:=aa ok.ct;have ab:Hid (dv {Y with D:=Y.D.fT}):=aa ⟨ok.dc,ok.gc,ok.ez.fT,ok.gH,ok.told,ok.ce,ok.bU,ok.clock,ok.cn,ok.jD⟩;have I:=aa hlog;have u:=zp Y.C.bU;have a0:=ok.ct.c2;have aK:Y.C.room=4*(Y.C.bU:Int)+2*(Y.C.mem:Int):=rfl;have aV:=ok.ct.m1;have av:Hid (Y.open=(Y.opened (eP Y.C.bU).length).come 1):=aa rfl;have aj:=aa hw0;have aL:(eP Y.C.bU).length<=16:=af;have ai:((eP Y.C.bU).length:Int)<Y.C.room:=af;have ac:Hid (∀k,Y.opened k={Y with D:=Y.D.fT,ce:=Y.ce++(eP Y.C.bU).take k}):=aa fun _=>rfl;have J:=aa hnd;let⟨l,hl⟩:=aH (eP Y.C.bU);have ak:=aa (fun W vm vs vc (hc:dM W vm vs vc Y.C)=>OO vm vs vc Y.C W hc HV.o);rw[hl]at ak J aL ai ac av;clear h ok he hz hw0 hnd hlog u aK hl aq;go_enter func71,ntmps71;go_wp2_with(go_at_call 99;refine f.o.bC ?_;rintro e w1⟨A1,s,rfl,a⟩;have Y1:=aa ((dr.same aE.o cA).bu (aD.o.pd a));obtain⟨p0,Z,p2,y,p4,p5,p6,p7⟩:S8 A.gy A.vm A.vs A.vc Y.C w1:=⟨Y1.o.at'.blk.c 0,Y1.o.at'.blk.c 1,Y1.o.at'.blk.c 2,Y1.o.at'.blk.c 3,Y1.o.at'.blk.c 4,Y1.o.at'.blk.c 5,Y1.o.at'.blk.c 6,Y1.o.at'.blk.c 7⟩;clear a);refine(ak.o w1 _ _ _ Y1.o.at'.ct.sl).bC ?_;rintro e w2⟨v2,rfl,o2,c2⟩;let⟨Y2,O2⟩:=Jh2 (Y1.o.keep c2) o2;have K:Hid (∀q,A.vt.ownBlock=some q->v2.ownBlock≠some q):=aa fun q F e=>by have h1:=(Y1.o.at'.ce.own.lt q F).2;have h2:=(o2.lt q e).1;omega
 obtain⟨n2,U,rfl⟩:=bV o2;clear o2 c2 p0 Z p2 y p4 p5 p6 p7 ak;go_wp2;go_loopw[25] (fun vi wr=>∃(k:Nat) (A':YA),k<=l.length/\vi=.int .i64 k/\dr B w wr A A' (Y.opened k)/\A'.gw=A.gw/\wr.ownsRow w1 197 4 (.slice n2 l.length U) l.length (bN fB l)/\∀q,A'.vt.ownBlock=some q->(Value.slice n2 l.length U).ownBlock≠some q) (aW l.length);exact⟨0,{A with D:=A1},cH _,rfl,by rw[ac.o,List.take_zero,ix];exact Y2.o,rfl,O2.o,K.o⟩;obtain⟨k,A',hk,rfl,az,O,dY,ap⟩:=hrel;let⟨ae,aB,aM,R,V⟩:=Jh5 az dY (Sl.own mj dY) ap O;clear az dY ap O;by_cases ag:k<l.length
 ·obtain⟨a1,aF,b,aN,rfl,aS,aC⟩:=aM.o.hd;let⟨r0,s,r2,r3⟩:=sr (aC k ag);have aT:0<=(k:Int):=af;have ao:k<(l:Int):=af;unfold maxLen at aF;have am:Hid (Y.opened (k+1)={Y.opened k with ce:=(Y.opened k).ce++[l[k]]}):=aa (by rw[ac.o,ac.o];simp only;rw[fj ag,fz]);have m:l[k]∉(Y.opened k).ce:=by
   rw[ac.o,aj.o,lU];intro hm;let⟨i,hi,e⟩:=eW hm;rw[uX]at e;have ao:i<k:=by rw[dx]at hi;omega
   have:=AW.1 (acZ.1 J.o) i k af ag ao
   exact this e
  have S:=aa m;have P:(Y.opened k).ce.length=k:=by rw[ac.o,aj.o,lU,dx];omega
  have Q:Hid (((Y.opened k).ce.length:Int)<(Y.opened k).C.room):=aa (by rw[P];show(k:Int)<Y.C.room;omega);have al:Hid ((Y.opened k).ce.length<=48):=aa af;let⟨Yk,aA⟩:=aH (Y.opened k);rw[aA]at am S Q al ae;clear aC m P aA;generalize l[k]=x at*;have cX:Bw wr (aZ wr (dL x) 197):=aI;let⟨X,E⟩:=aH (wr.alloc (bH (dL x) 197));have aG:=aa E;have H:Hid (bI X wr 197 (dL x)):=aa Qc7;have ad:Hid (dr B w X A A' Yk):=aa (by rw[<-E];exact ae.o.keep cX);have v:Hid (X.ownsRow w1 197 4 (.slice (some (b,aN)) l.length U) l.length (bN fB l)):=aa (by rw[<-E];exact cJ aB.o cX);have aR:b<wr:=(aB.o.lt b rfl).2;have aQ:wr.heap.size<X.heap.size:=H.o.lt;have aP:A.gw<wr:=by rw[<-V.o];exact ae.o.at'.ce.blk.lt
  have p:∀q T cs,bI X q T cs->T=150->q≠b:=by
   rintro q T cs F rfl rfl;exact fp F v.o ah q rfl rfl
  have L:=aa (fun W (hW:W.heap=X.heap) (z:dp W B A' Yk)=>KJ V.o z al.o x S.o Q.o [b,wr.heap.size] (by
    rw[V.o];simp only[je,qk,or_false,not_or];exact⟨p _ _ _ (by rw[<-V.o];exact ad.o.at'.ce.blk) rfl,af⟩) (fun q F=>by
    have h1:=R.o q F;have h2:=(ae.o.at'.ce.own.lt q F).2;simp only[je,qk,or_false,not_or];exact⟨fun e=>h1 (by rw[e];rfl),af⟩) (fun q F=>by
    rw[hW];simp only[je,qk,or_false]at F;rcases F with rfl|rfl<;>omega))
  let⟨t0,t1,t2,t3⟩:X.cell? ⟨wr,0,none⟩=x.dh/\X.cell? ⟨wr,1,none⟩=x.cq/\X.cell? ⟨wr,2,none⟩=x.mem/\X.cell? ⟨wr,3,none⟩=x.fY:=⟨H.o.c 0,H.o.c 1,H.o.c 2,H.o.c 3⟩;have N:=ch (wM ad.o.at' ad.o.gy V.o) (ch t0 (ch t1 (ch t2 t3)));clear E cX ag t0 t1 t2 t3 p;go_wp2_with fail;rw[show wr.alloc (bH #[x.dh,x.cq,x.mem,x.fY] 197)=X from aG.o];go_region_held3(fun W=>W.cell? (be A.gy 10)=some (ptr A.gw)/\W.cell? (be wr 0)=x.dh/\W.cell? (be wr 1)=x.cq/\W.cell? (be wr 2)=x.mem/\W.cell? (be wr 3)=x.fY) (first|exact N|exact s5|assumption|go_keep)
   (first|(go_at_call 101;refine(L.o X.drew rfl ad.o.at'.d).bC ?_;rintro e w5⟨A5,rfl,M,g5,ar,t⟩;have G:=aa (ad.o.bu (M.before (bM _ _).drew));have G5:=aa g5;have aJ:=aa ar;have aO:=aa t;have B5:bI w5 wr 197 (dL x):=(t _ au).bu H.o;have s5:=ch (wM G.o.at' G.o.gy g5) (ch (B5.c 0) (ch (B5.c 1) (ch (B5.c 2) (B5.c 3))));clear M g5 ar t))
  all_goals
   rename_i r;clear r s5 N;go_wp2;go_roundw;exact⟨k+1,A5,af,aw,by rw[am.o];exact G.o,G5.o,ed v.o (fun g hg=>aO.o g QbV),fun q F e=>aJ.o q F QbX⟩;exact eZ af
 ·obtain rfl:k=l.length:=af;have aU:¬(l.length<(l:Int)):=af;have an:Hid (dv (Y.opened l.length)):=aa (by
   rw[ac.o];refine⟨ab.o.dc,ab.o.gc,ab.o.ez,ab.o.gH,ab.o.told, ?_,ab.o.bU,ab.o.clock,ab.o.cn,ab.o.jD⟩;simp only[aj.o,lU,ic];omega)
  have ax:=aa (yt ae.o.at' an.o (by rw[ac.o];show Y.log.length+Y.D.log.length<=_;have:=I.o;omega) 1);rw[ae.o.gy]at ax;go_wp2_with(go_at_call 102;refine ax.o.bC ?_;rintro e w6⟨A6,rfl,ay⟩;have j:=aa (ae.o.bu ay);clear ay);go_ret2;refine⟨0,0,A6,_,rfl,j.o,an.o.come 1, ?_,rfl,rfl,av.o.symm⟩;have z:(Y.D.fT).log=Y.D.log:=rfl;have hh:=I.o;rw[ac.o];simp only[YS.come,YS.tell,YS.hear,cO,fc,gL,jE,z];omega
def YU{A:GA}{D:GS}(h:fu w B A D):bG 107 #[ptr A.gr] w (bj D.dW w):=by have p:=h.blk.c 10;have a:w.cell? (be A.gr 10)=D.dW:=p;clear h p;go_enter func107,ntmps107;go_wp2;go_ret;exact⟨rfl,rfl⟩
def uL{A:GA}{D:GS}(h:bI w A.gr 144 (zg A.vm A.vs A.vc D.C A.gt A.gu a)):S8 A.gr A.vm A.vs A.vc D.C w:=⟨h.c 0,h.c 1,h.c 2,h.c 3,h.c 4,h.c 5,h.c 6,h.c 7⟩
abbrev S6(g:Nat)(t:Tr)(W:World):Prop:=W.cell? (be g 0)=t.id/\W.cell? (be g 1)=t.dD/\W.cell? (be g 2)=t.dE/\W.cell? (be g 3)=t.cP/\W.cell? (be g 4)=t.cK/\W.cell? (be g 5)=t.cF
def kC{t:Tr}(h:bI w g 58 (ek t)):S6 g t w:=⟨h.c 0,h.c 1,h.c 2,h.c 3,h.c 4,h.c 5⟩
def EJ(g:Nat)(v:bE)(room:Int)(l:bF RU)(w:bD)(hb:bI w g 191 #[room,v])(hv:Sl gn 2 w v l)(hr:0<=room/\room<=1000000)(hn:l.length<=1000000):
  bG 147 #[ptr g] w fun e w'=>e=.returned (room-l.length:Int)/\∃m,w'=w.drewN m:=by
 let⟨j,Z⟩:=hb.k2 0 1;obtain⟨a,U,rfl,_⟩:=hv;have T:IntKind.i64.wrap (room-(l:Int))=room-(l:Int):=gI _ af;clear hb;go_enter func147,ntmps147;go_wp2;go_quiet(fail);go_wp2;go_ret;exact⟨rfl,_,rfl⟩
def YV(B:Nat)(A:GA)(r:Int×GS)(w:World)(e:Ending)(w':World):Prop:=∃A',e=.returned r.1/\jz B [] w w' A A' r.2
def jz.same{A:GA}{D:GS}(h:fu w B A D)(c:Bw w w'):jz B [] w w' A A D:=⟨h.keep c,cg.below c,rfl⟩
def jz.trans{w1 w2:bD}{A A1 A2:GA}{D1 D2:GS}(s:jz B [] w w1 A A1 D1)(t:jz B [] w1 w2 A1 A2 D2):jz B [] w w2 A A2 D2:=⟨t.at',s.mod.bu t.mod,t.gr.bu s.gr⟩
def jz.bu:=@jz.trans
def fu.YW{A:GA}{D:GS}(h:fu w B A D)(n:Int):jz B [] w (w.setCell (be A.gr 10) n) A A {D with dW:=n}:=by have m:cg B [144] [] w (w.setCell (be A.gr 10) n):=cg.set h.blk au h.l1 au;exact⟨⟨h.blk.set 10 _,h.ct.cu m ah ah ah,h.qe.cu m ah,h.pw.cu m ah,dq h.cj m ah,dq h.used m ah,h.l1,h.l2,h.l3⟩,m.bC ah,rfl⟩
def fu.YX{A:GA}{D:GS}{l:bF RU}(h:fu w B A D)(g:lH gn 2 268 w w' B A.gu 191 #[(D.C.cj*D.C.bU.length:Int),A.vu] 1 A.vu l [] v):jz B [] w w' A {A with vu:=v} {D with used:=l}:=by have m:=g.mod;exact⟨⟨h.blk.cu m ah,h.ct.cu m ah ah ah,h.qe.cu m ah,g.blk,dq h.cj m ah,g.own,h.l1,h.l2,h.l3⟩,m.bC ah,rfl⟩
def fu.YY{A:GA}{D:GS}{l:bF RT}(h:fu w B A D)(g:lH eO 7 163 w w' B A.gt 188 #[D.C.cj,A.vt] 1 A.vt l [] v):jz B [] w w' A {A with vt:=v} {D with cj:=l}:=by exact Qbj
def YZ{A:GA}{D:GS}(h:fu w B A D)(hi:lJ D)(hB:B<=w)(t:Tr)(ht:kQ t):bG 105 #[ptr A.gr,pG t] w (YV B A (D.add t) w):=by
 let⟨W1,v⟩:=aH (w.alloc (bH (ek t) 58));have c1:Bw w W1:=by rw[<-v];exact aI
 have R:Hid (bI W1 w 58 (ek t)):=aa (by rw[<-v];exact bI.new w 58 _);let⟨k,n,b,HT,ae⟩:=Jh5 h (h.keep c1) hi ht v;have N:=ch (uL n.o.blk) (kC R.o);let⟨y,hy⟩:=aH (lr D.C t);have U:=aa hy;clear h ht v hy;by_cases e1:y=0
 rotate_left
 ·clear hi;have d1:(y !=0)=true:=aG e1;have q:Hid (D.add t=(y,D)):=aa (by unfold GS.add;rw[U.o,yc e1]);clear e1;go_enter func105,ntmps105;go_wp2_with fail;rw[show w.alloc (bH (ek t) 58)=W1 from ae.o];go_wp2;go_region_held3(fun W=>S8 A.gr A.vm A.vs A.vc D.C W/\S6 w t W) (first|exact N|assumption|go_keep)
   (first|(go_at_call 104;refine(uv A.vm A.vs A.vc D.C _ (n.o.ct.sl.d) t HT.o).bC ?_;rintro e w2⟨rfl,f⟩;rw[U.o];have C2:=aa (iY c1 f c1.size);have ac:=ch (uL (n.o.d.keep f).blk) (kC (R.o.keepD f));have ab:=aa (n.o.d.keep f);have Z:=aa (R.o.keepD f)))
  all_goals
   go_wp2;go_ret;exact⟨A,by rw[q.o];rfl,by rw[q.o];exact jz.same k.o C2.o⟩
 subst e1;have az:=aa (Ad HT.o U.o);by_cases e2:dJ RU.bR D.used t.id=true
 ·clear hi;have q:Hid (D.add t=(7,D)):=aa (by unfold GS.add;rw[U.o,ya au,yc e2]);have HU:=aa e2;clear e2;go_enter func105,ntmps105;go_wp2_with fail;rw[show w.alloc (bH (ek t) 58)=W1 from ae.o];go_wp2;go_region_held3(fun W=>S8 A.gr A.vm A.vs A.vc D.C W/\S6 w t W) (first|exact N|assumption|go_keep)
   (first|(go_at_call 104;refine(uv A.vm A.vs A.vc D.C _ (n.o.ct.sl.d) t HT.o).bC ?_;rintro e w2⟨rfl,f⟩;rw[U.o];have C2:=aa (iY c1 f c1.size);have ac:=ch (uL (n.o.d.keep f).blk) (kC (R.o.keepD f));have ab:=aa (n.o.d.keep f);have Z:=aa (R.o.keepD f)))
  all_goals
   obtain⟨u0,u1⟩:=ac;go_wp2_with(go_at_call 146;refine(yk ab.o b.o.ok t.id).bC ?_;rintro e O⟨rfl,F⟩;rw[HU.o];have E:=aa (C2.o.bu (F.bC C2.o.size)));go_ret;exact⟨A,by rw[q.o];rfl,by rw[q.o];exact jz.same k.o E.o⟩
 have HU:Hid (dJ RU.bR D.used t.id=false):=aa (aG e2);have hu:=Ea hi;have an:D.used.length<=1000000:=by have:=hi.ok.un;omega
 have Q:Hid (0<=D.C.cj*(D.C.bU:Int)/\D.C.cj*(D.C.bU:Int)<=1000000):=aa (by
  have h1:=hi.ok.ct.cj;have h2:=hi.ok.ct.c2;have h3:D.C.cj*(D.C.bU:Int)<=64*4:=Int.mul_le_mul h1.2 af af af;have M:0<=D.C.cj*(D.C.bU:Int):=ud af af;omega)
 have ar:=aa hi.ul;clear hi e2;by_cases e3:D.C.cj<=D.dW
 ·have d3:=dT e3;have q:Hid (D.add t=(6,D)):=aa (by unfold GS.add;rw[U.o,ya au,HU.o,ya au,yc (bS e3)]);clear e3;go_enter func105,ntmps105;go_wp2_with fail;rw[show w.alloc (bH (ek t) 58)=W1 from ae.o];go_wp2;go_region_held3(fun W=>S8 A.gr A.vm A.vs A.vc D.C W/\S6 w t W) (first|exact N|assumption|go_keep)
   (first|(go_at_call 104;refine(uv A.vm A.vs A.vc D.C _ (n.o.ct.sl.d) t HT.o).bC ?_;rintro e w2⟨rfl,f⟩;rw[U.o];have C2:=aa (iY c1 f c1.size);have ac:=ch (uL (n.o.d.keep f).blk) (kC (R.o.keepD f));have ab:=aa (n.o.d.keep f);have Z:=aa (R.o.keepD f)))
  all_goals
   obtain⟨u0,u1⟩:=ac;go_wp2_with(go_at_call 146;refine(yk ab.o b.o.ok t.id).bC ?_;rintro e O⟨rfl,F⟩;rw[HU.o];have E:=aa (C2.o.bu (F.bC C2.o.size));have m:=aa (ab.o.keep F);have P:=aa (Z.o.keep F));have p6:O.cell? (be A.gr 6)=D.C.cj:=m.o.blk.c 6;have u:O.cell? (be A.gr 9)=some (ptr A.gu):=m.o.blk.c 9;have ad:O.cell? (be A.gr 10)=D.dW:=m.o.blk.c 10;go_quiet(fail);exact Qb9
 have d3:=dF e3;by_cases e4:D.C.cj*(D.C.bU:Int)-(D.used:Int)=0
 ·have d4:(D.C.cj*(D.C.bU:Int)-(D.used:Int)==0)=true:=aG e4;have q:Hid (D.add t=(6,D)):=aa (by unfold GS.add;rw[U.o,ya au,HU.o,ya au,yc (ci af)]);clear e3 e4;go_enter func105,ntmps105;go_wp2_with fail;rw[show w.alloc (bH (ek t) 58)=W1 from ae.o];go_wp2;go_region_held3(fun W=>S8 A.gr A.vm A.vs A.vc D.C W/\S6 w t W) (first|exact N|assumption|go_keep)
   (first|(go_at_call 104;refine(uv A.vm A.vs A.vc D.C _ (n.o.ct.sl.d) t HT.o).bC ?_;rintro e w2⟨rfl,f⟩;rw[U.o];have C2:=aa (iY c1 f c1.size);have ac:=ch (uL (n.o.d.keep f).blk) (kC (R.o.keepD f));have ab:=aa (n.o.d.keep f);have Z:=aa (R.o.keepD f)))
  all_goals
   obtain⟨u0,u1⟩:=ac;go_wp2_with(go_at_call 146;refine(yk ab.o b.o.ok t.id).bC ?_;rintro e O⟨rfl,F⟩;rw[HU.o];have E:=aa (C2.o.bu (F.bC C2.o.size));have m:=aa (ab.o.keep F);have P:=aa (Z.o.keep F));have p6:O.cell? (be A.gr 6)=D.C.cj:=m.o.blk.c 6;have u:O.cell? (be A.gr 9)=some (ptr A.gu):=m.o.blk.c 9;have ad:O.cell? (be A.gr 10)=D.dW:=m.o.blk.c 10;go_quiet(first|(go_at_call 147;refine Calls.quiet_of (EJ A.gu A.vu _ D.used _ (m.o.d.pw) (Sl.own vW m.o.d.used) ⟨Q.o.1,Q.o.2⟩ an)));exact Qb9
 have d4:(D.C.cj*(D.C.bU:Int)-(D.used:Int)==0)=false:=aG e4;have l:Hid (¬(D.C.cj<=D.dW∨(D.used:Int)=D.C.cj*(D.C.bU:Int))):=aa af;have S:Hid (∀x∈D.cj,kQ (iK x)):=aa (fun x hx=>(b.o.good x hx).1.fit);let⟨z,hz⟩:=aH (D.room t);let⟨Y,H⟩:=Jh2 hz hu;clear hz e3 e4;by_cases e5:z=0
 rotate_left
 ·have d5:(z !=0)=true:=aG e5;have q:Hid (D.add t=(z,D)):=aa (by unfold GS.add;rw[U.o,ya au,HU.o,ya au,ya l.o,Y.o,yc e5]);clear e5;go_enter func105,ntmps105;go_wp2_with fail;rw[show w.alloc (bH (ek t) 58)=W1 from ae.o];go_wp2;go_region_held3(fun W=>S8 A.gr A.vm A.vs A.vc D.C W/\S6 w t W) (first|exact N|assumption|go_keep)
   (first|(go_at_call 104;refine(uv A.vm A.vs A.vc D.C _ (n.o.ct.sl.d) t HT.o).bC ?_;rintro e w2⟨rfl,f⟩;rw[U.o];have C2:=aa (iY c1 f c1.size);have ac:=ch (uL (n.o.d.keep f).blk) (kC (R.o.keepD f));have ab:=aa (n.o.d.keep f);have Z:=aa (R.o.keepD f)))
  all_goals
   obtain⟨u0,u1⟩:=ac;go_wp2_with(go_at_call 146;refine(yk ab.o b.o.ok t.id).bC ?_;rintro e O⟨rfl,F⟩;rw[HU.o];have E:=aa (C2.o.bu (F.bC C2.o.size));have m:=aa (ab.o.keep F);have P:=aa (Z.o.keep F));have p6:O.cell? (be A.gr 6)=D.C.cj:=m.o.blk.c 6;have u:O.cell? (be A.gr 9)=some (ptr A.gu):=m.o.blk.c 9;have ad:O.cell? (be A.gr 10)=D.dW:=m.o.blk.c 10;go_quiet(first|(go_at_call 147;refine Calls.quiet_of (EJ A.gu A.vu _ D.used _ (m.o.d.pw) (Sl.own vW m.o.d.used) ⟨Q.o.1,Q.o.2⟩ an)));have s:=aa (gM E.o nq);have aj:Hid (fu (O.drewN nq) B A D):=aa m.o.d;have ag:Hid (bI (O.drewN nq) w 58 (ek t)):=aa P.o.d;clear u0 u1 p6 u ad;generalize O.drewN nq=W4 at*;let⟨v0,v1,G,v3,v4,L⟩:=kC ag.o;go_wp2_with(go_at_call 148;refine(Jh aj.o b.o.ok t HT.o S.o).bC ?_;rintro e T⟨rfl,c5⟩;rw[Y.o];have J:=aa (s.o.bu (c5.bC s.o.size));have g:=aa (aj.o.keep c5);have V:=aa (ag.o.keep c5);have ad:T.cell? (be A.gr 10)=D.dW:=g.o.blk.c 10;have aq:T.frozen? (be A.gr 10)=false:=g.o.blk.free 10);go_wp2;go_ret;exact⟨A,by rw[q.o];rfl,by rw[q.o];exact jz.same k.o J.o⟩
 subst e5;have q:Hid (D.add t=(0,D.put t)):=aa (by unfold GS.add;rw[U.o,ya au,HU.o,ya au,ya l.o,Y.o,ya au]);have K:Hid (wrap64 (D.dW+1)=D.dW+1):=aa (by have:=H.o;unfold wrap64;omega);have hA:IntKind.i64.wrap (D.dW+1)=D.dW+1:=gI _ (by have:=H.o;omega);have av:Hid ((D.used:Int)<D.C.cj*(D.C.bU:Int)):=aa (by have:=l.o;have:=ar.o;omega);go_enter func105,ntmps105;go_wp2_with fail;rw[show w.alloc (bH (ek t) 58)=W1 from ae.o];go_wp2;go_region_held3(fun W=>S8 A.gr A.vm A.vs A.vc D.C W/\S6 w t W) (first|exact N|assumption|go_keep)
  (first|(go_at_call 104;refine(uv A.vm A.vs A.vc D.C _ (n.o.ct.sl.d) t HT.o).bC ?_;rintro e w2⟨rfl,f⟩;rw[U.o];have C2:=aa (iY c1 f c1.size);have ac:=ch (uL (n.o.d.keep f).blk) (kC (R.o.keepD f));have ab:=aa (n.o.d.keep f);have Z:=aa (R.o.keepD f)))
 all_goals
  obtain⟨u0,u1⟩:=ac;go_wp2_with(go_at_call 146;refine(yk ab.o b.o.ok t.id).bC ?_;rintro e O⟨rfl,F⟩;rw[HU.o];have E:=aa (C2.o.bu (F.bC C2.o.size));have m:=aa (ab.o.keep F);have P:=aa (Z.o.keep F));have p6:O.cell? (be A.gr 6)=D.C.cj:=m.o.blk.c 6;have u:O.cell? (be A.gr 9)=some (ptr A.gu):=m.o.blk.c 9;have ad:O.cell? (be A.gr 10)=D.dW:=m.o.blk.c 10;go_quiet(first|(go_at_call 147;refine Calls.quiet_of (EJ A.gu A.vu _ D.used _ (m.o.d.pw) (Sl.own vW m.o.d.used) ⟨Q.o.1,Q.o.2⟩ an)));have s:=aa (gM E.o nq);have aj:Hid (fu (O.drewN nq) B A D):=aa m.o.d;have ag:Hid (bI (O.drewN nq) w 58 (ek t)):=aa P.o.d;clear u0 u1 p6 u ad;generalize O.drewN nq=W4 at*;let⟨v0,v1,G,v3,v4,L⟩:=kC ag.o;go_wp2_with(go_at_call 148;refine(Jh aj.o b.o.ok t HT.o S.o).bC ?_;rintro e T⟨rfl,c5⟩;rw[Y.o];have J:=aa (s.o.bu (c5.bC s.o.size));have g:=aa (aj.o.keep c5);have V:=aa (ag.o.keep c5);have ad:T.cell? (be A.gr 10)=D.dW:=g.o.blk.c 10;have aq:T.frozen? (be A.gr 10)=false:=g.o.blk.free 10);have ST:=aa (g.o.YW (D.dW+1));have am:Hid (bI (T.setCell (be A.gr 10) (D.dW+1:Int)) w 58 (ek t)):=aa (V.o.far 10 _ (fun e=>by
   have h1:=V.o;have h2:=g.o.blk;rw[e]at h1;unfold bI at h1 h2;rw[h2]at h1;simp at h1))
  have aw:Hid (∀W,fu W B A {D with dW:=D.dW+1}->B<=W.heap.size->bG 149 #[ptr A.gu,t.id,(D.dW+1:Int)] W fun e w'=>∃v',e=.returned (aY 0)/\lH gn 2 268 W w' B A.gu 191 #[(D.C.cj*D.C.bU.length:Int),A.vu] 1 A.vu (ef D.used (dQ RU.bR D.used t.id) ⟨t.id,D.dW+1⟩) [] v'):=aa (fun W hW hb=>Ql B A.gu _ A.vu D.used ⟨t.id,D.dW+1⟩ [] W hW.pw hW.l3 hb hW.used (by have:=b.o.ok.un;omega) b.o.ok.ur au au HU.o av.o);have ay:Hid (∀W A',fu W B A' {D with dW:=D.dW+1,used:=ef D.used (dQ RU.bR D.used t.id) ⟨t.id,D.dW+1⟩}->B<=W.heap.size->bG 150 #[ptr A'.gt,t.id,.agg #[t.id,t.dD,t.dE,t.cP,t.cK,t.cF]] W fun e w'=>∃v',e=.returned (aY 0)/\lH eO 7 163 W w' B A'.gt 188 #[D.C.cj,A'.vt] 1 A'.vt (ef D.cj (dQ RT.bR D.cj t.id) (rz t)) [] v'):=aa (fun W A' hW hb=>Qm B A'.gt _ A'.vt D.cj (rz t) [] W hW.qe hW.l2 hb hW.cj (by have:=b.o.ok.tn;omega) b.o.ok.tr au au (Jw b.o HU.o) (by have:=b.o.tl;have:=l.o;show(D.cj:Int)<D.C.cj;omega));have i:Hid (B<=(T.setCell (be A.gr 10) (D.dW+1:Int)).heap.size):=aa (bW hB (bW J.o.size ST.o.mod.size));clear ad aq;generalize T.setCell (be A.gr 10) (D.dW+1:Int)=W6 at*;have a:=ch (ST.o.at'.blk.c 9) (ch (ST.o.at'.blk.c 10) (kC am.o));go_region_held3(fun W=>W.cell? (be A.gr 9)=some (ptr A.gu)/\W.cell? (be A.gr 10)=some (.int .i64 (D.dW+1))/\S6 w t W) (first|exact a|exact X|assumption|go_keep)
   (first|(go_at_call 149;refine(aw.o W6.drew ST.o.at'.d i.o).bC ?_;rintro e w7⟨vu,rfl,g7⟩;have ai:=aa ((ST.o.at'.d (wd:=W6.drew)).YX g7);have al:=aa ((am.o.d (wd:=W6.drew)).cu g7.mod ah);have X:=ch (ai.o.at'.blk.c 9) (ch (ai.o.at'.blk.c 10) (kC al.o))))
  all_goals
   rename_i r;clear r X a;have al:Hid (B<=w7):=aa (bW i.o (ai.o.mod.size));have p:=aa ((am.o.d (wd:=W6.drew)).cu g7.mod ah);have ao:=ch (ai.o.at'.blk.c 8) (kC p.o);have j:=aa ai.o;go_wp2;go_region_held3(fun W=>W.cell? (be A.gr 8)=some (ptr A.gt)/\S6 w t W) (first|exact ao|exact ap|assumption|go_keep)
    (first|(go_at_call 150;refine(ay.o w7.drew _ j.o.at'.d al.o).bC ?_;rintro e w9⟨vt,rfl,g9⟩;have ak:=aa ((j.o.at'.d (wd:=w7.drew)).YY g9);have ax:=aa ((p.o.d (wd:=w7.drew)).cu g9.mod ah);have ap:=ch (ak.o.at'.blk.c 8) (kC ax.o)))
   all_goals
    rename_i r;clear r ao ap;go_wp2;go_ret;have s0:jz B [] w T A A D:=jz.same k.o J.o;have I:=s0.bu ST.o;have s2:jz B [] w w7 A _ _:=I.bu ⟨j.o.at',(cg.below ((bM W6 W6).drew)).bu j.o.mod,j.o.gr⟩;have s3:jz B [] w w9 A _ _:=s2.bu ⟨ak.o.at',(cg.below ((bM w7 w7).drew)).bu ak.o.mod,ak.o.gr⟩;have e:D.put t={D with cj:=ef D.cj (dQ RT.bR D.cj t.id) (rz t),used:=ef D.used (dQ RU.bR D.used t.id) ⟨t.id,D.dW+1⟩,dW:=D.dW+1}:=by
     unfold GS.put;rw[K.o]
    rw[q.o,e];exact⟨_,rfl,s3⟩
def YS.wN(Y:YS)(t:Tr):Bool:=Y.D.who.any fun m=>m==t.dD||m==t.dE
def YS.g8(Y:YS)(t:Tr):Int×Int×YS:=
 if lr Y.C t≠0 then(0,lr Y.C t,Y)
 else if Y.wN t=true then(0,14,Y)
 else if(Y.G.add t).1≠0 then(0,(Y.G.add t).1,{Y with G:=(Y.G.add t).2})
 else((Y.G.add t).2.dW,0,({Y with G:=(Y.G.add t).2}:YS).tell ⟨2,0,0,t.id,0⟩)
def dp.s8(h:dp w B A Y):S8 A.gy A.vm A.vs A.vc Y.C w:=⟨h.blk.c 0,h.blk.c 1,h.blk.c 2,h.blk.c 3,h.blk.c 4,h.blk.c 5,h.blk.c 6,h.blk.c 7⟩
def Za(D:GS)(t:Tr):(D.add t).2.C=D.C:=by
 unfold GS.add;repeat' split
 all_goals rfl
variable{x:Int}
def Zb{o:Nat}(h:∀j u,(eI x)[j]?=some u->W.cell? ⟨b,o+j,none⟩=some u):W.cell? (b,o)=x:=h 0 _ rfl
def Cm.Fit.KO(h:c.Fit):kQ c.g8:=⟨h.qt,h.pr⟩
def KP(c:Cm)(hf:c.Fit)(hk2:c.kd=2)(ok:dv Y)(hlog:Y.log.length+2*Y.D.log.length<=900000):iF B 72 Y c fun n er Y'=>(n,er,Y')=Y.g8 c.g8:=by
 intro w A h;have ay:=aa (fun W=>YK c hk2 W);have HF:=aa hf.KO;have aR:Hid (c.g8=⟨c.id,c.mb,c.ot,c.sc,c.qt,c.pr⟩):=aa rfl;let⟨W1,ad⟩:=aH (w.alloc (bH (jB c) 38));have c1:Bw w W1:=by rw[<-ad];exact aI
 have aL:Hid (Boxed W1 w c):=aa (by rw[<-ad];exact Boxed.new w c);let⟨b0,z,b2,b3,b4,b5,b6⟩:=aL.o.cells;let⟨ae,aB,OK,I,ao⟩:=Jh5 h (h.keep c1) ok hlog ad;let⟨y,hy⟩:=aH (lr Y.C c.g8);have ai:=aa (fun W vm vs vc (hc:dM W vm vs vc Y.C)=>uv vm vs vc Y.C W hc c.g8 HF.o);rw[hy]at ai;have ab:Hid (Y.g8 c.g8=if y≠0 then(0,y,Y)else if Y.wN c.g8=true then(0,14,Y)else if(Y.G.add c.g8).1≠0 then(0,(Y.G.add c.g8).1,{Y with G:=(Y.G.add c.g8).2})else((Y.G.add c.g8).2.dW,0,({Y with G:=(Y.G.add c.g8).2}:YS).tell ⟨2,0,0,c.g8.id,0⟩)):=aa (by unfold YS.g8;rw[hy]);have al:Y.log.length+Y.D.log.length<=999000:=af;clear h ok hlog ad hy hf hk2;generalize c.g8=t at*;obtain⟨M,K,ts,ta,tq,tp⟩:=t;by_cases e1:y=0
 rotate_left
 ·have d1:(y !=0)=true:=aG e1;have HR:Hid (Y.g8 ⟨M,K,ts,ta,tq,tp⟩=(0,y,Y)):=aa (by rw[ab.o,yc e1]);clear e1 ab;go_enter func72,ntmps72;go_wp2_with fail;rw[show w.alloc (bH #[c.kd,c.id,c.mb,c.ot,c.sc,c.qt,c.pr] 38)=W1 from ao.o];go_wp2_with(go_at_call 103;refine(ay.o _).bC ?_;rintro e w2⟨rfl,f⟩;have C2:=aa (c1.bu (f.bC c1.size));have Y2:=aa (aB.o.keep f);clear f);have F:Bw w2 (w2.alloc (bH (ek ⟨M,K,ts,ta,tq,tp⟩) 58)):=aI;let⟨T3,Z,E⟩:=Jh3 (bI.new w2 58 (ek ⟨M,K,ts,ta,tq,tp⟩)) (Y2.o.keep F) (C2.o.bu (F.bC C2.o.size));have N:=ch Z.o.s8 (kC T3.o);have L3:=F.size;clear F;rw[show w2.alloc (bH #[M,K,ts,ta,tq,tp] 58)=w2.alloc (bH (ek ⟨M,K,ts,ta,tq,tp⟩) 58)from rfl];generalize w2.alloc (bH (ek ⟨M,K,ts,ta,tq,tp⟩) 58)=W3 at*;go_region_held3(fun W=>S8 A.gy A.vm A.vs A.vc Y.C W/\S6 w2 ⟨M,K,ts,ta,tq,tp⟩ W) (first|exact N|assumption|go_keep)
   (first|(go_at_call 104;refine(ai.o _ A.vm A.vs A.vc (Z.o.ct.sl.d)).bC ?_;rintro e w4⟨rfl,c4⟩;have C4:=aa (iY E.o c4 E.o.size);have ar:=ch (Z.o.keepD c4).s8 (kC (T3.o.keepD c4));have Y4:=aa (Z.o.keepD c4);have T4:=aa (T3.o.keepD c4)))
  all_goals
   go_wp2;go_ret2;exact⟨0,y,A,Y,rfl,dr.same ae.o C4.o,OK.o,al,HR.o.symm⟩
 subst e1;rw[ya au]at ab;have U:=aa al;let⟨l,S⟩:=aH Y.D.who;have aU:l.length<=1000:=by rw[<-S];exact OK.o.ez.who
 have ax:Hid (Y.wN ⟨M,K,ts,ta,tq,tp⟩=l.any fun m=>m==K||m==ts):=aa (by rw[<-S];rfl);have aC:=aa (fun W A D (h:cQ W B A D) (o:cC D)=>KG h o);have aD:=aa S;clear S al;go_enter func72,ntmps72;go_wp2_with fail;rw[show w.alloc (bH #[c.kd,c.id,c.mb,c.ot,c.sc,c.qt,c.pr] 38)=W1 from ao.o];go_wp2_with(go_at_call 103;refine(ay.o _).bC ?_;rintro e w2⟨rfl,f⟩;have C2:=aa (c1.bu (f.bC c1.size));have Y2:=aa (aB.o.keep f);clear f);have F:Bw w2 (w2.alloc (bH (ek ⟨M,K,ts,ta,tq,tp⟩) 58)):=aI;let⟨T3,Z,E⟩:=Jh3 (bI.new w2 58 (ek ⟨M,K,ts,ta,tq,tp⟩)) (Y2.o.keep F) (C2.o.bu (F.bC C2.o.size));have N:=ch Z.o.s8 (kC T3.o);have L3:=F.size;clear F;rw[show w2.alloc (bH #[M,K,ts,ta,tq,tp] 58)=w2.alloc (bH (ek ⟨M,K,ts,ta,tq,tp⟩) 58)from rfl];generalize w2.alloc (bH (ek ⟨M,K,ts,ta,tq,tp⟩) 58)=W3 at*;go_region_held3(fun W=>S8 A.gy A.vm A.vs A.vc Y.C W/\S6 w2 ⟨M,K,ts,ta,tq,tp⟩ W) (first|exact N|assumption|go_keep)
  (first|(go_at_call 104;refine(ai.o _ A.vm A.vs A.vc (Z.o.ct.sl.d)).bC ?_;rintro e w4⟨rfl,c4⟩;have C4:=aa (iY E.o c4 E.o.size);have ar:=ch (Z.o.keepD c4).s8 (kC (T3.o.keepD c4));have Y4:=aa (Z.o.keepD c4);have T4:=aa (T3.o.keepD c4)))
 all_goals
  obtain⟨s0,s1⟩:=ar;clear N;have p8:w4.cell? (be A.gy 8)=some (ptr A.D.gd):=Y4.o.blk.c 8;go_wp2_with(go_at_call 55;refine(aC.o _ _ _ Y4.o.dg OK.o.ez).bC ?_;rw[aD.o];rintro e T⟨L,rfl,o5,c5⟩;have C5:=aa (C4.o.bu (c5.bC C4.o.size));have V:=aa (Y4.o.keep c5);have T5:=aa (T4.o.keep c5);obtain⟨n5,k5,rfl⟩:=bV o5;have aP:=aa (Sl.own kI o5);clear o5 c5);clear s0 s1;have av:=kC T5.o;have ap:=aa av;clear av;go_wp2;go_loopw[32] (fun vi wr=>∃(k:Nat),k<=l.length/\vi=k/\wr=T/\∀j (J:j<l.length),j<k->(l[j]==K||l[j]==ts)=false) (aW l.length);exact⟨0,cH _,rfl,rfl,fun j J h=>xl h (yU _)⟩;obtain⟨k,hk,rfl,rfl,aq⟩:=hrel;have Q:=aa aq;clear aq;by_cases aj:k<l.length
  ·obtain⟨a1,aF,b,a0,rfl,aT,aA⟩:=aP.o.hd;have r0:=Zb (aA k aj);rw[gD]at r0;have O:0<=(k:Int):=af;have aS:k<(l:Int):=af;let⟨v0,v1,v2,v3,v4,L⟩:=ap.o;unfold maxLen at aF;have aE:Hid (∀P:Int->Bool,P l[k]=true->l.any P=true):=aa (fun P hP=>jT.2 ⟨_,cZ aj,hP⟩);have aK:Hid ((l[k]==K||l[k]==ts)=false->∀j (J:j<l.length),j<k+1->(l[j]==K||l[j]==ts)=false):=aa (fun h j J aj=>by
    by_cases e:j=k
    ·subst e;exact h
    ·exact Q.o j J af)
   clear aA;generalize l[k]=m at*;by_cases hP:(m==K||m==ts)=true
   ·have HR:Hid (Y.g8 ⟨M,K,ts,ta,tq,tp⟩=(0,14,Y)):=aa (by rw[ab.o,yc];rw[ax.o];exact aE.o _ hP);have g:(m==K)=true∨((m==K)=false/\(m==ts)=true):=by
     cases h1:(m==K)with
     |true=>exact bS rfl
     |false=>rw[h1,Bool.false_or]at hP;exact ci ⟨rfl,hP⟩
    clear hP;rcases g with i|⟨i,g⟩
    all_goals
     go_wp2_with fail;refine wb (v:=.tuple #[(),(14:Int)]) Qdo rfl ?_;exact⟨0,14,rfl,A,Y,dr.same ae.o C5.o,OK.o,U.o,HR.o.symm⟩
   ·have ak:(m==K||m==ts)=false:=aG hP;have HP:=aa ak;obtain⟨i,g⟩:(m==K)=false/\(m==ts)=false:=by simpa[Bb]using ak
    clear hP ak;go_wp2;go_roundw;exact⟨k+1,af,aw,trivial,aK.o HP.o⟩;exact eZ af
  ·obtain rfl:k=l.length:=af;have aV:¬(l.length<(l:Int)):=af;have aQ:Hid (Y.wN ⟨M,K,ts,ta,tq,tp⟩=false):=aa (by
    rw[ax.o,mP];intro x hx;obtain⟨j,J,rfl⟩:=eW hx;simpa using Q.o j J J)
   rw[aQ.o,ya au]at ab;have az:=aa (⟨HF.o.q,HF.o.p⟩:kQ ⟨M,K,ts,ta,tq,tp⟩);have am:=aa (fun W (h:fu W B A.G Y.G) (hB:B<=W)=>YZ h OK.o.gH hB ⟨M,K,ts,ta,tq,tp⟩ az.o);have an:=aa (VD OK.o.gH az.o);have H:=aa (show(Y.G.add ⟨M,K,ts,ta,tq,tp⟩).2.C=Y.C from(Za _ _).bu OK.o.gc);generalize Y.G.add ⟨M,K,ts,ta,tq,tp⟩=r at*;obtain⟨s,G'⟩:=r;dsimp only at ab am an H;have ag:Hid (dv {Y with G:=G'}):=aa ⟨OK.o.dc,H.o,OK.o.ez,an.o,OK.o.told,OK.o.ce,OK.o.bU,OK.o.clock,OK.o.cn,OK.o.jD⟩;have q9:wr.cell? (be A.gy 9)=some (ptr A.G.gr):=V.o.blk.c 9;have a:=ch q9 ap.o;by_cases e3:s=0
   rotate_left
   ·have d3:(s !=0)=true:=aG e3;have HR:Hid (Y.g8 ⟨M,K,ts,ta,tq,tp⟩=(0,s,{Y with G:=G'})):=aa (by rw[ab.o,yc e3]);clear e3 ab;go_wp2;go_region_held3(fun W=>W.cell? (be A.gy 9)=some (ptr A.G.gr)/\S6 w2 ⟨M,K,ts,ta,tq,tp⟩ W) (first|exact a|assumption|go_keep)
     (first|(go_at_call 105;refine(am.o wr.drew (V.o.reg.d (wd:=wr.drew)) V.o.lt).bC ?_;rintro e w7⟨R,rfl,ac⟩;have Y7:=aa ((dr.same ae.o C5.o).bu ((V.o.d.yr ac).before (bM _ _).drew));have q7:w7.cell? (be A.gy 9)=some (ptr A.G.gr):=Qc8;have T7:=aa (T5.o.d.cu ac.mod ah);have X:=ch q7 (kC T7.o);have aM:=aa ac.gr))
    all_goals
     go_wp2_with fail;refine wb (v:=.tuple #[(),s]) Qdo rfl ?_;exact⟨0,s,_,_,rfl,Y7.o,ag.o,U.o,HR.o.symm⟩
   subst e3;have HR:Hid (Y.g8 ⟨M,K,ts,ta,tq,tp⟩=(G'.dW,0,({Y with G:=G'}:YS).tell ⟨2,0,0,M,0⟩)):=aa (by rw[ab.o,ya au]);have aN:=aa (fun W A1 (h:dp W B A1 {Y with G:=G'})=>Eg h ag.o U.o ⟨2,0,0,M,0⟩);have u:Hid (dv (({Y with G:=G'}:YS).tell ⟨2,0,0,M,0⟩)):=aa (ag.o.tell _);have aO:Hid ((({Y with G:=G'}:YS).tell ⟨2,0,0,M,0⟩).log.length+(({Y with G:=G'}:YS).tell ⟨2,0,0,M,0⟩).D.log.length<=999000):=aa (by
    have:=I.o
    simp only[YS.tell,YS.hear,cO,fc,gL,jE];omega)
   clear ab;go_wp2;go_region_held3(fun W=>W.cell? (be A.gy 9)=some (ptr A.G.gr)/\S6 w2 ⟨M,K,ts,ta,tq,tp⟩ W) (first|exact a|assumption|go_keep)
    (first|(go_at_call 105;refine(am.o wr.drew (V.o.reg.d (wd:=wr.drew)) V.o.lt).bC ?_;rintro e w7⟨R,rfl,ac⟩;have Y7:=aa ((dr.same ae.o C5.o).bu ((V.o.d.yr ac).before (bM _ _).drew));have q7:w7.cell? (be A.gy 9)=some (ptr A.G.gr):=Qc8;have T7:=aa (T5.o.d.cu ac.mod ah);have X:=ch q7 (kC T7.o);have aM:=aa ac.gr))
   all_goals
    obtain⟨u0,u1,u2,u3,u4,u5,u6⟩:=X;clear a q9 q7;go_wp2_with(first|(go_at_call 106;refine(aN.o _ _ Y7.o.at').bC ?_;rintro e w8⟨A8,rfl,aJ⟩;have Y8:=aa (Y7.o.bu aJ);have q8:w8.cell? (be A.gy 9)=some (ptr A8.G.gr):=(by rw[<-Y8.o.gy];exact Y8.o.at'.blk.c 9))|(go_at_call 107;refine(YU Y8.o.at'.reg).bC ?_;rintro e w9⟨rfl,rfl⟩));refine wb (v:=.tuple #[G'.dW,()]) (by simp[results,results72,go_sem];rfl) rfl ?_;exact⟨_,0,_,_,rfl,Y8.o,u.o,aO.o,HR.o.symm⟩
def KR(h:∀x∈l,bO x.done)(m a bJ:Int):∀x∈(im l m a bJ).2,bO x.done:=by
 unfold im;repeat' split
 all_goals try exact h
 intro x j;rcases rT j with h1|h1
 ·exact h x h1
 ·rw[h1];exact Ha _
variable{bJ y:Int}
def KT(ok:dv Y){fr to:Ac}{cq:Int}(h:mB Y.D m a bJ fr to cq x y D'):dv {Y with D:=D'}/\D'.log.length<=Y.D.log.length+1/\D'.C=Y.C:=by
 unfold mB at h;split at h
 ·obtain⟨_,_,rfl⟩:=h;exact⟨ok,af,ok.dc⟩
 split at h
 ·obtain⟨_,_,rfl⟩:=h;exact⟨⟨ok.dc,ok.gc,Aa ok.ez m a bJ,ok.gH,ok.told,ok.ce,ok.bU,ok.clock,ok.cn,KR ok.jD m a bJ⟩,Nat.le_succ _,ok.dc⟩
 ·obtain⟨_,rfl⟩:=h;refine⟨⟨ok.dc,ok.gc,(((Aa ok.ez m a bJ).move fr to a bJ).tell _),ok.gH, ?_,ok.ce,ok.bU,ok.clock,ok.cn,KR ok.jD m a bJ⟩, ?_,ok.dc⟩
  ·show Y.told<=(Y.D.log++_).length;have:=ok.told
   rw[cO];omega
  ·show(Y.D.log++[(⟨cq,m,a,bJ,0⟩:Ev)]).length<=_
   simp
def YS.pY(Y:YS)(cq m:Int):YS:={Y with ce:=Y.ce.filter fun x=> !kq cq m x}
def dv.pY(ok:dv Y)(cq m:Int):dv (Y.pY cq m):=⟨ok.dc,ok.gc,ok.ez,ok.gH,ok.told,by have:=ok.ce;have:=mO (fun x=> !kq cq m x) Y.ce;show((Y.ce.filter _).length:Int)<=Y.C.room;omega,ok.bU,ok.clock,ok.cn,ok.jD⟩
def rE(Y:YS)(m a bJ:Int)(x y:Int)(Y':YS):Prop:=
 if Y.D.state≠1 then x=0/\y=11/\Y'=Y
 else∃D',mB Y.D m a bJ ⟨7,m⟩ ⟨1,0⟩ 5 x y D'/\Y'=if y=0/\({Y with D:=D'}:YS).lacks m=false then({Y with D:=D'}:YS).pY 2 m else{Y with D:=D'}
def Zc(ok:dv Y)(h:if Y.D.state≠1 then x=0/\y=11/\D'=Y.D else mB Y.D m a bJ ⟨7,m⟩ ⟨1,0⟩ 5 x y D'):dv {Y with D:=D'}/\D'.log.length<=Y.D.log.length+1:=by
 split at h
 ·obtain⟨_,_,rfl⟩:=h;exact⟨ok,af⟩
 ·exact⟨(KT ok h).1,(KT ok h).2.1⟩
def Zd{Y':YS}(h:if Y.D.state≠1 then x=0/\y=11/\D'=Y.D else mB Y.D m a bJ ⟨7,m⟩ ⟨1,0⟩ 5 x y D')(hY:Y'=if y=0/\({Y with D:=D'}:YS).lacks m=false then({Y with D:=D'}:YS).pY 2 m else{Y with D:=D'}):rE Y m a bJ x y Y':=by
 unfold rE;split at h
 ·rename_i L;obtain⟨rfl,rfl,rfl⟩:=h;rw[yc L];exact⟨rfl,rfl,by rw[hY,ya au]⟩
 ·rename_i L;rw[ya L];exact⟨D',h,hY⟩
def Ze(e:A.gw=gw)(h:dp w B A Y)(ok:dv Y)(cq m:Int):bG 111 #[ptr gw,cq,m] w fun e w'=>∃n A',e=.returned (aY n)/\dr B w w' A A' (Y.pY cq m)/\A'.gw=gw:=by subst e;refine(UP h.ce (by have:=ok.wn;omega) [] au h.lt cq m).bC ?_;rintro e w'⟨v,rfl,T,_,Z⟩;exact⟨_,_,rfl,h.Ef (Z.bC ah) T,rfl⟩
def EK(c:Cm)(hf:c.Fit)(ok:dv Y)(hlog:Y.log.length+2*Y.D.log.length<=900000):iF B 74 Y c (rE Y c.mb c.sc c.qt):=by
 intro w A h;let⟨g,v⟩:=aH (w.alloc (bH (jB c) 38));have c1:Bw w g:=by rw[<-v];exact aI
 have H:Hid (Boxed g w c):=aa Qbd;let⟨C,f,l,I,ai⟩:=Jh5 h (h.keep c1) ok hlog v;have al:Y.D.log.length<=999000:=af;have Z:=aa hf.qt;have ae:=aa (fun W K A D (h:cQ W B A D) (o:cC D) (k:dS W K A) (hB:B<=W) (hl:D.log.length<=999000)=>Vq h o k hB c.mb c.sc c.qt Z.o hl);let⟨P,z,t,b3,G,b5,b6⟩:=H.o.cells;have p8:g.cell? (be A.gy 8)=some (ptr A.D.gd):=f.o.blk.c 8;have N:=ch p8 (ch t (ch G b5));clear h ok hlog v hf;go_enter func74,ntmps74;go_wp2_with fail;rw[show w.alloc (bH #[c.kd,c.id,c.mb,c.ot,c.sc,c.qt,c.pr] 38)=g from ai.o];go_region_held3(fun W=>W.cell? (be A.gy 8)=some (ptr A.D.gd)/\W.cell? (be w 2)=c.mb/\W.cell? (be w 4)=c.sc/\W.cell? (be w 5)=c.qt) (first|exact N|assumption|go_keep)
  (first|(go_at_call 109;refine(ae.o g.drew _ _ _ (f.o.dg.d) l.o.ez f.o.d.pb f.o.lt al).bC ?_;rintro e w2⟨x,y,U,n,rfl,J,hr⟩;have Y2:=aa ((dr.same C.o c1).bu ((f.o.d.pd J).before (bM _ _).drew));have am:=aa J.gd;have q:=aa hr;have m:=aa ((bI.d H.o).cu J.mod ah);have aj:w2.cell? (be A.gy 8)=some (ptr A.D.gd):=(by rw[<-J.gd];exact Y2.o.at'.blk.c 8);obtain⟨u0,u1,u2,u3,u4,u5,u6⟩:=Boxed.cells m.o;have R:=ch aj (ch u2 (ch u4 u5))))
 all_goals
  let⟨Q,ag⟩:=Zc l.o q.o;have X:=aa Q;have a:Hid (({Y with D:=n}:YS).log.length+({Y with D:=n}:YS).D.log.length<=999000):=aa (by have:=I.o;show Y.log.length+n.log.length<=999000;omega);have L:=aa (fun Y'=>Zd (Y':=Y') q.o);have S:=aa (fun W A (h:dp W B A {Y with D:=n})=>KH h Q c.mb);have ab:=aa (Q.pY 2 c.mb);have ac:=aa (fun W A gw (e:A.gw=gw) (h:dp W B A {Y with D:=n})=>Ze e h Q 2 c.mb);have i:Hid ((({Y with D:=n}:YS).pY 2 c.mb).log.length+(({Y with D:=n}:YS).pY 2 c.mb).D.log.length<=999000):=aa a.o;obtain⟨Y3,ad⟩:∃Y3:YS,{Y with D:=n}=Y3:=⟨_,rfl⟩;rw[ad]at X a L S ac ab i Y2;clear Q ag N R q ad;let⟨b,u⟩:=aH (Y3.lacks c.mb);rw[u]at S L;clear u;by_cases e1:y=0
  ·have d1:(y==0)=true:=aG e1;subst e1;cases b with
   |true=>
    have p:=aa (L.o _ (by rw[ya au]));go_wp2_with(go_at_call 110;refine(S.o _ _ Y2.o.at').bC ?_;rintro e O⟨rfl,F⟩;have r:=aa (Y2.o.keep F));go_ret2;exact⟨x,0,_,_,rfl,r.o,X.o,a.o,p.o⟩
   |false=>
    have p:=aa (L.o _ (by rw[yc ⟨rfl,rfl⟩]));go_wp2_with(go_at_call 110;refine(S.o _ _ Y2.o.at').bC ?_;rintro e O⟨rfl,F⟩;have j:=aa (Y2.o.keep F);have s:=aa ((show bI w2 w 38 (jB c)from m.o).keep F);have ak:=ch (show O.cell? (be A.gy 10)=some (ptr A.gw)from wM j.o.at' j.o.gy rfl) (Boxed.cells s.o).2.2.1);go_region_held3(fun W=>W.cell? (be A.gy 10)=some (ptr A.gw)/\W.cell? (be w 2)=c.mb) (first|exact ak|assumption|go_keep)
     (first|(go_at_call 111;refine(ac.o O.drew {A with D:=U} A.gw rfl (j.o.at'.d (wd:=O.drew))).bC ?_;rintro e T⟨n5,A5,rfl,M,g5⟩;have V:=aa (j.o.bu (M.before (bM _ _).drew));have B5:=aa (s.o.d.cu (K:=[]) M.mod ah);have E:=ch (show T.cell? (be A.gy 10)=some (ptr A.gw)from wM V.o.at' V.o.gy g5) (Boxed.cells B5.o).2.2.1))
    all_goals
     go_wp2;go_ret2;exact⟨x,0,_,_,rfl,V.o,ab.o,i.o,p.o⟩
  ·have d1:(y==0)=false:=aG e1;have p:=aa (L.o _ (by rw[ya (by simp[e1])]));clear e1;go_wp2;go_ret2;exact⟨x,y,_,_,rfl,Y2.o,X.o,a.o,p.o⟩
def uM(Y:YS)(c:Cm)(x y:Int)(Y':YS):Prop:=if fR Y.C c.mb then(if c.sc=0 then x=0/\y=10/\Y'=Y else rE Y c.mb c.sc c.qt x y Y')else x=0/\y=9/\Y'=Y
def KU(c:Cm)(hf:c.Fit)(ok:dv Y)(hlog:Y.log.length+2*Y.D.log.length<=900000):iF B 75 Y c (uM Y c):=by
 intro w A h;let⟨g,T⟩:=aH (w.alloc (bH (jB c) 38));have c1:Bw w g:=by rw[<-T];exact aI
 have H:Hid (Boxed g w c):=aa (by rw[<-T];exact Boxed.new w c);let⟨ad,f,l,ag⟩:=Jh4 h (h.keep c1) ok T;have U:Hid (Y.log.length+Y.D.log.length<=999000):=aa af;have ak:=aa (fun W A (h:dp W B A Y)=>EK c hf ok hlog W A h);let⟨P,b1,b2,V,b4,I,b6⟩:=H.o.cells;have N:=ch f.o.s8 b2;have r:=aa (fun W vm vs vc (hc:dM W vm vs vc Y.C)=>lG vm vs vc Y.C W hc c.mb);let⟨z,hz⟩:=aH (if fR Y.C c.mb then(0:Int)else 9);rw[hz]at r;have HZ:=aa hz;clear h ok hlog T hf hz;go_enter func75,ntmps75;go_wp2_with fail;rw[show w.alloc (bH #[c.kd,c.id,c.mb,c.ot,c.sc,c.qt,c.pr] 38)=g from ag.o];have n1:A.gy≠g.heap.size:=by have:=f.o.blk.lt;omega
 have n2:w.heap.size≠g.heap.size:=by have:=H.o.lt;omega
 have F:=ch (f.o.alloc (bH #[(),()] 125)).s8 (Boxed.cells (bI.alloc H.o (bH #[(),()] 125))).2.2.1;go_region_held3(fun W=>S8 A.gy A.vm A.vs A.vc Y.C W/\W.cell? (be w 2)=c.mb) (first|exact N|exact F|assumption|exact F|exact i|exact ac|go_keep)
  (first|(go_at_call 112;refine(r.o g.drew A.vm A.vs A.vc (f.o.ct.sl.d)).bC ?_;rintro e k⟨x,rfl,c2⟩;have L:=iY (bM g.heap.size g) c2 (bL _);have q:=aa (L.alloc L.size (bH #[aY x.cw,aY x.cI] 125));have R:=ch (f.o.keep L).s8 (Boxed.cells (H.o.keep L)).2.2.1;have hB:=fun(u v:Nat)=>ch (f.o.keep q.o).s8 (Boxed.cells (H.o.keep q.o)).2.2.1;have ac:=hB 0 0;have E3:=(L.alloc L.size (bH #[(),()] 125));have i:=ch (f.o.keep E3).s8 (Boxed.cells (H.o.keep E3)).2.2.1)|(go_at_call 112;refine(r.o (g.alloc (bH #[(),()] 125)).drew A.vm A.vs A.vc ((f.o.alloc (bH #[(),()] 125)).ct.sl.d)).bC ?_;rintro e k⟨x,rfl,c2⟩;have E:=(bM g.heap.size g).alloc (bL _) (.cells #[(),()] 125);have L:=iY E c2 E.size;have G:=(bI.d (bI.new g 125 #[(),()])).keep c2;have S:=G.c 0;have K:=G.c 1;have f0:=G.free 0;have f1:=G.free 1;have q:=aa ((L.setCell (p:=⟨g.heap.size,0,none⟩) (bL _) (aY x.cw)).setCell (p:=⟨g.heap.size,1,none⟩) (bL _) (aY x.cI));have R:=ch (f.o.keep L).s8 (Boxed.cells (H.o.keep L)).2.2.1;have hB:=fun(u v:Nat)=>ch (f.o.keep q.o).s8 (Boxed.cells (H.o.keep q.o)).2.2.1;have ac:=hB 0 0))
 all_goals
  clear F hB ac R N;let⟨J,j,s⟩:=Jh3 (c1.bu (q.o.bC c1.size)) (f.o.keep q.o) (H.o.keep q.o);clear q;first
   |generalize k.alloc (bH #[aY x.cw,aY x.cI] 125)=X at*
   |generalize((k.setCell ⟨g.heap.size,0,none⟩ (aY x.cw)).setCell ⟨g.heap.size,1,none⟩ (aY x.cI))=X at*
  by_cases e1:fR Y.C c.mb
  ·obtain rfl:z=0:=by rw[<-HZ.o,yc e1]
   have ab:Hid (∀x y Y',uM Y c x y Y'↔if c.sc=0 then x=0/\y=10/\Y'=Y else rE Y c.mb c.sc c.qt x y Y'):=aa (fun x y Y'=>by unfold uM;rw[yc e1]);clear e1 HZ;by_cases e2:c.sc=0
   ·have Q:(c.sc==0)=true:=aG e2;have Z:=aa ((ab.o 0 10 Y).2 (by rw[yc e2];exact⟨rfl,rfl,rfl⟩));clear e2 ab;let⟨u0,u1,u2,u3,u4,u5,u6⟩:=s.o.cells;go_wp2;go_ret2;exact⟨0,10,A,Y,rfl,dr.same ad.o J.o,l.o,U.o,Z.o⟩
   ·have Q:(c.sc==0)=false:=aG e2;have Z:=aa (fun x y Y' h=>(ab.o x y Y').2 (by rw[ya e2];exact h));clear e2 ab;let⟨u0,u1,u2,u3,u4,u5,u6⟩:=s.o.cells;go_wp2_with(go_at_call 74;refine(ak.o _ A j.o).bC ?_;rintro e w7⟨n,m,A7,M,rfl,ai,ah,aj,O⟩;have t:=aa ((dr.same ad.o J.o).bu ai);have a:=aa ah;have b:=aa aj;have ae:=aa (Z.o _ _ _ O));go_ret2;exact⟨n,m,A7,M,rfl,t.o,a.o,b.o,ae.o⟩
  ·obtain rfl:z=9:=by rw[<-HZ.o,ya e1]
   have Z:Hid (uM Y c 0 9 Y):=aa (by unfold uM;rw[ya e1];exact⟨rfl,rfl,rfl⟩);clear e1 HZ;go_wp2;go_ret2;exact⟨0,9,A,Y,rfl,dr.same ad.o J.o,l.o,U.o,Z.o⟩
end
def EL(D:DS):∀k,(D.iB k).bQ=D.bQ/\(D.iB k).log=D.log/\(D.iB k).dt=D.dt:=by
 intro k;induction k with
 |zero=>exact⟨rfl,rfl,rfl⟩
 |succ k ih=>exact ih
def EM(h:∀x∈l,bO x.done)(c:Int)(bT:bF Lg):∀x∈(iA l c bT).2,bO x.done:=by
 unfold iA;repeat' split
 all_goals try exact h
 intro x j;rcases xq.1 j with j|j
 ·exact h x j
 ·obtain⟨y,_,rfl⟩:=Fy.1 j;show bO (0:Int);unfold bO;omega
variable{Y:YS}
def EN(ok:dv Y){fd:bF Lg}(hf:qF fd)(hn:fd.length<=1024){r:Int}(h:iU Y.D fd r D'):dv {Y with D:=D'}/\D'.log.length<=Y.D.log.length+1024/\D'.C=Y.C:=by
 unfold iU at h;split at h
 ·obtain⟨_,rfl⟩:=h;exact⟨ok,af,ok.dc⟩
 split at h
 ·obtain⟨_,rfl⟩:=h;exact⟨ok,af,ok.dc⟩
 rename_i z;obtain⟨b,j,q,h⟩:=h;let⟨S,u⟩:=DP q hf hn;have u:∀x∈b,bO x.bJ:=fun x hx=>by have:=u x hx;unfold bO;omega
 split at h
 ·obtain⟨_,rfl⟩:=h;exact⟨ok,af,ok.dc⟩
 split at h
 ·obtain⟨_,rfl⟩:=h;exact⟨ok,af,ok.dc⟩
 have k:=zZ ok.ez u (wrap64 (Y.D.dt+1));have a:=EM ok.jD (wrap64 (Y.D.dt+1)) b;split at h
 ·obtain⟨_,rfl⟩:=h;exact⟨⟨ok.dc,ok.gc,ok.ez.yo k.1 k.2,ok.gH,ok.told,ok.ce,ok.bU,ok.clock,ok.cn,a⟩,Nat.le_add_right _ _,ok.dc⟩
 ·obtain⟨_,rfl⟩:=h;let⟨o,f,Q⟩:=EL ((Y.D.opened b).tell (jn b)) Y.D.C.mem;have c:=I9 ((Y.D.opened b).tell (jn b)) Y.D.C.mem;have U:(Y.D.me b).log=Y.D.log++jn b:=f;have d:(Y.D.me b).dt=wrap64 (Y.D.dt+1):=Q;have Z:Y.D.dt<=4:=by have:=ok.ct.c2;rw[ok.dc]at z;omega
  have T:wrap64 (Y.D.dt+1)=Y.D.dt+1:=by have:=ok.cn;unfold wrap64;omega
  refine⟨⟨?_,ok.gc, ?_,ok.gH, ?_,ok.ce,ok.bU,ok.clock, ?_, ?_⟩, ?_, ?_⟩
  ·exact c.bu ok.dc
  ·exact((ok.ez.opened u).tell _).iB _
  ·show Y.told<=(Y.D.me b).log.length;rw[U,cO];have:=ok.told
   omega
  ·show 0<=(Y.D.me b).dt/\(Y.D.me b).dt<=100000;rw[d,T];have:=ok.cn
   omega
  ·show∀x∈(Y.D.me b).bQ,bO x.done
   have:(Y.D.me b).bQ=(iA Y.D.bQ (wrap64 (Y.D.dt+1)) b).2:=o
   rw[this];exact a
  ·rw[U,cO];unfold jn;rw[cR];omega
  ·exact c.bu ok.dc
def fb(Y:YS):Nat->List Tm
 |0=>[]
 |k+1=>fb Y k++if Y.lacks ((k:Int)+1)=true then ky Y.C Y.cycle ((k:Int)+1)else[]
def YS.iv(Y:YS)(k:Nat):YS:={Y with ce:=Y.ce++fb Y k}
def KV(Y:YS):∀(n k:Nat),k<=n->fb Y k<+:fb Y n:=by
 intro n;induction n with
 |zero=>intro k a;rw[Nat.le_zero.1 a];exact List.prefix_refl _
 |succ n ih=>
  intro k a;by_cases h:k=n+1
  ·rw[h];exact List.prefix_refl _
  ·exact(ih k af).trans (List.prefix_append _ _)
def Zf(hk:k<n)(hnd:(Y.ce++fb Y n).Nodup)(hl:((Y.ce++fb Y n).length:Int)<=Y.C.room)(h:Y.lacks ((k:Int)+1)=true){j:Nat}(hj:j<(ky Y.C Y.cycle ((k:Int)+1)).length):
  (ky Y.C Y.cycle ((k:Int)+1))[j]∉Y.ce++fb Y k++(ky Y.C Y.cycle ((k:Int)+1)).take j/\((Y.ce++fb Y k++(ky Y.C Y.cycle ((k:Int)+1)).take j).length:Int)<Y.C.room:=by
 have s:Y.ce++fb Y (k+1)<+:Y.ce++fb Y n:=(List.prefix_append_right_inj _).2 (KV Y n (k+1) hk);have e:Y.ce++fb Y (k+1)=Y.ce++fb Y k++ky Y.C Y.cycle ((k:Int)+1):=by
  show Y.ce++(fb Y k++_)=_;rw[yc h,fz]
 rw[e]at s;generalize ky Y.C Y.cycle ((k:Int)+1)=l at*;have d:=s.sublist.nodup hnd;have c:=s.length_le;have r:l=l.take j++l[j]::l.drop (j+1):=by
  rw[List.getElem_cons_drop,rV]
 refine⟨?_, ?_⟩
 ·rw[r,<-fz]at d;have x:=xB.1 d;intro Z;have Q:l.take j=(l.take j++l[j]::l.drop (j+1)).take j:=by rw[<-r]
  exact x.2.2 _ Z _ (iG ..) rfl
 ·rw[cO,dx];rw[cO]at c;omega
def KX(hk:k<=n)(hl:((Y.ce++fb Y n).length:Int)<=Y.C.room):((Y.ce++fb Y k).length:Int)<=Y.C.room:=by
 have:=((List.prefix_append_right_inj Y.ce).2 (KV Y n k hk)).length_le
 omega
section
attribute [local go_sem ↓] wp_at_zero wp_at_succ
def EO(B q:Nat)(cs:Array Value)(A:YA)(Y:YS)(w:World)(e:Ending)(w':World):Prop:=∃A' r D',e=.returned (.tuple #[])/\iU Y.D Y.G.fd r D'/\dr B w w' A A' (({Y with D:=D'}:YS).iv Y.C.mem)/\bI w' q 197 cs/\A'.vt.ownBlock≠some q
variable{A:YA}{cs:Array bE}
def Zg{q:Nat}(hq:bI w q 197 cs)(hqv:A.vt.ownBlock≠some q)(h:dp w B A Y)(ok:dv Y)(hg:∀t∈Y.G.list,ny t)(hf:qF Y.G.fd)(hn:Y.G.fd.length<=1024)(hi:iE Y.C Y.cycle)(hx:0<=(fN Y.C Y.cycle).cI/\(fN Y.C Y.cycle).cI<=100000)(hlog:Y.D.log.length<=800000)(hW:∀r D',iU Y.D Y.G.fd r D'->(({Y with D:=D'}:YS).iv Y.C.mem).ce.Nodup/\((({Y with D:=D'}:YS).iv Y.C.mem).ce.length:Int)<=Y.C.room):
  bG 170 #[ptr A.gy] w (EO B q cs A Y w):=by
 let⟨bB,bp⟩:=Jh2 hq hqv;have s:w.cell? (be A.gy 8)=some (ptr A.D.gd):=h.blk.c 8;have p9:w.cell? (be A.gy 9)=some (ptr A.G.gr):=h.blk.c 9;have ak:=ch s p9;let⟨aO,OK⟩:=Jh2 h ok;have aM:=aa (fun W (h:fu W B A.G Y.G)=>UY h ok.gH.ok hg);have aS:=aa (fun W v (h:dp W B A Y) (hv:Sl df 3 W v Y.G.fd)=>Vg h.dg ok.ez h.pb h.lt (by have:=ok.cn;unfold bO;omega) v Y.G.fd hv hn hf af);have F:=aa (fun r D' (h:iU Y.D Y.G.fd r D')=>EN ok hf hn h);have L:=aa hW;let⟨n0,k0,aT⟩:=bV h.ct.m;let⟨bs,HI,HX,HV⟩:=Jh4 aT hi hx ok.ct;have bn:=ok.ct.m2;let⟨M,hM⟩:=aH Y.C.mem.length;have HM:=aa hM;have bZ:M<=16:=af;have aV:Hid (∀e w',EO B q cs A Y w e w'↔∃A' r D',e=.returned (.tuple #[])/\iU Y.D Y.G.fd r D'/\dr B w w' A A' (({Y with D:=D'}:YS).iv M)/\bI w' q 197 cs/\A'.vt.ownBlock≠some q):=aa (fun _ _=>by rw[<-hM];exact Iff.rfl);clear hq hqv h ok hg hf hn hi hx hlog hW aT s p9 bn hM;go_enter func170,ntmps170;go_wp2;go_region_held3(fun W=>W.cell? (be A.gy 8)=some (ptr A.D.gd)/\W.cell? (be A.gy 9)=some (ptr A.G.gr)) (first|exact ak|assumption|go_keep)
  (first|(go_at_call 207;refine(aM.o w.drew aO.o.reg.d).bC ?_;rintro e w2⟨v2,rfl,o2,c2⟩;have Y2:=aa ((dr.same aO.o.d c2).before (bM w w).drew);have S2:=aa (Sl.own eG o2);have Q2:=aa ((bI.d (wd:=w.drew) bB.o).keep c2);have R:=ch (show w2.cell? (be A.gy 8)=some (ptr A.D.gd)from Y2.o.at'.blk.c 8) (show w2.cell? (be A.gy 9)=some (ptr A.G.gr)from Y2.o.at'.blk.c 9))|(go_at_call 206;refine(aS.o _ _ Y2.o.at' S2.o).bC ?_;rintro e w3⟨r,D3,D',rfl,aD,hr⟩;have Y3:=aa (Y2.o.bu (Y2.o.at'.pd aD));have HR:=aa hr;have P:=aa (Q2.o.cu aD.mod ah);have bh:=ch (show w3.cell? (be A.gy 8)=some (ptr A.D.gd)from(by rw[<-aD.gd];exact Y3.o.at'.blk.c 8)) (show w3.cell? (be A.gy 9)=some (ptr A.G.gr)from Y3.o.at'.blk.c 9)))
 all_goals
  let⟨aq,bl,bF⟩:=F.o _ _ HR.o;let⟨aG,N⟩:=L.o _ _ HR.o;rw[HM.o]at aG N;have p0:w3.cell? (be A.gy 0)=some (.slice n0 M k0):=by rw[<-HM.o,<-bs.o];exact Y3.o.at'.blk.c 0
  have f:Hid (∀w' A',dr B w w' A A' (({Y with D:=D'}:YS).iv M)->bI w' q 197 cs->A'.vt.ownBlock≠some q->EO B q cs A Y w (.returned (.tuple #[])) w'):=aa (fun w' A' h h2 h3=>(aV.o _ _).2 ⟨A',r,D',rfl,HR.o,h,h2,h3⟩);have an:Hid (dz ({Y with D:=D'}:YS).C):=HV;have aN:Hid (iE ({Y with D:=D'}:YS).C ({Y with D:=D'}:YS).cycle):=HI;have a1:Hid (0<=(fN ({Y with D:=D'}:YS).C ({Y with D:=D'}:YS).cycle).cI/\(fN ({Y with D:=D'}:YS).C ({Y with D:=D'}:YS).cycle).cI<=100000):=HX;have a9:Hid (({Y with D:=D'}:YS).C.mem.length=M):=HM;have J:Hid ((({Y with D:=D'}:YS).ce++fb {Y with D:=D'} M).Nodup):=aa aG;have y:Hid (((({Y with D:=D'}:YS).ce++fb {Y with D:=D'} M).length:Int)<=({Y with D:=D'}:YS).C.room):=aa N;have Z:=aa aq;obtain⟨Y1,aU⟩:∃Y1:YS,{Y with D:=D'}=Y1:=⟨_,rfl⟩;rw[aU]at Z J y a9 a1 aN an f Y3;clear aU aq bl bF aG N aV HV HI HX HM L F aM aS HR ak R bh;go_wp2;go_loopw[23] (fun vi wr=>∃(k:Nat) (A':YA),k<=M/\vi=k/\dr B w wr A A' (Y1.iv k)/\bI wr q 197 cs/\A'.vt.ownBlock≠some q) (aW M);exact⟨0,{A with D:=D3},cH _,rfl,by unfold YS.iv fb;rw[ix];exact Y3.o,P.o,bp.o⟩;obtain⟨k,A',hk,rfl,aj,aR,ax⟩:=hrel;let⟨ac,aJ,a⟩:=Jh3 aj aR ax;clear aj aR ax;by_cases aB:k<M
  ·have bR:0<=(k:Int):=af;have bP:k<(M:Int):=af;have ae:wrap64 ((k:Int)+1)=(k:Int)+1:=aC;have bm:Hid (dv (Y1.iv k)):=aa ⟨Z.o.dc,Z.o.gc,Z.o.ez,Z.o.gH,Z.o.told,KX (pE aB) y.o,Z.o.bU,Z.o.clock,Z.o.cn,Z.o.jD⟩;let⟨b,u⟩:=aH (Y1.lacks ((k:Int)+1));have aF:=aa (fun W A (h:dp W B A (Y1.iv k))=>KH h bm.o ((k:Int)+1));rw[show(Y1.iv k).lacks ((k:Int)+1)=b from u]at aF;have HB:=aa u;clear u;cases b with
   |false=>
    have az:Hid (Y1.iv (k+1)=Y1.iv k):=aa (by
     unfold YS.iv;rw[fb,HB.o,ya au,ix])
    go_wp2_with(go_at_call 110;refine(by rw[<-ac.o.gy];exact aF.o _ _ ac.o.at':bG 110 #[ptr A.gy,aY ((k:Int)+1)] wr _).bC ?_;rintro e w4⟨rfl,c4⟩;have Y4:=aa (ac.o.keep c4);have I:=aa (aJ.o.keep c4);clear ae);go_roundw;exact⟨k+1,A',af,aw,by rw[az.o];exact Y4.o,I.o,a.o⟩;exact eZ af
   |true=>
    have a0:=aa (fun W A (h:dp W B A (Y1.iv k))=>V4 A.vm A.vs A.vc Y1.C Y1.cycle ((k:Int)+1) W h.ct.sl an.o aN.o (by unfold fR;rw[a9.o];omega) a1.o);let⟨l,S⟩:=aH (ky Y1.C Y1.cycle ((k:Int)+1));have aE:=aa (fun j (hj:j<(ky Y1.C Y1.cycle ((k:Int)+1)).length)=>Zf aB J.o y.o HB.o hj);rw[S]at a0 aE;have az:Hid (Y1.iv (k+1)={Y1.iv k with ce:=(Y1.iv k).ce++l}):=aa (by
     unfold YS.iv;rw[fb,HB.o,yc rfl,<-fz,S])
    have bL:l.length<=48:=by
     have h1:=KX (k:=k+1) aB y.o;have h2:=Ee an.o;rw[fb,HB.o,yc rfl,S,cO,cO]at h1;omega
    clear S;go_wp2_with(go_at_call 110;refine(by rw[<-ac.o.gy];exact aF.o _ _ ac.o.at':bG 110 #[ptr A.gy,aY ((k:Int)+1)] wr _).bC ?_;rintro e w4⟨rfl,c4⟩;have Y4:=aa (ac.o.keep c4);have I:=aa (aJ.o.keep c4);clear ae);have ae:wrap64 ((k:Int)+1)=(k:Int)+1:=aC;have aA:IntKind.i64.wrap ((k:Int)+1)=(k:Int)+1:=gI _ af;have K:=ch (show S8 A.gy A'.vm A'.vs A'.vc Y1.C w4 from by rw[<-Y4.o.gy];exact Y4.o.at'.s8) (show w4.cell? (be A.gy 13)=some (.int .i64 Y1.cycle)from by rw[<-Y4.o.gy];exact Y4.o.at'.blk.c 13);go_region_held3(fun W=>S8 A.gy A'.vm A'.vs A'.vc Y1.C W/\W.cell? (be A.gy 13)=Y1.cycle) (first|exact K|assumption|go_keep)
     (first|(go_at_call 208;refine(a0.o w4.drew A' Y4.o.at'.d).bC ?_;rintro e w5⟨v5,rfl,o5,c5⟩;have Y5:=aa (Y4.o.bu ((dr.same Y4.o.at'.d c5).before (bM _ _).drew));have i:=aa o5;have Q5:=aa ((bI.d (wd:=w4.drew) I.o).keep c5);have a8:q<w4.drew.heap.size:=(by exact I.o.lt);have bv:Hid (∀q,A'.vt.ownBlock=some q->v5.ownBlock≠some q):=aa (fun q hq e=>(by have h1:=(Y4.o.at'.ce.own.lt q hq).2;have h2:=(o5.lt q e).1;have h3:w4.drew.heap.size=w4.heap.size:=rfl;omega));obtain⟨n5,k5,rfl⟩:=bV o5;have bk:=ch (show S8 A.gy A'.vm A'.vs A'.vc Y1.C w5 from(by rw[<-Y5.o.gy];exact Y5.o.at'.s8)) (show w5.cell? (be A.gy 13)=some (.int .i64 Y1.cycle)from(by rw[<-Y5.o.gy];exact Y5.o.at'.blk.c 13))))
    all_goals
     clear ae aA K bk o5 c5;let⟨B0,a4⟩:=aH w4.drew.heap.size;rw[a4]at i a8;let⟨wo,z⟩:∃wo,wo=wr:=⟨_,rfl⟩;subst z;have bX:Hid (∀j,(Y1.iv k).ce++l.take j=({Y1.iv k with ce:=(Y1.iv k).ce++l.take j}:YS).ce):=aa fun _=>rfl;clear a4;go_wp2;go_loopw[47] (fun vi wr=>∃(j:Nat) (U:YA),j<=l.length/\vi=.int .i64 j/\dr B w wr A U {Y1.iv k with ce:=(Y1.iv k).ce++l.take j}/\U.gw=A'.gw/\wr.ownsRow B0 197 4 (.slice n5 l.length k5) l.length (bN fB l)/\(∀q,U.vt.ownBlock=some q->(Value.slice n5 l.length k5).ownBlock≠some q)/\bI wr q 197 cs/\U.vt.ownBlock≠some q) (aW l.length);exact⟨0,A',cH _,rfl,by rw[List.take_zero,ix];exact Y5.o,rfl,i.o,bv.o,Q5.o,a.o⟩;obtain⟨j,U,hj,rfl,aj,O,dY,a2,aL,ar⟩:=hrel;let⟨al,ao,n,a7,bz,bx⟩:=Jh6 aL ar aj dY (Sl.own mj dY) a2;have V:=aa O;clear aj dY a2 O aL ar;by_cases ag:j<l.length
     ·skip
      obtain⟨b0,br,b,bo,rfl,bQ,ba⟩:=bz.o.hd;let⟨r0,r1,r2,r3⟩:=sr (ba j ag);have bS:0<=(j:Int):=af;have b1:j<(l:Int):=af;unfold maxLen at br;obtain⟨Yj,ai⟩:∃Yj:YS,{Y1.iv k with ce:=(Y1.iv k).ce++l.take j}=Yj:=⟨_,rfl⟩;have bq:Hid (({Y1.iv k with ce:=(Y1.iv k).ce++l.take (j+1)}:YS)={Yj with ce:=Yj.ce++[l[j]]}):=aa (by rw[<-ai];simp only;rw[fj ag,fz]);have bb:Hid (l[j]∉Yj.ce):=aa (by rw[<-ai];exact(aE.o j ag).1);have Q:Hid ((Yj.ce:Int)<Yj.C.room):=aa (by rw[<-ai];exact(aE.o j ag).2);have bc:Hid (Yj.ce.length<=48):=aa (by have h1:=Q.o;have h2:=Ee an.o;have h3:Yj.C=Y1.C:=(by rw[<-ai];rfl);rw[h3]at h1;omega);rw[ai]at n;clear ba ai;generalize l[j]=x at*;have cX:Bw wr (aZ wr (dL x) 197):=aI;let⟨X,E⟩:=aH (wr.alloc (bH (dL x) 197));have bw:=aa E;have H:Hid (bI X wr 197 (dL x)):=aa Qc7;have ab:Hid (dr B w X A U Yj):=aa (by rw[<-E];exact n.o.keep cX);have QX:Hid (bI X q 197 cs):=aa (by rw[<-E];exact al.o.alloc _);have av:Hid (X.ownsRow B0 197 4 (.slice (some ⟨b,bo,none⟩) l.length k5) l.length (bN fB l)):=aa (by rw[<-E];exact cJ a7.o cX);have bT:b<wr.heap.size:=(a7.o.lt b rfl).2;have bJ:wr.heap.size<X.heap.size:=H.o.lt;have bK:A'.gw<wr:=by rw[<-V.o];exact n.o.at'.ce.blk.lt
      have p:∀q T cs,bI X q T cs->T=150->q≠b:=by
       rintro q T cs hq rfl rfl;exact fp hq av.o ah q rfl rfl
      have ap:A'.gw≠q:=fun e=>by
       have h1:=n.o.at'.ce.blk;have h2:=al.o;rw[V.o,e]at h1;unfold bI at h1 h2;rw[h1]at h2;simp at h2
      have aQ:q<wr.heap.size:=al.o.lt;have a6:=aa (fun W (hW:W.heap=X.heap) (hD:dp W B U Yj)=>KJ V.o hD bc.o x bb.o Q.o [b,wr.heap.size,q] (by
        rw[V.o];simp only[je,qk,or_false,not_or];exact⟨p _ _ _ (by rw[<-V.o];exact ab.o.at'.ce.blk) rfl,af,ap⟩) (fun q' hq=>by
        have h1:=bx.o q' hq;have h2:=(n.o.at'.ce.own.lt q' hq).2;simp only[je,qk,or_false,not_or];exact⟨fun e=>h1 (by rw[e];rfl),af,fun e=>ao.o (e▸hq)⟩) (fun q' hq=>by
        rw[hW];simp only[je,qk,or_false]at hq;rcases hq with rfl|rfl|rfl<;>omega))
      let⟨t0,t1,t2,t3⟩:X.cell? ⟨wr,0,none⟩=x.dh/\X.cell? ⟨wr,1,none⟩=x.cq/\X.cell? ⟨wr,2,none⟩=x.mem/\X.cell? ⟨wr,3,none⟩=x.fY:=⟨H.o.c 0,H.o.c 1,H.o.c 2,H.o.c 3⟩;have ak:=ch (wM ab.o.at' ab.o.gy V.o) (ch t0 (ch t1 (ch t2 t3)));clear E cX t0 t1 t2 t3 p ap aQ;go_wp2_with fail;rw[show wr.alloc (bH #[x.dh,x.cq,x.mem,x.fY] 197)=X from bw.o];go_region_held3(fun W=>W.cell? (be A.gy 10)=some (ptr A'.gw)/\W.cell? (be wr 0)=x.dh/\W.cell? (be wr 1)=x.cq/\W.cell? (be wr 2)=x.mem/\W.cell? (be wr 3)=x.fY) (first|exact ak|exact s5|assumption|go_keep)
       (first|(go_at_call 101;refine(a6.o X.drew rfl ab.o.at'.d).bC ?_;rintro e w5⟨A5,rfl,aK,g5,a3,ad⟩;have ay:=aa (ab.o.bu (aK.before (bM _ _).drew));have G5:=aa g5;have a5:=aa a3;have bA:=aa ad;have Q8:=aa ((ad q au).bu QX.o:bI w5 q 197 cs);have B5:bI w5 wr 197 (dL x):=(ad _ au).bu H.o;have s5:=ch (wM ay.o.at' ay.o.gy g5) (ch (B5.c 0) (ch (B5.c 1) (ch (B5.c 2) (B5.c 3))));clear aK g5 a3 ad))
      all_goals
       rename_i am;clear am s5 ak;go_wp2;go_roundw;exact⟨j+1,A5,af,aw,by rw[bq.o];exact ay.o,G5.o,ed av.o (fun g hg=>bA.o g QbV),fun q hq e=>a5.o q hq QbX,Q8.o,fun e=>a5.o q e au⟩;exact eZ af
     ·obtain rfl:j=l.length:=af;have bW:¬(l.length<(l:Int)):=af;have aP:Hid (dr B w wr A U (Y1.iv (k+1))):=aa (by rw[az.o];have h:=n.o;rw[ic]at h;exact h);clear n;go_wp2;go_roundw;exact⟨k+1,U,af,aw,aP.o,al.o,ao.o⟩;exact eZ af
  ·obtain rfl:k=M:=af;have bY:¬(k<(k:Int)):=af;go_wp2;go_end0;exact f.o _ _ ac.o aJ.o a.o
def YS.fi(Y:YS)(D':DS):YS:=({Y with D:=D'}:YS).iv Y.C.mem
def KY(B:Nat)(A:YA)(Y:YS)(w:World)(e:Ending)(w':World):Prop:=∃A' r D',e=.returned (.tuple #[])/\iU Y.D Y.G.fd r D'/\dr B w w' A A' ((Y.fi D').come ((Y.fi D').next 1 false))/\dv ((Y.fi D').come ((Y.fi D').next 1 false))
def KZ(t:Tm)(ht:t.cq=1)(h:dp w B A Y)(ok:dv Y)(hg:∀t∈Y.G.list,ny t)(hf:qF Y.G.fd)(hn:Y.G.fd.length<=1024)(hi:iE Y.C Y.cycle)(hx:0<=(fN Y.C Y.cycle).cI/\(fN Y.C Y.cycle).cI<=100000)(hlog:Y.log.length+2*Y.D.log.length<=800000)(hW:∀r D',iU Y.D Y.G.fd r D'->(Y.fi D').ce.Nodup/\((Y.fi D').ce.length:Int)<=Y.C.room):
  bG 118 #[ptr A.gy,kM t] w (KY B A Y w):=by
 obtain⟨i,S,tm,P⟩:=t;obtain rfl:S=1:=ht;let⟨g,v⟩:=aH (w.alloc (bH (dL ⟨i,1,tm,P⟩) 197));have b:Bw w g:=by rw[<-v];exact aI
 have R:Hid (bI g w 197 (dL ⟨i,1,tm,P⟩)):=aa QaW;have L:A.vt.ownBlock≠some w.heap.size:=fun e=>by have:=(h.ce.own.lt _ e).2;omega
 let⟨ad,m⟩:=Jh2 h (Zg R.o L (h.keep b) ok hg hf hn hi hx af hW);have HK:=aa (fun r D' (K:iU Y.D Y.G.fd r D')=>(⟨(EN ok hf hn K).1,(EN ok hf hn K).2.1,hW r D' K⟩:dv {Y with D:=D'}/\D'.log.length<=Y.D.log.length+1024/\(Y.fi D').ce.Nodup/\((Y.fi D').ce.length:Int)<=Y.C.room));have I:=aa hlog;have t1:g.cell? (be w 1)=some (.int .i64 1):=R.o.c 1;have ac:=aa v;clear h ok hg hf hn hi hx hlog hW L v;go_enter func118,ntmps118;go_wp2_with fail;rw[show w.alloc (bH #[i,(1:Int),tm,P] 197)=g from ac.o];go_wp2_with(go_at_call 170;refine m.o.bC ?_;rintro e k⟨U,r,n,rfl,K,J,H,T⟩;have q:=aa K;have E:=aa ((dr.same ad.o b).bu J);have M:=aa H;have u1:k.cell? (be w 1)=some (.int .i64 1):=H.c 1;clear t1 K J H T);let⟨a,Q,u,z⟩:=HK.o _ _ q.o;have d:Hid (dv (Y.fi n)):=aa ⟨a.dc,a.gc,a.ez,a.gH,a.told,z,a.bU,a.clock,a.cn,a.jD⟩;have Z:Hid ((Y.fi n).log.length+(Y.fi n).D.log.length<=999000):=aa (by
  have:=I.o
  show Y.log.length+n.log.length<=999000;omega)
 have N:Hid (∀w' A',dr B w w' A A' ((Y.fi n).come ((Y.fi n).next 1 false))->KY B A Y w (.returned (.tuple #[])) w'):=aa (fun w' A' h=>⟨A',r,n,rfl,q.o,h,d.o.come _⟩);have x:Hid (dr B w k A U (Y.fi n)):=aa E.o;have f:=aa (fun W A (h:dp W B A (Y.fi n))=>Au h 1 false);have V:=aa (fun W A (h:dp W B A (Y.fi n))=>yt h d.o Z.o ((Y.fi n).next 1 false));generalize Y.fi n=Yc at*;let⟨p,s⟩:=aH (Yc.next 1 false);rw[s]at f V N;clear a Q u z HK m E s;have l:Hid (U.gy=A.gy):=aa x.o.gy;rw[<-l.o];refine(f.o _ _ x.o.at').bC ?_;rintro e O⟨rfl,F⟩;have j:=aa (x.o.keep F);go_wp2_with(go_at_call 102;refine(V.o _ _ j.o.at').bC ?_;rintro e X⟨A4,rfl,y⟩;have ab:=aa (j.o.bu y));go_end0;exact N.o _ _ ab.o
def K5(B:Nat)(A:YA)(Y':YS)(w:World)(e:Ending)(w':World):Prop:=∃A',e=.returned (.tuple #[])/\dr B w w' A A' Y'
def Zh(t:Tm)(ht:t.cq=2)(h:dp w B A Y)(ok:dv Y)(hlog:Y.log.length+Y.D.log.length<=999000):
  bG 118 #[ptr A.gy,kM t] w (K5 B A (Y.tell ⟨7,t.mem,0,0,t.fY⟩) w):=by
 obtain⟨i,S,d,a⟩:=t;obtain rfl:S=2:=ht;let⟨g,v⟩:=aH (w.alloc (bH (dL ⟨i,2,d,a⟩) 197));have b:Bw w g:=by rw[<-v];exact aI
 have R:Hid (bI g w 197 (dL ⟨i,2,d,a⟩)):=aa QaW;let⟨C,r⟩:=Jh2 h (Eg (h.keep b) ok hlog ⟨7,d,0,0,a⟩);have q:g.cell? (be w 1)=some (.int .i64 2):=R.o.c 1;have u:g.cell? (be w 2)=d:=R.o.c 2;have K:g.cell? (be w 3)=a:=R.o.c 3;have f:=aa v;have j:Hid (∀w' A',dr B w w' A A' (Y.tell ⟨7,d,0,0,a⟩)->K5 B A (Y.tell ⟨7,d,0,0,a⟩) w (.returned (.tuple #[])) w'):=aa (fun w' A' h=>⟨A',rfl,h⟩);clear h ok hlog v;generalize Y.tell ⟨7,d,0,0,a⟩=Yt at*;go_enter func118,ntmps118;go_wp2_with fail;rw[show w.alloc (bH #[i,(2:Int),d,a] 197)=g from f.o];go_wp2_with(go_at_call 106;refine r.o.bC ?_;rintro e k⟨U,rfl,J⟩;have E:=aa ((dr.same C.o b).bu J));refine wb (results_none rfl _ _ _) rfl ?_;exact j.o _ _ E.o
def K6(B:Nat)(Y:YS)(P:DS->Prop):Prop:=∀W A,dp W B A Y->Calls prog 171 #[ptr A.D.gd] W fun e w'=>∃(y:Int) (A2:DA) (D2:DS),e=.returned (.tuple #[.bool false,y])/\cL B (oG A.vl) W w' A.D A2 D2/\P D2
def tE(B:Nat)(Y:YS)(P:DS->Prop):Prop:=∀W A,dp W B A Y->Calls prog 172 #[ptr A.D.gd] W fun e w'=>∃(r:Int) (A2:DA) (D2:DS),e=.returned r/\cL B (oG A.vl) W w' A.D A2 D2/\P D2
def YS.pZ(Y:YS)(D:DS):YS:=({Y with D:=D}:YS).come (({Y with D:=D}:YS).next 3 false)
def K8(B:Nat)(A:YA)(Y:YS)(P:DS->Prop)(w:World)(e:Ending)(w':World):Prop:=∃A' D,e=.returned (.tuple #[])/\P D/\dr B w w' A A' (Y.pZ D)
def Zi(t:Tm)(ht:t.cq=3)(h:dp w B A Y)(P2 P3:DS->Prop)(hd:K6 B Y P2)(hs:∀D2,P2 D2->tE B {Y with D:=D2} P3)(hok:∀D3,P3 D3->dv {Y with D:=D3}/\Y.log.length+D3.log.length<=999000):
  bG 118 #[ptr A.gy,kM t] w (K8 B A Y P3 w):=by
 obtain⟨i,S,tm,N⟩:=t;obtain rfl:S=3:=ht;let⟨g,v⟩:=aH (w.alloc (bH (dL ⟨i,3,tm,N⟩) 197));have b:Bw w g:=by rw[<-v];exact aI
 have R:Hid (bI g w 197 (dL ⟨i,3,tm,N⟩)):=aa QaW;let⟨C,L⟩:=Jh2 h (h.keep b);let⟨HD,HS,HK⟩:=Jh3 (hd g A L.o) hs hok;have q:g.cell? (be w 1)=some (.int .i64 3):=R.o.c 1;have s:g.cell? (be A.gy 8)=some (ptr A.D.gd):=L.o.blk.c 8;have ag:=aa v;have u:(w.alloc (bH #[i,(3:Int),tm,N] 197)).cell? (be A.gy 8)=some (ptr A.D.gd):=by rw[show w.alloc (bH #[i,(3:Int),tm,N] 197)=g from v];exact s
 clear h hd hs hok v;go_enter func118,ntmps118;go_wp2_with fail;clear u;rw[show w.alloc (bH #[i,(3:Int),tm,N] 197)=g from ag.o];go_wp2_with(first|(go_at_call 171;refine HD.o.bC ?_;rintro e k⟨y,U,D2,rfl,J,ae⟩;have Y2:=aa (L.o.pd J);have M:=aa (R.o.cu J.mod ah);have m:k.cell? (be A.gy 8)=some (ptr U.gd):=Y2.o.at'.blk.c 8;have ad:=aa (HS.o _ ae _ _ Y2.o.at');clear q s)|(go_at_call 172;refine ad.o.bC ?_;rintro e O⟨r,x,D3,rfl,ab,Q⟩;have Z:=aa ((dr.same C.o b).bu (Y2.o.bu (Y2.o.at'.pd ab)));have P:=aa (M.o.cu ab.mod ah);have u1:O.cell? (be w 1)=some (.int .i64 3):=P.o.c 1;have K:=aa Q));let⟨F,z⟩:=HK.o _ K.o;have H:=aa F;have E:Hid (({Y with D:=D3}:YS).log.length+({Y with D:=D3}:YS).D.log.length<=999000):=aa z;have a:Hid (∀w' A',dr B w w' A A' (Y.pZ D3)->K8 B A Y P3 w (.returned (.tuple #[])) w'):=aa (fun w' A' h=>⟨A',D3,rfl,K.o,h⟩);have n:Hid (dr B w O A {A with D:=x} ({Y with D:=D3}:YS)):=aa Z.o;have f:=aa (fun W A (h:dp W B A {Y with D:=D3})=>Au h 3 false);have V:=aa (fun W A (h:dp W B A {Y with D:=D3})=>yt h H.o E.o (({Y with D:=D3}:YS).next 3 false));unfold YS.pZ at a;obtain⟨l,I⟩:∃l:YS,{Y with D:=D3}=l:=⟨_,rfl⟩;rw[I]at a f V n;let⟨p,hp⟩:=aH (l.next 3 false);rw[hp]at f V a;clear F z hp I E H Z HK HS HD;refine(f.o _ _ n.o.at').bC ?_;rintro e T⟨rfl,d⟩;have G:=aa (n.o.keep d);go_wp2_with(go_at_call 102;refine(V.o _ _ G.o.at').bC ?_;rintro e X⟨j,rfl,ac⟩;have af:=aa (G.o.bu ac));go_end0;exact a.o _ _ af.o
def Zj(B g:Nat)(room:Int)(v0:Value)(l:List Tm)(K:List Nat)(now:Int)(w:World)(e:Ending)(w':World):Prop:=∃P v,P.Perm (List.range l)/\ro (l.map gT) P/\e=.returned (.tuple #[kM ((mz l P now).getD oS),.bool (mz l P now).isSome])/\kT w' B g room v (zX l (mz l P now))/\cg B [150] K w w'/\∀k,v.ownBlock=some k->v0.ownBlock=some k∨w.heap.size<=k
variable{g:Nat}{v:bE}
def Zk{room:Int}{l:bF Tm}(h:kT w B g room v l)(hn:l.length<=9000)(K:bF Nat)(hK:g∉K)(hB:B<=w)(now:Int):bG 117 #[ptr g,now] w (Zj B g room v l K now w):=by
 let⟨W1,ac⟩:=aH (w.alloc (bH #[(),(),(),()] 197));have c1:Bw w W1:=by rw[<-ac];exact aI
 have X:Hid (bI W1 w 197 #[(),(),(),()]):=aa (by rw[<-ac];exact bI.new w 197 _);let⟨HH,V,A⟩:=Jh3 (h.keep c1) (UK (h.keep c1) hn) ac;have ai:=aa (fun k (hk:v.ownBlock=some k)=>(h.own.lt k hk).2);clear h ac;go_enter func117,ntmps117;go_wp2_with fail;rw[show w.alloc (bH #[(),(),(),()] 197)=W1 from A.o];refine V.o.bC ?_;rintro e w2⟨G,P,rfl,s,hx,J,u⟩;let⟨HP,T⟩:=Jh2 s hx;let⟨S,U⟩:=aH (P.map fun i=>l.getD i oS);rw[U]at J;have HF:Hid (mz l P now=zW S now):=aa (by unfold mz;rw[U]);have Q:=aa J;obtain⟨n2,k2,rfl⟩:=bV J;let⟨R2,Y⟩:=Jh2 (X.o.keep u) (HH.o.keep u);have b2:=c1.bu (u.bC c1.size);clear s hx U J u;dsimp only;have ae:=aa (show g≠w from fun e=>by
  have h1:=Y.o.blk;have h2:=R2.o;rw[e]at h1;unfold bI at h1 h2;rw[h1]at h2;simp at h2)
 cases S with
 |nil=>
  have ab:Hid (mz l P now=none):=aa HF.o;exact Qas
 |cons t r=>
  let⟨a',z,R,_,F,aq,L⟩:=Sl.own mj Q.o;let⟨e1,e2⟩:n2=a'/\k2=z:=aG R;subst e1 e2;obtain⟨b,av,rfl,y,n⟩:=L au;let⟨q0,E,H,q3⟩:=sr (n 0 au);rw[Nat.zero_mul,gg]at q0 E H q3;simp only[jr]at q0 E H q3;have am:(0:Int)<(((t::r).length:Nat):Int):=by simp only[gL];omega
  have j:=aa (fun(W:bD) (m:cg B [150] K w2 W)=>Sl.own mj (dq Q.o m ah));let⟨N,hN⟩:=aH ((t::r).length);have HN:=aa hN;rw[hN]at am⊢;have ar:((N:Int)==0)=false:=aA;have aw:¬(N:Int)=0:=af;by_cases hd:now<t.dh
  ·have ab:Hid (mz l P now=none):=aa (by rw[HF.o];show(if now<t.dh then none else some t)=_;rw[yc hd]);have al:=dT hd;clear n L R hN hd;exact Qas
  ·have ab:Hid (mz l P now=some t):=aa (by rw[HF.o];show(if now<t.dh then none else some t)=_;rw[ya hd]);have al:=dF hd;have d:=UR Y.o hn K hK (bW hB b2.size) t;let⟨rc,a⟩:∃rc:Int,(if t∈l then(0:Int)else 8)=rc:=⟨_,rfl⟩;rw[a]at d;have an:=aa d;clear d a;have ap:b<w2:=y;clear n L R hN hd;go_wp2_with(first|(go_at_call 169;refine an.o.bC ?_;rintro e O⟨C,rfl,D,f,ad⟩;have ag:=aa D;have ak:=aa f;have Z:=aa ad;have R3:=aa (R2.o.cu ad ah);have p:=UT (j.o O ad);obtain⟨y0,y1,y2,y3⟩:=p;clear D f ad)|(refine fQ rfl 197 _ _ rfl rfl w #[t.dh,t.cq,t.mem,t.fY] rfl rfl aj aD _ R3.o rfl ?_;intro M x;have q:=aa x;have s0:=x.row.c 0;have I:=x.row.c 1;have s2:=x.row.c 2;have s3:=x.row.c 3;clear x));refine wb (v:=.tuple #[.agg #[t.dh,t.cq,t.mem,t.fY],.bool true]) (by simp[results,results117,go_sem,s0,I,s2,s3]) rfl ?_;refine⟨P,C,HP.o,T.o,by rw[ab.o];rfl, ?_,US ((cg.below b2).bu Z.o) q.o,fun k hk=>ci (bW b2.size (ak.o k hk))⟩;rw[ab.o];have ao:=R2.o.lt;exact⟨(q.o.far _ ae.o).bu ag.o.blk,ed ag.o.own fun k hk=>q.o.far k (by have:=ak.o k hk;omega),ag.o.l1⟩
def uN(B:Nat)(Y:YS)(t:Tm)(Q:YS->Prop):Prop:=∀W A,dp W B A Y->Calls prog 118 #[ptr A.gy,kM t] W fun e w'=>∃A' Y',e=.returned (.tuple #[])/\dr B W w' A A' Y'/\Q Y'
def dp.Aw{q:Nat}(h:dp w B A Y)(hq:bI w q 197 cs)(hqv:A.vt.ownBlock≠some q)(hB:B<=q)(i:Nat)(u:bE):dr B w (w.setCell (q,i) u) A A Y:=by have m:cg B [197] (oG A.vt) w (w.setCell (q,i) u):=cg.set hq au hB (fun hm=>hqv (mX.1 hm));exact⟨⟨h.blk.cu m ah,h.ct.cu m ah ah ah,h.dg.cu m ah,h.reg.cu m ah ah ah ah ah ah ah ah,⟨h.ce.blk.cu m ah,Bq h.ce.own m (fun k hk=>mX.2 hk),h.ce.l1⟩,dq h.log m ah,h.lA,h.l1,h.ol.cu m h.l0,h.l0⟩,(m.bC ah).less au,rfl⟩
def YS.pop(Y:YS)(o:Option Tm):YS:={Y with ce:=zX Y.ce o}
def wO(Y:YS)(o:Option Tm):Prop:=∃P,P.Perm (List.range Y.ce)/\ro (Y.ce.map gT) P/\mz Y.ce P Y.clock=o
variable{gw:Nat}
def Zl(e:A.gw=gw)(h:dp w B A Y)(hn:Y.ce.length<=48)(q:Nat)(hq:q<w)(hqv:∀k,A.vt.ownBlock=some k->k≠q):bG 117 #[ptr gw,Y.clock] w fun e w'=>∃o A',e=.returned (.tuple #[kM (Option.getD o oS),.bool o.isSome])/\wO Y o/\dr B w w' A A' (Y.pop o)/\A'.gw=gw/\A'.vt.ownBlock≠some q/\(∀T cs,T≠150->bI w q T cs->bI w' q T cs):=by
 subst e;refine(Zk h.ce af [] au h.lt Y.clock).bC ?_;rintro e w'⟨P,v,b,L,rfl,a,Z,R⟩;refine⟨_,{A with vt:=v},rfl,⟨P,b,L,rfl⟩,h.Ef (Z.bC ah) a,rfl, ?_,fun T cs hT hb=>hb.cu Z (aG hT)⟩;intro e;rcases R q e with h1|h1
 ·exact hqv q h1 rfl
 ·omega
def YS.fq(Y:YS):YS:={Y with clock:=Y.clock+1}
def La(Y:YS)(I:YS->Prop)(n er:Int)(Y':YS):Prop:=n=Y.clock+1/\er=0/\∃Y1,I Y1/\wO Y1 none/\Y'=Y1.pop none
def yz(c:Cm)(ok:dv Y)(I:YS->Prop)(μ:YS->Nat)(h0:I Y.fq)(hI:∀Y1,I Y1->dv Y1/\Y1.log.length+Y1.D.log.length<=999000/\Y1.clock=Y.clock+1)(hf:∀Y1 t,I Y1->wO Y1 (some t)->uN B (Y1.pop (some t)) t fun Y2=>I Y2/\μ Y2<μ Y1):iF B 80 Y c (La Y I):=by
 intro w A h;let⟨g,ag⟩:=aH (w.alloc (bH (jB c) 38));have c1:Bw w g:=by rw[<-ag];exact aI
 let⟨aL,aq,HI,S,aK,H0⟩:=Jh6 h (h.keep c1) hI hf ag h0;have n:(w.alloc (bH #[c.kd,c.id,c.mb,c.ot,c.sc,c.qt,c.pr] 38)).cell? (be A.gy 12)=Y.clock:=by rw[show w.alloc (bH #[c.kd,c.id,c.mb,c.ot,c.sc,c.qt,c.pr] 38)=g from ag];exact aq.o.blk.c 12
 have aF:(w.alloc (bH #[c.kd,c.id,c.mb,c.ot,c.sc,c.qt,c.pr] 38)).frozen? (be A.gy 12)=false:=by rw[show w.alloc (bH #[c.kd,c.id,c.mb,c.ot,c.sc,c.qt,c.pr] 38)=g from ag];exact aq.o.blk.free 12
 have Z:=ok.clock;have aM:wrap64 (Y.clock+1)=Y.clock+1:=aC;have ax:IntKind.i64.wrap (Y.clock+1)=Y.clock+1:=gI _ af;clear h ok hI hf h0 ag;go_enter func80,ntmps80;go_wp2_with fail;rw[show w.alloc (bH #[c.kd,c.id,c.mb,c.ot,c.sc,c.qt,c.pr] 38)=g from aK.o];have aN:Hid (dr B w (g.setCell (be A.gy 12) (Y.clock+1:Int)) A A Y.fq):=aa ((dr.same aL.o c1).bu (aq.o.VS (Y.clock+1)));clear n aF aM ax;generalize g.setCell (be A.gy 12) (Y.clock+1:Int)=W2 at*;go_loopg[] (μ Y.fq) (fun gk wr=>∃(Y1:YS) (A1:YA),I Y1/\μ Y1<=gk/\dr B w wr A A1 Y1);exact⟨Y.fq,A,H0.o,bL _,aN.o⟩;obtain⟨Y1,A1,O,aB,ao⟩:=hrel;let⟨ad,f,aG⟩:=Jh3 ao O aB;let⟨m,y,al⟩:=HI.o _ O;let⟨aS,P⟩:=Jh2 m al;have hG:A1.gy=A.gy:=ao.gy;have H:=aa hG;have aA:=aa (fun(W:bD) (hD:dp W B A1 Y1)=>(ch (show W.cell? (be A.gy 10)=some (ptr A1.gw)from(by rw[<-H.o];exact hD.blk.c 10)) (show W.cell? (be A.gy 12)=some (.int .i64 Y1.clock)from(by rw[<-H.o];exact hD.blk.c 12))));have aj:=aa (fun(W:bD) (A3:YA) (o:Option Tm) (hg:A3.gy=A1.gy) (hw:A3.gw=A1.gw) (hD:dp W B A3 (Y1.pop o))=>(ch (show W.cell? (be A.gy 10)=some (ptr A1.gw)from(by rw[<-H.o,<-hg,<-hw];exact hD.blk.c 10)) (show W.cell? (be A.gy 12)=some (.int .i64 Y1.clock)from(by rw[<-H.o,<-hg];exact hD.blk.c 12))));have c9:Bw wr (aZ wr #[(),(),(),()] 197):=aI;have ap:=aa (ad.o.keep c9);have N:=aA.o wr ad.o.at';have F:=aA.o _ ap.o.at';have M:=aa (fun(W:bD) (hD:dp W B A1 Y1) (q:Nat) (hq:q<W) (hqv:∀k,A1.vt.ownBlock=some k->k≠q)=>Zl rfl hD m.wn q hq hqv);have av:∀k,A1.vt.ownBlock=some k->k≠wr:=fun k hk=>mi (ad.o.at'.ce.own.lt k hk).2;have aD:∀k,A1.vt.ownBlock=some k->k≠A.gy:=fun k hk e=>fp ad.o.at'.blk ad.o.at'.ce.own ah k hk (by rw[e,H.o]);have aw:A.gy<wr:=by rw[<-H.o];exact ad.o.at'.blk.lt
 have ai:=ad.o.at'.lt;clear O aB ao m y al hG;go_wp2;go_region_held3(fun W=>W.cell? (be A.gy 10)=some (ptr A1.gw)/\W.cell? (be A.gy 12)=some (.int .i64 Y1.clock)) (first|exact N|exact F|assumption|exact hA|exact am|go_keep)
  (first|(go_at_call 117;refine(M.o wr.drew ad.o.at'.d A.gy aw aD).bC ?_;rintro e w2⟨o,A3,rfl,a,ac,ae,T,ak⟩;obtain⟨J,s⟩:=aH (Option.getD o oS);obtain⟨b,u⟩:=aH o.isSome;rw[s,u];have C:=aa s;have L:=aa u;have l:=aa a;clear s u;have j:=aa (ad.o.bu (ac.before (bM _ _).drew));have FB:=aa (show bI (aZ w2 #[aY J.dh,aY J.cq,aY J.mem,aY J.fY] 197) w2 197 (dL J)from bI.new w2 197 (dL J));have ab:=aa (j.o.keep ((bM w2 w2).alloc (bL _) (.cells #[aY J.dh,aY J.cq,aY J.mem,aY J.fY] 197)));have z:=j.o.keep ((bM w2 w2).alloc (bL _) (.cells #[(),(),(),()] 197));have R:=aj.o w2 A3 o ac.gy ae j.o.at';have hA:=aj.o _ A3 o ac.gy ae z.at';have am:=aj.o _ A3 o ac.gy ae ab.o.at';obtain⟨X,E⟩:=aH (w2.alloc (bH #[aY J.dh,aY J.cq,aY J.mem,aY J.fY] 197));have an:=aa E;clear E a ac ak z)|(go_at_call 117;refine(M.o (wr.alloc (bH #[(),(),(),()] 197)).drew ap.o.at'.d wr au av).bC ?_;rintro e w2⟨o,A3,rfl,a,ac,ae,T,ak⟩;obtain⟨J,s⟩:=aH (Option.getD o oS);obtain⟨b,u⟩:=aH o.isSome;rw[s,u];have C:=aa s;have L:=aa u;have l:=aa a;clear s u;have G:=ak 197 #[(),(),(),()] ah (bI.d (bI.new wr 197 #[(),(),(),()]));have z0:=G.c 0;have K:=G.c 1;have z2:=G.c 2;have z3:=G.c 3;have f0:=G.free 0;have f1:=G.free 1;have f2:=G.free 2;have f3:=G.free 3;have j:=aa (ap.o.bu (ac.before (bM _ _).drew));have E1:=j.o.at'.Aw G T ai 0 (aY J.dh);have U:=G.set 0 (aY J.dh);have E2:=E1.at'.Aw U T ai 1 (aY J.cq);have M2:=U.set 1 (aY J.cq);have E3:=E2.at'.Aw M2 T ai 2 (aY J.mem);have M3:=M2.set 2 (aY J.mem);have i:=E3.at'.Aw M3 T ai 3 (aY J.fY);have p:=M3.set 3 (aY J.fY);have FB:=aa (show bI _ wr 197 (dL J)from p);have ab:=aa (j.o.bu (E1.bu (E2.bu (E3.bu i))));have R:=aj.o w2 A3 o ac.gy ae j.o.at';have am:=aj.o _ A3 o ac.gy ae ab.o.at';obtain⟨X,E⟩:=aH ((((w2.setCell (be wr 0) (aY J.dh)).setCell (be wr 1) (aY J.cq)).setCell (be wr 2) (aY J.mem)).setCell (be wr 3) (aY J.fY));have an:=aa E;clear E a ac ak E1 E2 E3 i U M2 M3 p))
 all_goals
  clear R am N F c9 av aD aw ai;have aR:=aa (l.o);rw[an.o]at ab FB⊢;clear an;have aJ:X.cell? (be A.gy 12)=some (.int .i64 Y1.clock):=by rw[<-ab.o.gy];exact ab.o.at'.blk.c 12
  cases b with
  |false=>
   have ho:o=none:=by
    have:=L.o
    cases o with
    |none=>rfl
    |some x=>simp at this
   have Q:=aa ho;have HQ:Hid (La Y I Y1.clock 0 (Y1.pop o)):=aa ⟨P.o,rfl,Y1,f.o,by rw[<-Q.o];exact l.o,by rw[Q.o]⟩;have HK:Hid (dv (Y1.pop o)/\(Y1.pop o).log.length+(Y1.pop o).D.log.length<=999000):=aa (by rw[Q.o];exact⟨(HI.o _ f.o).1,(HI.o _ f.o).2.1⟩);clear ho;go_wp2_with fail;refine wb (v:=.tuple #[aY Y1.clock,()]) (by simp[results,results80,go_sem]) rfl ?_;exact⟨_,0,A3,_,rfl,ab.o,HK.o.1,HK.o.2,HQ.o⟩
  |true=>
   have ho:o=some J:=by
    have h1:=L.o;have h2:=C.o;cases o with
    |none=>simp at h1
    |some x=>simpa using h2
   have V:=aa (S.o Y1 J f.o (by rw[<-ho];exact l.o) X A3 (by rw[<-ho];exact ab.o.at'));have aP:=aa ab.o.gy;have ay:Hid (bG 118 #[ptr A.gy,kM J] X fun e w'=>∃A' Y',e=.returned (.tuple #[])/\dr B X w' A3 A' Y'/\I Y'/\μ Y'<μ Y1):=aa (by rw[<-aP.o];exact V.o);let⟨x0,x1,x2,x3⟩:X.cell? ⟨_,0,none⟩=some (.int .i64 J.dh)/\X.cell? ⟨_,1,none⟩=some (.int .i64 J.cq)/\X.cell? ⟨_,2,none⟩=some (.int .i64 J.mem)/\X.cell? ⟨_,3,none⟩=some (.int .i64 J.fY):=⟨FB.o.c 0,FB.o.c 1,FB.o.c 2,FB.o.c 3⟩;clear ho V aJ;go_wp2_with(go_at_call 118;refine ay.o.bC ?_;rintro e w6⟨A6,Y6,rfl,r,az,ar⟩;have aQ:=aa (ab.o.bu r);have aO:=aa az;have aE:=aa (iN ar aG.o);clear r az ar);go_roundg(μ Y6)
   case measure=>exact aE.o
   case rel=>exact⟨Y6,A6,aO.o,bL _,aQ.o⟩
def Zm(h:dp w B A Y):bG 22 #[ptr A.gy] w (bj Y.phase w):=by have J:w.cell? (be A.gy 11)=Y.phase:=h.blk.c 11;clear h;go_enter func22,ntmps22;go_wp2;go_ret;exact⟨rfl,rfl⟩
def Zn(h:dp w B A Y)(ok:dv Y):bG 19 #[ptr A.gy] w (ki eS 71 6 Y.D.bQ w):=by have s:w.cell? (be A.gy 8)=some (ptr A.D.gd):=h.blk.c 8;have a:=aa (KF h.dg ok.ez);clear h ok;go_enter func19,ntmps19;go_wp2_with(go_at_call 52;refine a.o.bC ?_;rintro e k⟨v,rfl,J,u⟩;have Q:=aa J;have N:=aa u);go_ret;exact⟨_,rfl,Q.o,N.o⟩
def Zo(h:dp w B A Y)(ok:dv Y)(a:Ac)(bK:Int):bG 28 #[ptr A.gy,fo a,bK] w (bi (bg (Y.D.uF a bK)) w):=Ox A.gy A.D.gd _ rfl a bK _ _ w h.blk fun W hW=>Uv (h.keep hW).dg ok.ez a bK
