/- Lemmas for TopShares and TopKept; no law is closed here. -/
import Derived.Test.YtmhohaanddglbaaGreatDoorM02
import Derived.Deep.RegionHeldLaw
set_option linter.all false
set_option maxRecDepth 100000
set_option maxHeartbeats 16000000
namespace Go.Proofs.YtmhohaanddglbaaGreatDoor
open Go.RowKit Go.Proofs.Tryz ZA ZU ZI ZD ZP ZR ZT ZS ZE ZO
variable{p:Prop}
def Qaa(h:p:=by
  let⟨A,r0,p0,e8,e9,ak,O,S,KM⟩:=I.o.guess (R:=R) G;have X:=aa g;have T:=aa (show R<4294967296*y1+y0 by rw[<-I.o.hY];exact G);let⟨QX,O,S,KM⟩:=Jh4 aj O S KM;clear g G HQ aj;go_wp2;go_loopw[18,16] (fun va vb wx=>∃q r:Nat,va=.int .u64 q/\vb=.int .u64 r/\q<=4294967297/\r<4294967296/\KI R u0 y1 y0 q r/\wx=wr) (fun va _ _=>(intOf va).toNat);exact⟨A,r0,rfl,rfl,S.o,KM.o,O.o,aE⟩;obtain⟨H,P,rfl,rfl,F,hr,hk,rfl⟩:=hrel;have ad:=aa hk;clear hk;have D:=T.o;by_cases hB:4294967296<=H
  ·let⟨h,g2⟩:=ad.o.next D n.1 i (bS hB);have x:4294967296<=(H:Int):=af;have ac:=sO h af;have a:=sP (q:=P) (r:=y1) af;have C:=aa g2;let⟨c,m⟩:=aH (H-1);let⟨b,ab⟩:=aH (P+y1);rw[m]at ac C;rw[ab]at a C;have E:c<=4294967296:=af;have J:c<H:=af;have br:b<8589934592:=af;clear hB m ab h g2 D;by_cases hR:4294967296<=b
   ·have Q:4294967296<=(b:Int):=af;have HQ:=aa (C.o.brk n.1 M hR E);clear hR;obtain⟨Z,q4,⟨ai,ag,ah,ae⟩,x2,x3⟩:=I.o.last (p:=c) QX.o X.o (by rw[I.o.hY];exact HQ.o) HQf.o HRf.o;go_wp2;go_ret2;exact⟨rfl,rfl⟩
   ·have Q:¬4294967296<=(b:Int):=af;go_wp2;go_roundw;exact⟨c,b,rfl,rfl,af,af,C.o,aE⟩;exact aV
  ·have x:¬4294967296<=(H:Int):=af;let⟨t1,t2,K⟩:=zJ (u1:=u0) n.2 M i (r:=P) (q:=H) af af;by_cases f:4294967296*P+u0<H*y0
   ·let⟨h,g2⟩:=ad.o.next D n.1 i (ci f);have ac:=sO h af;have a:=sP (q:=P) (r:=y1) af;have C:=aa g2;let⟨c,m⟩:=aH (H-1);let⟨b,ab⟩:=aH (P+y1);rw[m]at ac C;rw[ab]at a C;have E:c<=4294967296:=af;have J:c<H:=af;have br:b<8589934592:=af;let⟨a',k⟩:=aH (H*y0);let⟨c',L⟩:=aH (4294967296*P);rw[k]at t1 f;rw[L]at t2 K f;let⟨d,B⟩:=aH (c'+u0);rw[B]at K f;have l:(d:Int)<(a':Int):=af;clear hB m ab h g2 D f k L B;by_cases hR:4294967296<=b
    ·have Q:4294967296<=(b:Int):=af;have HQ:=aa (C.o.brk n.1 M hR E);clear hR;obtain⟨Z,q4,⟨ai,ag,ah,ae⟩,x2,x3⟩:=I.o.last (p:=c) QX.o X.o (by rw[I.o.hY];exact HQ.o) HQf.o HRf.o;go_wp2;go_ret2;exact⟨rfl,rfl⟩
    ·have Q:¬4294967296<=(b:Int):=af;go_wp2;go_roundw;exact⟨c,b,rfl,rfl,af,af,C.o,aE⟩;exact aV
   ·have HQ:=aa (ad.o.uC n.1 af);let⟨a',k⟩:=aH (H*y0);let⟨c',L⟩:=aH (4294967296*P);rw[k]at t1 f;rw[L]at t2 K f;let⟨d,B⟩:=aH (c'+u0);rw[B]at K f;have l:¬(d:Int)<(a':Int):=af;clear hB D f k L B;obtain⟨Z,q4,⟨ai,ag,ah,ae⟩,x2,x3⟩:=I.o.last (p:=H) QX.o X.o (by rw[I.o.hY];exact HQ.o) HQf.o HRf.o;go_wp2;go_ret2;exact⟨rfl,rfl⟩):p:=h
def Qac(h:p:=by
  refine AllReadyH.cons rfl (fun KQ hKQ=> ?_) AllReadyH.nil;go_simp;refine hKQ.out _ _ (by(try dsimp only);first|exact ag|exact E|exact ak|assumption|go_keep) (fun hHeld2=> ?_);clear hKQ KQ;refine wpAnyH_ready (rs:=[14]) aj au ?_;refine AllReadyH.cons rfl (fun KQ hKQ=> ?_) AllReadyH.nil
  (refine lV il ah xQ _ aB _ _ 64 aB B 71 i0 (.agg #[(),(),(),(),(),()]) 48 underlying64 hi aU a5 a2 aB (.slice n L m) L aB (by exact ac.o.own.alloc _) (some (be X 0)) 1 1 [jK cycle x] aB aB (by exact Sl.qr eS il X 71 (jK cycle x) (cs:=#[cycle,.int .i64 x.mem,.int .i64 x.bK,.int .i64 x.bJ,(),(1:Int)]) rfl) aP aO aA ?_;intro v' w5 ai ab M;have g:=aa (uw (w:=X.alloc (bH #[cycle,aY x.mem,aY x.bK,aY x.bJ,(),(1:Int)] 71)) (off:=0) (K:=K) (ac.o.blk.alloc _) (by exact ac.o.own.alloc _) (by exact⟨ab.os,ab.tape,ab.output,ab.size,ab.block⟩) ai (by exact M) ah ac.o.l1 hKg ax.o);have B2:=aa (bI.grown (w:=X.alloc (bH #[cycle,aY x.mem,aY x.bK,aY x.bJ,(),(1:Int)] 71)) (ac.o.blk.alloc _) (by exact ac.o.own.alloc _) (by exact⟨ab.os,ab.tape,ab.output,ab.size,ab.block⟩) ah);have C:=ai;rw[aT.o]at C;obtain⟨A,k3,rfl⟩:=bV C;clear C;have z0:=B2.o.c 0;have z1:=B2.o.free 0;have C2:=bI.grown (w:=X.alloc (bH #[cycle,aY x.mem,aY x.bK,aY x.bJ,(),(1:Int)] 71)) (Q.o.alloc _) (by exact ac.o.own.alloc _) (by exact⟨ab.os,ab.tape,ab.output,ab.size,ab.block⟩) ah;have C3:=bI.grown (w:=X.alloc (bH #[cycle,aY x.mem,aY x.bK,aY x.bJ,(),(1:Int)] 71)) (u.o.alloc _) (by exact ac.o.own.alloc _) (by exact⟨ab.os,ab.tape,ab.output,ab.size,ab.block⟩) ah;have E:=ch (C2.c 0) (ch (C3.c 0) (ch (C3.c 1) (C3.c 2)));have s:=C2.far (k:=gs) 0 (.slice A N k3) aD;have J:=C3.far (k:=gs) 0 (.slice A N k3) az;have ak:=ch (s.c 0) (ch (J.c 0) (ch (J.c 1) (J.c 2))))
  refine hKQ.out _ _ (by(try dsimp only);first|exact ag|exact E|exact ak|assumption|go_keep) (fun hHeld2=> ?_);clear hKQ KQ;refine wpAnyH_take (i:=15) (oi:=_) (v:= ?_) rfl aj aj aj (fun _ _ _ h=>h) (bS ⟨aB, ?_⟩) aF ?_;rotate_left
  ·(intro w H;(try dsimp only at H);go_simp;try with_reducible rfl)
  simp only[Act.put,jd,iO,iP];refine wpAnyH_take (i:=16) (oi:=_) (v:= ?_) rfl aj aj aj (fun _ _ _ h=>h) (bS ⟨aB, ?_⟩) aF ?_;rotate_left
  ·(intro w H;(try dsimp only at H);go_simp;try with_reducible rfl)
  simp only[Act.put,jd,iO,iP];refine wpAnyH_ready (rs:=[17]) aj au ?_;refine AllReadyH.cons rfl (fun KQ hKQ=> ?_) AllReadyH.nil;go_simp;refine hKQ.out _ _ (by(try dsimp only);first|exact ag|exact E|exact ak|assumption|go_keep) (fun hHeld2=> ?_);clear hKQ KQ;refine wpAnyH_done aj ?_ _;clear ab M ai z0 z1 B2 P a3 b1 t b3 G ag E ak C2 C3 s J;generalize(w5.setCell (be gs 0) (.slice A N k3))=Y at*
  go_wp2;go_roundw;exact⟨q+1,.slice A N k3,af,aw,⟨g.o.blk,by rw[<-aR.o];exact g.o.own,ac.o.l1⟩,(aL.o.bu (cg.below aI)).bu g.o.mod,p.o.IG g.o.goes aA⟩;exact aV):p:=h
def Qam(h:p:=by go_wp2_with(first|(go_at_call 343;refine E.o.bC ?_;rintro e V⟨v1,rfl,Z,H⟩;have O1:=aa (Sl.own eG Z);have U:=aa (P.o.keep H);have ad:=A.bu (H.bC A.size);obtain⟨a1,K,rfl⟩:=bV Z;clear Z H)|(go_at_call 342;have _t:=ab;refine(wv _ _ a _ O1.o y d).bC ?_;rintro e x2⟨rfl,c2⟩;rw[s.o];have O:=aa (U.o.keep c2);have ac:=ad.bu (c2.bC ad.size);clear c2 ab)|(go_at_call 344;refine(DB _ _ _ O.o ae c).bC ?_;rintro e x3⟨u,rfl,S,F⟩;have Y:=aa (Sl.own eG S);have f:=ac.bu (F.bC ac.size);obtain⟨D,z3,rfl⟩:=bV S;clear S F)|(go_at_call 342;refine(wv _ _ a _ Y.o z h3).bC ?_;rintro e R⟨rfl,p⟩;rw[m.o];have i:=f.bu (p.bC f.size);clear p));go_ret3;exact⟨by rw[T.o];rfl,i⟩):p:=h
def Qaz(h:p:=by
  by_cases hR:4294967296<=b
  ·have Q:4294967296<=(b:Int):=af;have HQ:=aa (C.o.brk n.1 M hR E);clear hR;obtain⟨R,g,G,aj,E1⟩:=I.o.first (q:=c) (by rw[I.o.hY];exact HQ.o);exact Qaa
  ·have Q:¬4294967296<=(b:Int):=af;go_wp2;go_roundw;exact⟨c,b,rfl,rfl,af,af,C.o,aE⟩;exact aV):p:=h
def QaP(h:p:=by
  let⟨o,r,Q⟩:=a i;have P:=f i hi;generalize(((who.take (t-cd (dH t s W)).toNat).count i:Nat):Int)=c at*
  rw[Int.add_mul,Int.mul_comm (t*W.getD i 0/s)];rcases P with rfl|⟨rfl,_⟩<;>omega):p:=h
def Qbe(h:p:=by go_enter func202,ntmps202;go_wp2_with(go_at_call 245;refine N.o.bC ?_;rintro e i⟨rfl,b⟩;rw[U.o]);go_ret2;exact⟨by rw[q.o];rfl,b⟩):p:=h
def Qbg(h:p:=by go_enter func346,ntmps346;go_wp2;go_ret;exact⟨by rw[Q.o,K.o];rfl,C⟩):p:=h
def Qbu(h:p:=by go_wp2;go_region;go_wp2;go_ret;exact⟨by rw[S.o];rfl,t.drew⟩):p:=h
def QbW(h:p:=by go_wp2;go_roundw;exact⟨N.o.alloc g _,k+1,_,af,aw,rfl,by unfold bO wrap64;omega⟩;exact aV):p:=h
def Qb0(h:p:=by intro u X;simp at X;subst X;rfl):p:=h
def Qb4(h:p:=by obtain⟨y,B,rfl⟩:=Fy.1 hx;exact Int.ediv_nonneg (ud ht (hp y B)) (Int.le_of_lt hs)):p:=h
def Qca(h:p:=by go_wp2_with(fail);go_roundw;exact⟨k+1,af,aw,by rw[I.o];exact N.o,b2⟩;exact aV):p:=h
def Qcc(h:p:=by exact Q.o.alloc _):p:=h
def Qcz(h:p:=by clear D;go_enter func360,ntmps360;go_wp2;go_ret2;exact⟨rfl,bM _ _⟩):p:=h
def QcA(h:p:=by have h2:=ac.o.blk;rw[e]at h1;unfold bI at h1 h2;rw[h1]at h2;simp at h2):p:=h
def QcT(h:p:=by have:=L.size;show b<wr.heap.size;omega):p:=h
def Qc5(h:p:=by intro u hu;simp at hu;subst hu;rfl):p:=h
def jJ(n:Nat)(h:n<18446744073709551616):IntKind.u64.wrap n=(n:Int):=by simp only[IntKind.wrap,IntKind.signed,IntKind.bits];simp;omega
structure sN(hi lo y s Y y1 y0 u v u1 u0:Nat):Prop where
 sl:s<64
 hy:IntKind.u64.wrap ((y:Int)*2^s)=(Y:Int)
 hY:Y=4294967296*y1+y0
 b1:2147483648<=y1/\y1<4294967296
 b0:y0<4294967296
 hu:bits BinOp.or IntKind.u64 (IntKind.u64.wrap ((hi:Int)*2^s)) ((lo:Int)/2^(64-s))=(u:Int)
 hv:IntKind.u64.wrap ((lo:Int)*2^s)=(v:Int)
 hV:v=4294967296*u1+u0
 c1:u1<4294967296
 c0:u0<4294967296
 lt:u<Y
def Ip(x a b:Nat)(h:x=4294967296*a+b)(h1:a<4294967296)(h2:b<4294967296):(x:Int)/4294967296=(a:Int)/\bits BinOp.and IntKind.u64 (x:Int) 4294967295=(b:Int):=by
 refine⟨af, ?_⟩;refine(bits_and_u64_nat x 4294967295 af ah).bu ?_;have:=Nat.and_two_pow_sub_one_eq_mod x 32
 simp only[Nat.reducePow,Nat.reduceSub]at this;rw[this];omega
variable{u1 y1 y0 q r:Nat}
def zJ(h1:y1<4294967296)(h0:y0<4294967296)(hu1:u1<4294967296)(hr:r<4294967296)(hq:q<4294967296):IntKind.u64.wrap ((q:Int)*(y0:Int))=((q*y0:Nat):Int)/\IntKind.u64.wrap (4294967296*(r:Int))=((4294967296*r:Nat):Int)/\IntKind.u64.wrap (((4294967296*r:Nat):Int)+(u1:Int))=((4294967296*r+u1:Nat):Int):=by
 have h:q*y0<=4294967295*4294967295:=qm af af;refine⟨?_, ?_, ?_⟩
 ·rw[<-Int.natCast_mul];exact jJ _ af
 ·have:=jJ (4294967296*r) af
  simpa using this
 ·have:=jJ (4294967296*r+u1) af
  simpa using this
def Iq(u u1 q Y:Nat)(h2:(4294967296*u+u1)%Y<18446744073709551616)(hq:q=(4294967296*u+u1)/Y):IntKind.u64.wrap (IntKind.u64.wrap (IntKind.u64.wrap ((u:Int)*4294967296)+(u1:Int))-IntKind.u64.wrap ((q:Int)*(Y:Int)))=(((4294967296*u+u1)%Y:Nat):Int):=by
 have h:=Nat.mod_add_div (4294967296*u+u1) Y;rw[<-hq,ql Y q]at h;rw[<-Int.natCast_mul];generalize q*Y=a at*;generalize(4294967296*u+u1)%Y=r at*
 simp only[IntKind.wrap,IntKind.signed,IntKind.bits];simp;omega
def sO(h:0<q)(h2:q<18446744073709551616):IntKind.u64.wrap ((q:Int)-1)=((q-1:Nat):Int):=by
 have:(q:Int)-1=((q-1:Nat):Int):=af
 rw[this];exact jJ _ af
def sP(h:q+r<18446744073709551616):IntKind.u64.wrap ((q:Int)+(r:Int))=((q+r:Nat):Int):=by rw[<-Int.natCast_add];exact jJ _ h
variable{hi lo y Y v u0:Nat}
def sN.first{s u:Nat}(N:sN hi lo y s Y y1 y0 u v u1 u0)(hq:q=(4294967296*u+u1)/Y):∃R,(4294967296*u+u1)%Y=R/\R<Y/\(q=(4294967296*u+u1)/Y)/\IntKind.u64.wrap (IntKind.u64.wrap (IntKind.u64.wrap ((u:Int)*4294967296)+(u1:Int))-IntKind.u64.wrap ((q:Int)*(Y:Int)))=(R:Int):=by
 have a:0<Y:=by have:=N.hY;have:=N.b1;omega
 have S:=nI (4294967296*u+u1) a;have b:Y<18446744073709551616:=by have:=N.hY;have:=N.b1;have:=N.b0;omega
 exact⟨_,rfl,S,hq,Iq u u1 q Y af hq⟩
def sN.guess{s u R:Nat}(N:sN hi lo y s Y y1 y0 u v u1 u0)(hR:R<Y):∃q0 r0 p0:Nat,IntKind.u64.wrap ((R:Int)/(y1:Int))=(q0:Int)/\IntKind.u64.wrap ((q0:Int)*(y1:Int))=(p0:Int)/\IntKind.u64.wrap ((R:Int)-(p0:Int))=(r0:Int)/\KI R u0 y1 y0 q0 r0/\q0<=4294967297/\r0<4294967296:=by
 let⟨H,n,M⟩:=Jt3 N.hY N.b1 N.b0;let⟨I,K⟩:=KI.start (u:=R) (u1:=u0) (y1:=y1) (y0:=y0) af n.1 M N.c0;have l:=Nat.div_add_mod R y1;have b:R/y1<=R:=Nat.div_le_self _ _;have a:=nI R (show 0<y1 from af);have j:R/y1*y1<=R:=Nat.div_mul_le_self _ _;refine⟨R/y1,R%y1,R/y1*y1, ?_, ?_, ?_,I,K,af⟩
 ·rw[<-Int.natCast_ediv];exact jJ _ af
 ·rw[<-Int.natCast_mul];exact jJ _ af
 ·have:(R:Int)-((R/y1*y1:Nat):Int)=((R%y1:Nat):Int):=by
   rw[ql]at l;omega
  rw[this];exact jJ _ af
def sN.last{s u R p Qf Rf:Nat}(N:sN hi lo y s Y y1 y0 u v u1 u0)(hq:q=(4294967296*u+u1)/Y)(hR:(4294967296*u+u1)%Y=R)(hp:p=(4294967296*R+u0)/Y)(hQf:4294967296*((4294967296*u+u1)/Y)+(4294967296*((4294967296*u+u1)%Y)+u0)/Y=Qf)(hRf:(4294967296*((4294967296*u+u1)%Y)+u0)%Y/2^s=Rf):
  ∃Z q4:Nat,((q:Int)*4294967296=(q4:Int)/\IntKind.u64.wrap q4=(q4:Int)/\(q4:Int)+p=(Qf:Int)/\IntKind.u64.wrap Qf=(Qf:Int))/\IntKind.u64.wrap (IntKind.u64.wrap (IntKind.u64.wrap ((R:Int)*4294967296)+(u0:Int))-IntKind.u64.wrap ((p:Int)*(Y:Int)))=(Z:Int)/\(Z:Int)/2^s=(Rf:Int):=by
 have a:0<Y:=by have:=N.hY;have:=N.b1;omega
 have f:Y<18446744073709551616:=by have:=N.hY;have:=N.b1;have:=N.b0;omega
 let⟨S,b,d,c,x⟩:=Jt5 (nI (4294967296*R+u0) a) (nI (4294967296*u+u1) a) N.lt N.c1 N.c0;have E:q<4294967296:=by rw[hq,qV a];omega
 have g:p<4294967296:=by rw[hp,qV a];omega
 rw[hR,<-hq,<-hp]at hQf;rw[hR]at hRf;refine⟨(4294967296*R+u0)%Y,4294967296*q,⟨af,jJ _ af,af,jJ _ af⟩,Iq R u0 p Y af hp, ?_⟩;rw[<-hRf];simp
def Se{s u Qf Rf:Nat}(N:sN hi lo y s Y y1 y0 u v u1 u0)(HQf:Hid (4294967296*((4294967296*u+u1)/Y)+(4294967296*((4294967296*u+u1)%Y)+u0)/Y=Qf))(HRf:Hid ((4294967296*((4294967296*u+u1)%Y)+u0)%Y/2^s=Rf))(h1:hi<y)(h0:0<hi)(w:bD)(HL:bG 410 #[aX y] w (bj s w))(hl:lo<18446744073709551616)(hyy:y<18446744073709551616):
  bG 409 #[aX hi,aX lo,aX y] w (bj (.tuple #[aX Qf,aX Rf]) w):=by
 have I:=aa N;have b1:((y:Int)==0)=false:=aA;have b2:¬(y<=(hi:Int)):=af;have V:((hi:Int)==0)=false:=aA;have e1:=N.hy;let⟨e2,e3⟩:=Ip Y y1 y0 N.hY N.b1.2 N.b0;have U:=N.hu;have e5:=N.hv;let⟨e6,e7⟩:=Ip v u1 u0 N.hV N.c1 N.c0;let⟨n,M,al,i,ap,W⟩:=Jt6 N.b1 N.b0 N.c1 N.c0 N.lt N.sl;obtain⟨k0,k1⟩:=KI.start (u:=u) (u1:=u1) (y1:=y1) (y0:=y0) (by have:=N.hY;omega) n.1 M al;have hd:=Nat.div_add_mod u y1;have aq:u/y1<=u:=Nat.div_le_self _ _;have ar:Y<18446744073709551616:=by have:=N.hY;omega
 have an:=nI u (show 0<y1 from af);have e8:IntKind.u64.wrap ((u:Int)/(y1:Int))=((u/y1:Nat):Int):=by
  rw[<-Int.natCast_ediv];exact jJ _ af
 have j:u/y1*y1<=u:=Nat.div_mul_le_self _ _;have e9:IntKind.u64.wrap (((u/y1:Nat):Int)*(y1:Int))=((u/y1*y1:Nat):Int):=by
  rw[<-Int.natCast_mul];exact jJ _ af
 have ak:IntKind.u64.wrap ((u:Int)-((u/y1*y1:Nat):Int))=((u%y1:Nat):Int):=by
  have:(u:Int)-((u/y1*y1:Nat):Int)=((u%y1:Nat):Int):=by
   rw[ql]at hd;omega
  rw[this];exact jJ _ af
 let⟨O,S,KM⟩:=Jh3 k0 k1 an;have z:¬((y1:Int)=0):=af;let⟨A,am⟩:∃q,u/y1=q:=⟨_,rfl⟩;let⟨r0,t⟩:∃q,u%y1=q:=⟨_,rfl⟩;rw[am]at e8 e9 O S;rw[am,t]at ak;rw[t]at O KM;let⟨p0,ao⟩:∃q,A*y1=q:=⟨_,rfl⟩;rw[ao]at e9 ak;clear k0 k1 hd aq an j am t ao N;go_enter func409,ntmps409;go_wp2_with(go_at_call 410;refine HL.bC ?_;rintro e w1⟨rfl,rfl⟩);go_loopw[15,16] (fun va vb wr=>∃q r:Nat,va=.int .u64 q/\vb=.int .u64 r/\q<=4294967297/\r<4294967296/\KI u u1 y1 y0 q r/\wr=w1) (fun va _ _=>(intOf va).toNat);exact⟨A,r0,rfl,rfl,S.o,by have:=KM.o;omega,O.o,rfl⟩;obtain⟨q,r,rfl,rfl,F,hr,hk,rfl⟩:=hrel;have rK:=aa hk;have HU:Hid (u<4294967296*y1+y0):=aa (by rw[<-I.o.hY];exact ap);clear hk;have D:=HU.o;by_cases hB:4294967296<=q
 ·let⟨h,g2⟩:=rK.o.next D n.1 al (bS hB);have x:4294967296<=(q:Int):=af;have ac:=sO h af;have a:=sP (q:=r) (r:=y1) af;have C:=aa g2;let⟨c,m⟩:=aH (q-1);let⟨b,ab⟩:=aH (r+y1);rw[m]at ac C;rw[ab]at a C;have E:c<=4294967296:=af;have J:c<q:=af;have br:b<8589934592:=af;clear hB m ab h g2 D;exact Qaz
 ·have x:¬4294967296<=(q:Int):=af;let⟨t1,t2,K⟩:=zJ (u1:=u1) n.2 M al (r:=r) (q:=q) af af;by_cases f:4294967296*r+u1<q*y0
  ·let⟨h,g2⟩:=rK.o.next D n.1 al (ci f);have ac:=sO h af;have a:=sP (q:=r) (r:=y1) af;have C:=aa g2;let⟨c,m⟩:=aH (q-1);let⟨b,ab⟩:=aH (r+y1);rw[m]at ac C;rw[ab]at a C;have E:c<=4294967296:=af;have J:c<q:=af;have br:b<8589934592:=af;let⟨a',k⟩:=aH (q*y0);let⟨c',L⟩:=aH (4294967296*r);rw[k]at t1 f;rw[L]at t2 K f;let⟨d,B⟩:=aH (c'+u1);rw[B]at K f;have l:(d:Int)<(a':Int):=af;clear hB m ab h g2 D f k L B;exact Qaz
  ·have HQ:=aa (rK.o.uC n.1 af);let⟨a',k⟩:=aH (q*y0);let⟨c',L⟩:=aH (4294967296*r);rw[k]at t1 f;rw[L]at t2 K f;let⟨d,B⟩:=aH (c'+u1);rw[B]at K f;have l:¬(d:Int)<(a':Int):=af;clear hB D f k L B;obtain⟨R,g,G,aj,E1⟩:=I.o.first (q:=q) (by rw[I.o.hY];exact HQ.o);exact Qaa
section
attribute [local go_sem ↓] wp_at_zero wp_at_succ
def Sf:∀(n x:Nat),x<=n->0<x->x<18446744073709551616->2^(Lib.bitLen x-1)<=x/\x<2^Lib.bitLen x/\1<=Lib.bitLen x:=by
 intro n;induction n with
 |zero=>intro x h O;omega
 |succ n ih=>
  intro x H O u;have e:=Lib.bitLen_half x af u;rw[e];by_cases c:x/2=0
  ·rw[c,show Lib.bitLen 0=0 from rfl];simp;omega
  ·let⟨G,a,f⟩:=ih (x/2) af af af;let⟨k,b⟩:∃k,Lib.bitLen (x/2)=k+1:=⟨Lib.bitLen (x/2)-1,af⟩;rw[b]at G a⊢;rw[yP]at G;rw[show 1+(k+1)-1=k+1 by omega,show 1+(k+1)=(k+1)+1 by omega];rw[Nat.pow_succ 2 (k+1)];rw[Nat.pow_succ]at a⊢;omega
def Sg(h:hi<y)(hl:lo<18446744073709551616)(hy:y<18446744073709551616):∃s Y y1 y0 u v u1 u0:Nat,(s:Int)=64-(Lib.bitLen y:Int)/\sN hi lo y s Y y1 y0 u v u1 u0/\
  4294967296*((4294967296*u+u1)/Y)+(4294967296*((4294967296*u+u1)%Y)+u0)/Y=(hi*18446744073709551616+lo)/y/\(4294967296*((4294967296*u+u1)%Y)+u0)%Y/2^s=(hi*18446744073709551616+lo)%y:=by
 let⟨z,t,V⟩:=Sf y y (bL _) af hy;have G:=Lib.bitLen_le y 64 (bL _) af;let⟨k,E⟩:∃k,Lib.bitLen y=k+1:=⟨Lib.bitLen y-1,af⟩;rw[E]at z t V G⊢;rw[yP]at z;let⟨s,L⟩:=aH (63-k);have o:2^k*2^s=9223372036854775808:=by rw[<-Nat.pow_add,show k+s=63 from af]
 have r:2^(k+1)*2^s=18446744073709551616:=by rw[<-Nat.pow_add,show k+1+s=64 from af]
 have Q:2^(64-s)*2^s=18446744073709551616:=by rw[<-Nat.pow_add,show 64-s+s=64 from af]
 have q:0<2^s:=Nat.pow_pos ah;have p:0<2^(64-s):=Nat.pow_pos ah;have C:9223372036854775808<=y*2^s:=by rw[<-o];exact lT _ z
 have O:y*2^s<18446744073709551616:=by rw[<-r];exact yM t q
 have b:hi*2^s<18446744073709551616:=tZ (lT _ (pE h)) O;have B:lo/2^(64-s)<2^s:=by rw[qV p,ql,Q];exact hl
 have g:hi*2^s|||lo/2^(64-s)=hi*2^s+lo/2^(64-s):=by
  rw[ql hi];exact(Nat.two_pow_add_eq_or_of_lt B hi).symm
 have Z:=Nat.mod_add_div lo (2^(64-s));have i:=nI lo p;let⟨m,j⟩:=aH (lo%2^(64-s));let⟨d,P⟩:=aH (lo/2^(64-s));rw[j,P]at Z;rw[j]at i;rw[P]at B g;have R:lo*2^s=18446744073709551616*d+m*2^s:=by
  rw[<-Z,pF,Nat.mul_right_comm,Q];omega
 have D:m*2^s<18446744073709551616:=by rw[<-Q];exact yM i q
 have f:(hi*18446744073709551616+lo)*2^s=18446744073709551616*(hi*2^s+d)+m*2^s:=by
  rw[pF,R,Nat.mul_right_comm];omega
 have A:hi*2^s+d<y*2^s:=by
  have c:hi*2^s+2^s<=y*2^s:=by
   have:=lT (2^s) (show hi+1<=y from h)
   rw[pF,sf]at this;exact this
  omega
 have l:4294967296*(4294967296*(hi*2^s+d)+m*2^s/4294967296)+m*2^s%4294967296=(hi*18446744073709551616+lo)*2^s:=by
  rw[f];generalize m*2^s=v;omega
 have a:=Sa (hi*2^s+d) (m*2^s/4294967296) (m*2^s%4294967296) (y*2^s) af;rw[l]at a;have n:=Sb (hi*18446744073709551616+lo) y (2^s) q;refine⟨s,y*2^s,y*2^s/4294967296,y*2^s%4294967296,hi*2^s+d,m*2^s,m*2^s/4294967296,m*2^s%4294967296,af,⟨af, ?_,af,af,af, ?_, ?_,af,af,af,A⟩, ?_, ?_⟩
 ·have:=jJ (y*2^s) O
  simpa using this
 ·have F:=jJ (hi*2^s) b;have c:(hi:Int)*2^s=((hi*2^s:Nat):Int):=au;have x:(lo:Int)/2^(64-s)=((lo/2^(64-s):Nat):Int):=au;rw[c,F,x,P,bits_or_u64_nat _ _ b af,g]
 ·have c:(lo:Int)*2^s=((lo*2^s:Nat):Int):=au;rw[c,R];generalize m*2^s=v at*;simp only[IntKind.wrap,IntKind.signed,IntKind.bits];simp;omega
 ·rw[<-a.1,n.1]
 ·rw[<-a.2,n.2,Nat.mul_div_cancel _ q]
def Sh(hi lo y:Nat)(h:hi<y)(hl:lo<18446744073709551616)(hy:y<18446744073709551616)(w:bD):bG 409 #[aX hi,aX lo,aX y] w fun e w'=>e=.returned (.tuple #[aX (((hi*18446744073709551616+lo)/y:Nat):Int),aX (((hi*18446744073709551616+lo)%y:Nat):Int)])/\∃n,w'=w.drewN n:=by
 rcases tX hi with h0|h0
 ·subst h0;have z:((y:Int)==0)=false:=aA;have t:¬((y:Int)<=0):=af;have V:¬((y:Int)=0):=af;let⟨Q,A⟩:=aH (lo/y);let⟨R,M⟩:=aH (lo%y);have S:Q<=lo:=by rw[<-A];exact Nat.div_le_self _ _
  have c:R<y:=by rw[<-M];exact nI _ h
  have o:IntKind.u64.wrap ((lo:Int)/(y:Int))=(Q:Int):=by rw[<-Int.natCast_ediv,A];exact jJ _ af
  have r:IntKind.u64.wrap ((lo:Int)%(y:Int))=(R:Int):=by rw[<-Int.natCast_emod,M];exact jJ _ af
  have d:IntKind.u64.wrap ((lo:Int).tdiv (y:Int))=(Q:Int):=by rw[<-Int.ofNat_tdiv,A];exact jJ _ af
  have U:IntKind.u64.wrap ((lo:Int).tmod (y:Int))=(R:Int):=by rw[<-Int.ofNat_tmod,M];exact jJ _ af
  have a:(lo:Int)/y=(Q:Int):=by rw[<-Int.natCast_ediv,A]
  have f:(lo:Int)%y=(R:Int):=by rw[<-Int.natCast_emod,M]
  rw[show 0*18446744073709551616+lo=lo from af,A,M];clear A M;go_enter func409,ntmps409;go_wp2;go_region
  all_goals
   go_wp2;go_ret2;exact⟨by first|rfl|(rw[f];rfl)|(simp only[f];rfl),_,rfl⟩
 ·let⟨s,Y,b,x,u,v,u1,u0,L,N,A,M⟩:=Sg h hl hy;have p:=Tryz.bits_LeadingZeros64 (y:Int) w af af;rw[show((y:Int).toNat)=y by simp,<-L]at p;refine(Se N (aa A) (aa M) h h0 w p hl hy).bC ?_;rintro e w'⟨rfl,rfl⟩;exact⟨rfl,0,rfl⟩
def Si(a b:Nat)(ha:a<18446744073709551616)(hb:b<18446744073709551616)(w:bD):bG 408 #[aX a,aX b] w (bi (.agg #[aX ((a*b/18446744073709551616:Nat):Int),aX ((a*b%18446744073709551616:Nat):Int)]) w):=by let⟨p,u⟩:∃x,a*b/18446744073709551616=x:=⟨_,rfl⟩;let⟨c,S⟩:∃x,a*b%18446744073709551616=x:=⟨_,rfl⟩;have G:=fun W=>Tryz.bits_Mul64 a b ha hb W;rw[u,S]at G;have G:=aa G;rw[u,S];clear u S;go_enter func408,ntmps408;go_wp2_with(go_at_call 282;refine(G.o _).bC ?_;rintro e i⟨rfl,rfl⟩);refine wb (v:=.agg #[aX p,aX c]) (by simp[results,results408,go_sem]) rfl ?_;exact⟨rfl,aI⟩
def Sj(hi lo c:Nat)(h:hi<c)(hl:lo<18446744073709551616)(hc:c<18446744073709551616)(w:bD):bG 407 #[.agg #[aX hi,aX lo],aX c] w (bi (.tuple #[aX (((hi*18446744073709551616+lo)/c:Nat):Int),aX (((hi*18446744073709551616+lo)%c:Nat):Int),()]) w):=by have z:((c:Int)==0)=false:=aA;have t:¬(c<=(hi:Int)):=af;let⟨Q,A⟩:=aH ((hi*18446744073709551616+lo)/c);let⟨R,M⟩:=aH ((hi*18446744073709551616+lo)%c);have E:=fun W=>Sh hi lo c h hl hc W;rw[A,M]at E;have J:=aa E;rw[A,M];have C:Bw w (aZ w #[aX hi,aX lo] 480):=aI;have p:=bI.new w 480 #[aX hi,aX lo];let⟨j,Z⟩:=p.k2 0 1;clear A M E p;go_enter func407,ntmps407;go_wp2_with(go_at_call 409;refine(J.o _).bC ?_;rintro e i⟨rfl,n,rfl⟩);go_ret3;exact⟨rfl,gM C n⟩
def Sk(a b c:Nat)(ha:a<18446744073709551616)(hb:b<18446744073709551616)(h:a*b<c*18446744073709551616)(hc:c<18446744073709551616)(w:bD):bG 405 #[aX a,aX b,aX c] w (bi (.tuple #[aX ((a*b/c:Nat):Int),aX ((a*b%c:Nat):Int),()]) w):=by
 have d:a*b/18446744073709551616<c:=by rw[qV af];exact h
 have g:a*b%18446744073709551616<18446744073709551616:=nI _ af;have X:=Si a b ha hb w;have z:=fun W=>Sj _ _ c d g hc W;have e:a*b/18446744073709551616*18446744073709551616+a*b%18446744073709551616=a*b:=by
  have:=Nat.div_add_mod (a*b) 18446744073709551616
  omega
 rw[e]at z;let⟨p,u⟩:∃x,a*b/18446744073709551616=x:=⟨_,rfl⟩;let⟨m,S⟩:∃x,a*b%18446744073709551616=x:=⟨_,rfl⟩;let⟨Q,A⟩:∃x,a*b/c=x:=⟨_,rfl⟩;let⟨R,M⟩:∃x,a*b%c=x:=⟨_,rfl⟩;rw[u,S]at X z;rw[A,M]at z;rw[A,M];let⟨l,E⟩:=Jh2 X z;clear X z d g e u S A M h;go_enter func405,ntmps405;go_wp2_with(first|(go_at_call 408;refine l.o.bC ?_;rintro e i⟨rfl,j⟩)|(go_at_call 407;refine(E.o _).bC ?_;rintro e k⟨rfl,f⟩));go_ret3;exact⟨rfl,j.bu (f.bC j.size)⟩
def Sm(t x s:Int)(ht:0<=t)(hx:0<=x)(hxs:x<=s)(hts:t<s)(hs2:s<=9223372036854775807)(w:bD):bG 394 #[t,aY x,s] w (bi (.tuple #[(t*x/s:Int),(t*x%s:Int),()]) w):=by
 obtain⟨a,rfl⟩:∃a:Nat,t=a:=⟨t.toNat,af⟩;obtain⟨b,rfl⟩:∃b:Nat,x=b:=⟨x.toNat,af⟩;obtain⟨c,rfl⟩:∃c:Nat,s=c:=⟨s.toNat,af⟩;have h:a*b<c*18446744073709551616:=by
  have d:a*b<=a*c:=yO _ af;have j:a*c<18446744073709551616*c:=yM af af;omega
 have X:=fun W=>Sk a b c af af h af W;have g:(a:Int)*(b:Int)/c=((a*b/c:Nat):Int):=au;have r:(a:Int)*(b:Int)%c=((a*b%c:Nat):Int):=au;rw[g,r];have M:a*b%c<c:=nI _ af;have F:a*b/c<9223372036854775808:=by
  rw[qV af];have d:a*b<=a*c:=yO _ af;have j:a*c<9223372036854775808*c:=yM af af;omega
 let⟨Q,A⟩:∃x,a*b/c=x:=⟨_,rfl⟩;let⟨R,f⟩:∃x,a*b%c=x:=⟨_,rfl⟩;rw[A,f]at X;rw[A]at F⊢;rw[f]at M⊢;have m:=aa X;have y:¬((a:Int)<0):=af;have u:¬((b:Int)<0):=af;have l:¬(c<(b:Int)):=af;have z:((c:Int)==0)=false:=aA;have i:IntKind.u64.wrap a=(a:Int):=jJ _ af;have k:IntKind.u64.wrap b=(b:Int):=jJ _ af;have O:IntKind.u64.wrap c=(c:Int):=jJ _ af;have q:IntKind.i64.wrap R=(R:Int):=gI _ af;have T:wrap64 R=(R:Int):=jF _ af;have v:IntKind.i64.wrap Q=(Q:Int):=gI _ af;have n:wrap64 Q=(Q:Int):=jF _ af;clear h X g r A f F M;go_enter func394,ntmps394;go_wp2_with(go_at_call 405;refine(m.o _).bC ?_;rintro e i⟨rfl,p⟩);go_ret3;exact⟨rfl,p⟩
def rp(x:Lg):Option Int:=some x.bJ
def Sn(l:bF Lg):l.filterMap rp=l.map (·.bJ):=by
 induction l with
 |nil=>rfl
 |cons x l ih=>simp[rp,ih]
def zK(v:bE)(l:bF Lg)(w:bD)(hv:Sl df 3 w v l)(hn:l.length<=100000):bG 296 #[v] w (gP eI 2 1 (l.map (·.bJ)) w):=by
 rw[<-Sn];have D:=aa hv;obtain⟨W,K,rfl,_⟩:=hv;let⟨J,p,S,X,A⟩:=wm mW;have z:Bw w w:=bM _ _;go_enter func296,ntmps296;go_wp2;go_loopw[3,8] (fun vo vi wr=>∃k:Nat,k<=l.length/\vi=k/\wr.ownsRow w 2 1 vo ((l.take k).filterMap rp).length (bN eI ((l.take k).filterMap rp))/\Bw w wr) (fun _ vi _=>l.length-(intOf vi).toNat);exact⟨0,cH _,rfl,⟨aK,bS ⟨rfl,rfl⟩⟩,bM _ _⟩;obtain⟨k,E,rfl,h,a⟩:=hrel;have Q:=aa h;obtain⟨V,d,rfl⟩:=bV h;clear h;by_cases u:k<l
 ·obtain⟨F,c,b,m,rfl,_,n⟩:=(D.o.keep a).hd;let⟨H,s,P⟩:=kL (n k u);have O:0<=(k:Int):=af;have C:k<(l:Int):=af;unfold maxLen at c;have y:=aa (pN rp l k u);have Z:((l.take k).filterMap rp).length<=k:=bW (gK _ _) aM;clear n;generalize(l.take k).filterMap rp=L at*
  generalize l[k]=x at*;have t:=a.alloc a.size (bH (dI x) 120);let⟨T,N⟩:=Jh2 (bI.new wr 120 (dI x)) (Q.o.alloc (bH (dI x) 120))
  ·have f:True:=trivial;have I:Hid (L++[x.bJ]=(l.take (k+1)).filterMap rp):=aa (by rw[y.o,show rp x=some x.bJ from rfl];rfl);clear y;go_wp2_with(first|(at_builtin;refine fG kI ah kj _ rfl _ _ 45 rfl w 2 J (aY 0) 8 underlying45 p S X A aB (.slice V L d) L rfl (N.o.alloc _) (some (be (wr.heap.size+1) 0)) 1 [x.bJ] rfl (Sl.fg eI kI _ 2 _ aB _ au) Qaj QaN (t.alloc t.size (bH #[x.bJ] 2)).size ?_;intro j R h r M;have G:=(t.alloc t.size (bH #[x.bJ] 2)).grown r (t.alloc t.size _).size (fun q hq=>(N.o.lt q hq).1);rw[I.o]at h;obtain⟨B,U,rfl⟩:=bV h;clear r M));go_roundw;exact⟨k+1,af,aw,h,G⟩;exact aV
 ·obtain rfl:k=l.length:=af;have i:¬(l.length<(l:Int)):=af;have g:l.take l.length=l:=eU (bL _);rw[g]at Q;go_wp2;go_ret;exact⟨_,rfl,d8 Q.o z.size,z.bu (a.bC z.size)⟩
def nT:Lg:=⟨0,0,0⟩
def nU(l:List Lg)(i:Nat):Bool:=decide (1<=(l.getD i nT).bJ)&&decide ((l.getD i nT).bK=(l.getD 0 nT).bK)&&(decide (i=0)||decide ((l.getD (i-1) nT).mem<(l.getD i nT).mem))
def np(l:List Lg):Bool:=(List.range l).all (nU l)
def gU(l:List Lg):Int:=if 1024<l.length then 6 else if np l then(du (l.map (·.bJ))).2 else 1
variable{l:bF Lg}
def So(h:∀j,j<l.length->nU l j=true):np l=true:=by unfold np;rw[List.all_eq_true];intro j J;exact h j (aG J)
variable{j:Nat}
def Sq(hj:j<l)(h:nU l j=false):np l=false:=by unfold np;rw[List.all_eq_false];exact⟨j,aG hj,by simp[h]⟩
def Ir(h:∀x∈l,bO x.bJ):ep (l.map (·.bJ)):=by intro n H;obtain⟨x,j,rfl⟩:=Fy.1 H;exact h x j
def zL(v:bE)(l:bF Lg)(w:bD)(hv:Sl df 3 w v l)(hn:l.length<=100000)(h64:∀x∈l,bO x.bJ):bG 295 #[v] w (bi (aY (gU l)) w):=by
 let⟨Z,D⟩:=Jh2 (Ir h64) hv;obtain⟨W,k1,rfl,_⟩:=hv;clear h64;by_cases ab:1024<l.length
 ·have hb:=dT (show(1024:Int)<(l:Int) by omega);have HR:Hid (gU l=6):=aa (by unfold gU;rw[yc ab]);clear ab;go_enter func295,ntmps295;go_wp2;go_ret;exact⟨by rw[HR.o];rfl,bM _ _⟩
 ·have hb:=dF (show¬(1024:Int)<(l:Int) by omega);have HR:Hid (gU l=if np l then(du (l.map (·.bJ))).2 else 1):=aa (by unfold gU;rw[ya ab]);clear ab;go_enter func295,ntmps295;go_wp2;go_loopw[12] (fun vi wr=>∃k:Nat,k<=l.length/\vi=.int .i64 k/\Bw w wr/\∀j,j<k->nU l j=true) (aW l.length);exact⟨0,cH _,rfl,bM _ _,fun j J=>xl J Qat⟩;obtain⟨k,hk,rfl,L,E⟩:=hrel;have af:=aa E;clear E;by_cases ag:k<l.length
  ·obtain⟨an,aj,b,m,rfl,ac,n⟩:=D.o.hd;let⟨A,q1,H⟩:=kL (n k ag);have r0:=(L.c (p:=(b,m+k*3)) ac).bu A;have s:=(L.c (p:=(b,m+k*3+1)) ac).bu q1;have P:=(L.c (p:=(b,m+k*3+2)) ac).bu H;have O:0<=(k:Int):=by omega
   have C:k<(l:Int):=by omega
   have r:0<(l:Int):=by omega
   unfold maxLen at aj;obtain⟨p0,p1,Y⟩:=kL (n 0 Qat);have I:(wr.alloc (bH (dI l[k]) 120)).cell? (b,m+1)=some (.int .i64 (l[0]'Qat).bK):=by
    have:=((bM wr wr).alloc (bL _) (.cells (dI l[k]) 120)).c (p:=(b,m+1)) QcT
    rw[this];have h:=(L.c (p:=(b,m+1)) ac).bu (by simpa using p1);exact h
   have T:=aa (bI.new wr 120 (dI l[k]));let⟨x0,x1,x2⟩:=T.o.k3 0 1 2;have t:=L.alloc L.size (bH (dI l[k]) 120);have ai:l.getD 0 nT=l[0]'Qat:=by rw[dy,dG Qat];rfl
   have a:l.getD k nT=l[k]:=by rw[dy,dG ag];rfl
   have ah:Hid (∀j,k=j+1->∃y:Lg,(wr.alloc (bH (dI l[k]) 120)).cell? ⟨b,m+j*3,none⟩=y.mem/\l.getD j nT=y):=aa (by
    rintro j rfl;obtain⟨y0,_,_⟩:=kL (n j Qat);refine⟨l[j]'Qat, ?_,by rw[dy,dG Qat];rfl⟩;have:=((bM wr wr).alloc (bL _) (.cells (dI l[j+1]) 120)).c (p:=⟨b,m+j*3,none⟩) QcT
    rw[this];exact(L.c (p:=⟨b,m+j*3,none⟩) ac).bu y0)
   have ae:Hid (nU l k=(decide (1<=l[k].bJ)&&decide (l[k].bK=(l[0]'Qat).bK)&&(decide (k=0)||decide ((l.getD (k-1) nT).mem<l[k].mem)))):=aa (by unfold nU;rw[ai,a]);have Q:Hid (nU l k=false->gU l=1):=aa (fun h=>by rw[HR.o,Sq ag h];rfl);clear n A q1 H p0 p1 Y ai a;generalize l[k]=x at*;generalize(l[0]'Qat)=z at*
   by_cases q:x.bJ<1
   ·have d1:=dT q;have S:Hid (gU l=1):=aa (Q.o (by rw[ae.o];simp;intro h;omega));clear q;exact Qbu
   ·have d1:=dF q;by_cases u:x.bK=z.bK
    rotate_left
    ·have d2:(x.bK !=z.bK)=true:=by simpa using u
     have S:Hid (gU l=1):=aa (Q.o (by rw[ae.o];simp[u]));clear q u;exact Qbu
    ·have d2:(x.bK !=z.bK)=false:=by simpa using u
     rcases tX k with k0|k0
     ·have d3:decide (0<(k:Int))=false:=dF Qat;have am:decide (0<k)=false:=dF Qat;have ak:¬0<k:=by omega
      have S:Hid (nU l k=true):=aa (by rw[ae.o];simp[u,k0];omega);clear q u k0;go_wp2;go_region;go_wp2;go_roundw
      case rel=>exact⟨k+1,by omega,by go_num,t.drew,fun j J=>by
       rcases fA j k with h|h
       ·exact af.o j h
       ·obtain rfl:j=k:=by omega
        exact S.o⟩
      case measure=>exact aV
     ·obtain⟨j,J⟩:∃j,k=j+1:=⟨k-1,by omega⟩;let⟨y,B,U⟩:=ah.o j J;have d3:decide (0<(k:Int))=true:=dT Qat;have d4:wrap64 ((k:Int)-1)=(j:Int):=by unfold wrap64;omega
      have ao:IntKind.i64.wrap ((k:Int)-1)=(j:Int):=by rw[show(k:Int)-1=(j:Int) by omega];exact gI _ Qat
      have e1:0<=(j:Int):=by omega
      have e2:j<(l:Int):=by omega
      have R:l.getD (k-1) nT=y:=by rw[J];exact U
      by_cases K:x.mem<=y.mem
      ·have M:=dT K;have S:Hid (gU l=1):=aa (Q.o (by rw[ae.o,R];simp[u];intro _;omega));clear q u K U R J;exact Qbu
      ·have M:=dF K;have S:Hid (nU l k=true):=aa (by rw[ae.o,R];simp[u];omega);clear q u K U R J;go_wp2;go_region;go_wp2;go_roundw
       case rel=>exact⟨k+1,by omega,by go_num,t.drew,fun i hi=>by
        rcases fA i k with h|h
        ·exact af.o i h
        ·obtain rfl:i=k:=by omega
         exact S.o⟩
       case measure=>exact aV
  ·obtain rfl:k=l.length:=by omega
   have al:¬(l.length<(l:Int)):=by omega
   have S:Hid (gU l=(du (l.map (·.bJ))).2):=aa (by rw[HR.o,So af.o];rfl);have d:=aa (zK _ l wr (D.o.keep L) hn);go_wp2_with(first|(go_at_call 296;refine d.o.bC ?_;rintro e w3⟨v3,rfl,ad,F⟩;have g:=bV ad;obtain⟨n3,k3,rfl⟩:=g;have f:=mT _ (l.map (·.bJ)) w3 (Sl.own kI ad) Z.o (by rw[cR];omega);rw[cR]at f;have N:=aa f;clear f;have V:=L.bu (F.bC L.size);clear ad)|(go_at_call 230;refine N.o.bC ?_;rintro e X⟨rfl,c4⟩;have G:=V.bu (c4.bC V.size)));go_ret;exact⟨by rw[S.o];rfl,G⟩
def Sr(l:bF Int):bO (du l).1:=by
 unfold du dK;split
 ·assumption
 ·unfold bO;simp
def ei(l:List Lg):Int×Int:=if gU l≠0 then(0,gU l)else du (l.map (·.bJ))
def zM(v:bE)(l:bF Lg)(w:bD)(hv:Sl df 3 w v l)(hn:l.length<=100000)(h64:∀x∈l,bO x.bJ):bG 245 #[v] w (bi (bg (ei l)) w):=by
 let⟨Z,D,P,I⟩:=Jh4 (Ir h64) hv (zL v l w hv hn h64) hn;obtain⟨W,K,rfl,_⟩:=hv;let⟨y,B⟩:=aH (gU l);have U:=aa B;clear h64 hn B;by_cases O:y=0
 ·have q:Hid (ei l=du (l.map (·.bJ))):=aa (by unfold ei;rw[U.o,O];rfl);subst O;go_enter func245,ntmps245;go_wp2_with(first|(go_at_call 295;refine P.o.bC ?_;rintro e i⟨rfl,b⟩;rw[U.o];have d:=aa (zK _ l i (D.o.keep b) I.o))|(go_at_call 296;refine d.o.bC ?_;rintro e a⟨C,rfl,h,F⟩;have g:=bV h;obtain⟨A,c,rfl⟩:=g;have f:=mT _ (l.map (·.bJ)) a (Sl.own kI h) Z.o (by rw[cR];exact bW I.o af);rw[cR]at f;have N:=aa f;clear f;have V:=b.bu (F.bC b.size);clear h)|(go_at_call 230;refine N.o.bC ?_;rintro e X⟨rfl,p⟩;have G:=V.bu (p.bC V.size)));go_ret2;exact⟨by rw[q.o];rfl,G⟩
 ·have q:Hid (ei l=(0,y)):=aa (by unfold ei;rw[U.o,yc O]);have u:(y !=0)=true:=aG O;clear O;go_enter func245,ntmps245;go_wp2_with(go_at_call 295;refine P.o.bC ?_;rintro e i⟨rfl,b⟩;rw[U.o]);go_ret2;exact⟨by rw[q.o];rfl,b⟩
def lI(a:Int)(l:List Lg):Int×Int:=if(ei l).2≠0 then(0,(ei l).2)else if a<0 then(0,1)else(jt (ei l).1 a,0)
def Ss(h:∀x∈l,bO x.bJ):bO (ei l).1:=by
 unfold ei;split
 ·unfold bO;simp
 ·exact Sr _
def De(a:Int)(ha:bO a)(v:bE)(l:bF Lg)(w:bD)(hv:Sl df 3 w v l)(hn:l.length<=100000)(h64:∀x∈l,bO x.bJ):bG 202 #[a,v] w (bi (bg (lI a l)) w):=by
 let⟨N,c,V⟩:=Jh3 (zM v l w hv hn h64) (Ss h64) ha;obtain⟨W,K,rfl,_⟩:=hv;let⟨⟨y,z⟩,B⟩:∃y,ei l=y:=⟨_,rfl⟩;have U:=aa B;clear h64 hn B ha;by_cases O:z=0
 ·subst O;by_cases f:a<0
  ·have q:Hid (lI a l=(0,1)):=aa (by unfold lI;rw[U.o];simp[f]);have g:=dT f;clear f;exact Qbe
  ·have q:Hid (lI a l=(jt y a,0)):=aa (by unfold lI;rw[U.o];simp[f]);have g:=dF f;have d:Hid (bO y):=aa (by have:=c.o;rw[U.o]at this;exact this);clear f;go_enter func202,ntmps202;go_wp2_with(first|(go_at_call 245;refine N.o.bC ?_;rintro e i⟨rfl,b⟩;rw[U.o])|(go_at_call 166;refine(xJ y a d.o V.o _).bC ?_;rintro e k⟨rfl,rfl⟩));go_ret2;exact⟨by rw[q.o];rfl,b⟩
 ·have q:Hid (lI a l=(0,z)):=aa (by unfold lI;rw[U.o,yc O]);have u:(z !=0)=true:=aG O;clear O;exact Qbe
def Su:∀args w,(callFunc 375 args).run prog w=.ok (.enter 375 args) w:=enters_of func375 aj rfl
def Sv(x:Int)(w:bD):bG 375 #[x] w (bj (.bool (decide (x<0))) w):=by go_enter func375,ntmps375;go_wp2;go_ret;exact⟨rfl,rfl⟩
def Is(v:bE)(l:bF Int)(w:bD)(hv:Sl eI 1 w v l):bG 374 #[v,.func (.func 375) #[] #[]] w (bi (.bool (l.any fun x=>decide (x<0))) w):=by
 obtain⟨a,U,rfl,O,d,c,P⟩:=hv;unfold maxLen at c;by_cases S:l.length=0
 ·obtain rfl:=lB S;exact(Go.Proofs.AnyE.slices_ContainsFunc_empty l374 a U _ w).bC fun e w' ⟨he,hw⟩=>⟨by rw[he];rfl,by rw[hw];exact bM _ _⟩
 ·obtain⟨b,m,rfl,u,n⟩:=P af;have h:=Go.Proofs.AnyE.slices_ContainsFunc l374 (Value.int .i64) (fun x=>decide (x<0)) 375 #[] Su b m l U l w
   (fun W x hW=>(Sv x W).bC fun e w' ⟨he,hw⟩=>⟨he,0,hw⟩) (bL _) af (fun j hj=>by
    have A:=n j hj 0 _ rfl;rw[gD,gg]at A;rw[A];simp[hj])
  rw[ic]at h;exact h.bC fun e w' ⟨he,q,hw⟩=>⟨he,by rw[hw];exact gM (bM _ _) q⟩
structure oQ(a:Int)(l:List Int):Prop where
 a0:0<=a
 a1:bO a
 pos:∀x∈l,0<=x
 fit:du l=(cd l,0)
 n:l.length<=1024
def qx:∀(l:bF Int),(∀x∈l,0<=x)->0<=cd l/\∀x∈l,x<=cd l:=by
 intro l;induction l with
 |nil=>intro _;exact⟨by simp[cd],fun x hx=>xl hx au⟩
 |cons y l ih=>
  intro h;let⟨d,c⟩:=ih fun x hx=>h x (jS _ hx);have B:=h y (iG ..);have e:cd (y::l)=y+cd l:=by simp[cd]
  rw[e];refine⟨af,fun x hx=> ?_⟩;rcases je.1 hx with rfl|hx
  ·omega
  ·have:=c x hx
   omega
def Df{l:bF Int}(h:du l=(cd l,0)):bO (cd l):=by
 unfold du dK at h;split at h
 ·assumption
 ·simp at h
variable{a:Int}
def oQ.all{l:bF Int}(h:oQ a l):ep l:=by intro x j;have d:=(qx l h.pos).2 x j;have c:=h.pos x j;have b:=Df h.fit;unfold bO at*;omega
def Dg(a:Int)(v:bE)(l:bF Int)(w:bD)(hv:Sl eI 1 w v l)(h:oQ a l):bG 360 #[a,v] w (bi (.tuple #[cd l,()]) w):=by
 let⟨M,G,H⟩:=Jh3 hv (Is v l w hv) h;have A:(l.any fun x=>decide (x<0))=false:=by
  rw[mP];intro x j;have:=h.pos x j
  simp;omega
 have p:=aa A;have c:=dF (show¬a<0 by have:=h.a0;omega);have u:=dF (show¬(1024:Int)<(l:Int) by have:=h.n;omega);obtain⟨W,K,rfl,_⟩:=hv;clear h A;go_enter func360,ntmps360;go_wp2_with(first|(go_at_call 374;refine G.o.bC ?_;rintro e i⟨rfl,b⟩;rw[p.o];have N:=aa (mT _ l i (M.o.keep b) H.o.all (by have:=H.o.n;omega)))|(go_at_call 230;refine N.o.bC ?_;rintro e k⟨rfl,f⟩;rw[H.o.fit];have t:=b.bu (f.bC b.size)));go_ret2;exact⟨rfl,t⟩
def io(cs ps:List Int):List Int:=List.zipWith (fun c p:Int=>c-p) cs ps
def qy(cs ps:List Int)(k:Nat):List Int:=(io cs ps).take k
variable{cs ps:bF Int}
def zN(h:ps.length=cs.length):(io cs ps).length=cs.length:=by unfold io;rw[xF,h,Nat.min_self]
variable{k:Nat}
def Sw(h:k<cs)(h2:k<ps):qy cs ps (k+1)=qy cs ps k++[cs[k]-ps[k]]:=by unfold qy io;rw[fj aA,vz]
def It(v u:bE)(cs ps:bF Int)(w:bD)(hv:Sl eI 1 w v cs)(hu:Sl eI 1 w u ps)(hl:ps.length=cs.length)(hn:cs.length<=100000)(hp:∀i (h:i<cs.length) (h2:i<ps.length),0<=ps[i]/\ps[i]<=cs[i])(h64:ep cs):
  bG 330 #[v,u] w fun e w'=>∃r,e=.returned (.tuple #[r,()])/\w'.ownsRow w.heap.size 2 1 r (io cs ps).length (bN eI (io cs ps))/\Bw w w':=by
 let⟨D,f,HP,Z⟩:=Jh4 hv hu hp h64;obtain⟨W,K,rfl,_⟩:=hv;obtain⟨B,U,rfl,_⟩:=hu;let⟨J,hi,S,X,aj⟩:=wm mW;have g:=aa (zN hl);rw[hl];clear hp h64;go_enter func330,ntmps330;go_wp2;go_loopw[6,16] (fun vo vi wr=>∃k:Nat,k<=cs.length/\vi=k/\wr.ownsRow w.heap.size 2 1 vo (qy cs ps k).length (bN eI (qy cs ps k))/\Bw w wr) (fun _ vi _=>cs.length-(intOf vi).toNat);exact⟨0,cH _,rfl,⟨by simp[bN,qy],bS ⟨rfl,rfl⟩⟩,bM _ _⟩;obtain⟨k,hk,rfl,z,R⟩:=hrel;have Q:=aa z;obtain⟨V,ko,rfl⟩:=bV z;clear z;by_cases ab:k<cs.length
 ·obtain⟨F,am,b,m,rfl,al,n⟩:=D.o.hd;let⟨H,T,ad,_,ao,ak,ac⟩:=f.o;obtain⟨e1,e2⟩:B=H/\U=T:=by simpa[hl]using ad
  subst e1 e2;obtain⟨d,I,rfl,P,ae⟩:=ac af;have a:k<ps.length:=af;have A:=n k ab 0 _ rfl;rw[gD,gg]at A;have r0:=(R.c (p:=(b,m+k)) al).bu A;have E:=ae k a 0 _ rfl;rw[gD,gg]at E;have r1:=(R.c (p:=(d,I+k)) P).bu E;have O:0<=(k:Int):=af;have C:k<(cs.length:Int):=af;unfold maxLen at am ak;have ai:=aa (Sw ab a);have ap:(qy cs ps k).length<=k:=by unfold qy;rw[dx];omega
  have Y:=Z.o cs[k] (cZ ab);let⟨an,ag⟩:=HP.o k ab a;clear n ae A E ac ad;generalize qy cs ps k=L at*;generalize cs[k]=x at*;generalize ps[k]=y at*;have t1:=dF (show¬y<0 from af);have t2:=dF (show¬x<y from af);have t3:wrap64 (x-y)=x-y:=by unfold wrap64;unfold bO at Y;omega
  have ar:IntKind.i64.wrap (x-y)=x-y:=gI _ (by unfold bO at Y;omega);have t:=R;have N:=Q;clear an ag Y;go_wp2_with(at_builtin;refine fG kI ah kj _ rfl _ _ 45 rfl w.heap.size 2 J (aY 0) 8 underlying45 hi S X aj aB (.slice V L.length ko) L rfl (N.o.alloc _) (some (be wr.heap.size 0)) 1 [x-y] rfl (Sl.fg eI kI _ 2 _ aB _ rfl) Qaj QaN (t.alloc t.size (bH #[(x-y:Int)] 2)).size ?_;intro j w2 z l M;have G:=(t.alloc t.size (bH #[(x-y:Int)] 2)).grown l (t.alloc t.size _).size (fun q hq=>(N.o.lt q hq).1);rw[<-ai.o]at z;obtain⟨B,U,rfl⟩:=bV z;clear l M);go_roundw;exact⟨k+1,af,aw,z,G⟩;exact aV
 ·obtain rfl:k=cs.length:=af;have aq:¬(cs.length<(cs.length:Int)):=af;have s:Hid (qy cs ps cs.length=io cs ps):=aa (eU (by rw[g.o];exact bL _));go_wp2;go_ret2;rw[<-s.o];exact⟨_,rfl,Q.o,R⟩
end
def i6(x:Int)(l:bF Int):cd (x::l)=x+cd l:=by simp[cd]
def uD(l m:bF Int):cd (l++m)=cd l+cd m:=by simp[cd]
def Sx{l m:bF Int}(h:l.Perm m):cd l=cd m:=by
 induction h with
 |nil=>rfl
 |cons x _ ih=>rw[i6,i6,ih]
 |swap x y l=>rw[i6,i6,i6,i6];omega
 |trans _ _ i1 i2=>exact i1.bu i2
def Dh{l:bF Int}{b:Int}(h:∀x∈l,x<=b):cd l<=(l:Int)*b:=by
 induction l with
 |nil=>simp[cd]
 |cons x l ih=>
  have d:=h x (iG ..);have c:=ih fun y hy=>h y (jS _ hy);rw[i6,gL,Int.natCast_add,Int.add_mul];omega
def nV(P:List Int)(i:Nat):List Int:=P.set i (P.getD i 0+1)
def i7(P:List Int)(l:List Nat):List Int:=l.foldl nV P
def Dj(P:bF Int)(i:Nat):(nV P i).length=P.length:=by simp[nV]
def Dl(l:bF Nat):∀P:bF Int,(i7 P l).length=P.length:=by
 induction l with
 |nil=>intro P;rfl
 |cons i l ih=>intro P;exact(ih (nV P i)).bu (Dj P i)
def Sy(P:bF Int)(l:bF Nat)(k:Nat)(h:k<l):i7 P (l.take (k+1))=nV (i7 P (l.take k)) l[k]:=by unfold i7;rw[fj h,rX];rfl
def Sz(P:bF Int)(i j:Nat)(hi:i<P):(nV P i).getD j 0=P.getD j 0+(if j=i then 1 else 0):=by
 unfold nV;simp only[dy,sd];by_cases h:i=j
 ·subst h;simp[hi]
 ·simp[h,Ne.symm h]
def Iu(l:bF Nat):∀(P:bF Int) (j:Nat),(∀i∈l,i<P.length)->(i7 P l).getD j 0=P.getD j 0+(l.count j:Nat):=by
 induction l with
 |nil=>intro P j _;simp[i7]
 |cons i l ih=>
  intro P j h;have d:=h i (iG ..);have c:=ih (nV P i) j (fun k hk=>by rw[Dj];exact h k (jS _ hk));show(i7 (nV P i) l).getD j 0=_
  rw[c,Sz P i j d,List.count_cons];by_cases e:i=j
  ·subst e;simp;omega
  ·simp[e,Ne.symm e]
def SA(P:bF Int)(i:Nat)(x:Int)(h:i<P):cd (P.set i (P.getD i 0+x))=cd P+x:=by
 induction P generalizing i with
 |nil=>simp at h
 |cons y P ih=>
  cases i with
  |zero=>simp[i6];omega
  |succ i=>
   have:=ih i (aG h)
   simp only[iP,i6,List.getD_cons_succ];omega
def SD(l:bF Nat):∀(P:bF Int),(∀i∈l,i<P.length)->cd (i7 P l)=cd P+(l.length:Nat):=by
 induction l with
 |nil=>intro P _;simp[i7]
 |cons i l ih=>
  intro P h;have d:=h i (iG ..);have c:=ih (nV P i) (fun k hk=>by rw[Dj];exact h k (jS _ hk));show cd (i7 (nV P i) l)=_;rw[c];unfold nV;rw[SA P i 1 d,gL];omega
structure pP(t s:Int)(W r:List Int):Prop where
 len:r.length=W.length
 sum:cd r=t
 lo:∀i,i<W.length->t*W.getD i 0<r.getD i 0*s+s
 hi:∀i,i<W.length->r.getD i 0*s<t*W.getD i 0+s
 pos:∀i,i<W.length->0<=r.getD i 0/\r.getD i 0<=W.getD i 0
def dH(t s:Int)(W:List Int):List Int:=W.map fun w=>t*w/s
def fh(t s:Int)(W:List Int):List Int:=W.map fun w=>t*w%s
def SE(t s:Int)(W:bF Int):t*cd W=s*cd (dH t s W)+cd (fh t s W):=by
 induction W with
 |nil=>simp[cd,dH,fh]
 |cons w W ih=>
  have e:t*w%s+s*(t*w/s)=t*w:=Int.emod_add_mul_ediv _ _;show t*cd (w::W)=s*cd (t*w/s::dH t s W)+cd (t*w%s::fh t s W);rw[i6,i6,i6,Int.mul_add,Int.mul_add,ih];omega
def SF(l:bF Int):cd ((List.range l).map fun i=>l.getD i 0)=cd l:=by
 congr 1;apply jG
 ·simp
 ·intro i d c;simp[dy,c]
variable{t s:Int}{W:bF Int}
def Iv(hs:0<s)(hW:cd W=s):s*(t-cd (dH t s W))=cd (fh t s W):=by have h:=SE t s W;rw[hW]at h;rw[Int.mul_sub,Int.mul_comm s t];omega
def Dn(hs:0<s):∀x∈fh t s W,0<=x/\x<=s-1:=by intro x j;obtain⟨w,_,rfl⟩:=Fy.1 j;have d:=Int.emod_nonneg (t*w) (show s≠0 from af);have c:=Int.emod_lt_of_pos (t*w) hs;omega
def zO(hs:0<s)(hW:cd W=s):0<=t-cd (dH t s W)/\t-cd (dH t s W)<=(W:Int):=by
 have h:=Iv (t:=t) hs hW;have d:=(qx (fh t s W) fun x hx=>(Dn hs x hx).1).1;have c:=Dh (l:=fh t s W) fun x hx=>(Dn hs x hx).2;have S:(fh t s W).length=W.length:=by simp[fh]
 rw[S]at c;generalize t-cd (dH t s W)=k at*;constructor
 ·refine Int.le_of_mul_le_mul_left (a:=s) ?_ hs;rw[Int.mul_zero];omega
 ·refine Int.le_of_mul_le_mul_left (a:=s) ?_ hs;rw[h];refine Int.le_trans c ?_;rw[Int.mul_comm s];exact FF af af
variable{who:bF Nat}{k:Nat}
def SG(hs:0<s)(hW:cd W=s)(hp:who.Perm (List.range W))(hr:who.Pairwise fun x y=>(fh t s W).getD y 0<=(fh t s W).getD x 0)(hk:k<who)(hkl:(k:Int)<t-cd (dH t s W)):0<(fh t s W).getD who[k] 0:=by
 have H:∀i,0<=(fh t s W).getD i 0/\(fh t s W).getD i 0<=s-1:=fun i=>by
  by_cases h:i<(fh t s W).length
  ·rw[dy,dG h];exact Dn hs _ (cZ h)
  ·rw[dy,pC af];simp;omega
 have B:cd (who.map fun i=>(fh t s W).getD i 0)=cd (fh t s W):=by
  rw[<-SF (fh t s W)];refine Sx ?_;have:(fh t s W).length=W.length:=by simp[fh]
  rw[this];exact hp.map _
 refine Int.lt_of_not_ge fun h0=> ?_;have e:who=who.take k++who.drop k:=(rV k who).symm;have d:cd ((who.take k).map fun i=>(fh t s W).getD i 0)<=(k:Int)*(s-1):=by
  have:=Dh (l:=(who.take k).map fun i=>(fh t s W).getD i 0) (b:=s-1) (fun x hx=>by obtain⟨i,_,rfl⟩:=Fy.1 hx;exact(H i).2)
  rw[cR,dx,ll (pE hk)]at this;exact this
 have c:cd ((who.drop k).map fun i=>(fh t s W).getD i 0)<=0:=by
  have:=Dh (l:=(who.drop k).map fun i=>(fh t s W).getD i 0) (b:=0) (fun x hx=>by
   obtain⟨i,p,rfl⟩:=Fy.1 hx;obtain⟨j,J,rfl⟩:=eW p;rw[List.getElem_drop];rcases tX j with h|h
   ·subst h;exact h0
   ·exact Int.le_trans (AW.1 hr k (k+j) hk (by rw[fc]at J;omega) af) h0)
  simpa using this
 have g:=Iv (t:=t) hs hW;rw[<-B,e,jf,uD]at g;generalize t-cd (dH t s W)=L at*;have M:s*((k:Int)+1)<=s*L:=FF af af;rw[Int.mul_add,Int.mul_one]at M;rw[Int.mul_sub,Int.mul_one,Int.mul_comm]at d;generalize s*(k:Int)=a at*;generalize s*L=b at*;have f:0<=(k:Int):=af;omega
def SH(hs:0<s)(ht:0<=t)(hts:t<=s)(hW:cd W=s)(hpos:∀x∈W,0<=x)(hp:who.Perm (List.range W.length))(hr:who.Pairwise fun x y=>(fh t s W).getD y 0<=(fh t s W).getD x 0):pP t s W (i7 (dH t s W) (who.take (t-cd (dH t s W)).toNat)):=by
 let⟨j,v⟩:=zO (t:=t) hs hW;have n:who.length=W.length:=aG hp.length_eq;have l:(dH t s W).length=W.length:=by simp[dH]
 have K:∀i∈who.take (t-cd (dH t s W)).toNat,i<(dH t s W).length:=fun i hi=>by
  rw[l];simpa using hp.mem_iff.1 (rW hi)
 have b:∀i,i<W.length->(i7 (dH t s W) (who.take (t-cd (dH t s W)).toNat)).getD i 0=t*W.getD i 0/s+((who.take (t-cd (dH t s W)).toNat).count i:Nat):=fun i hi=>by
  rw[Iu _ _ _ K];congr 1;unfold dH;simp[dy,hi]
 have f:∀i,i<W.length->(((who.take (t-cd (dH t s W)).toNat).count i:Nat):Int)=0∨((((who.take (t-cd (dH t s W)).toNat).count i:Nat):Int)=1/\0<t*W.getD i 0%s):=fun i hi=>by
  have B:(who.take (t-cd (dH t s W)).toNat).Nodup:=(hp.nodup_iff.2 yT).sublist (List.take_sublist _ _);have d:=List.nodup_iff_count.1 B i;rcases tX ((who.take (t-cd (dH t s W)).toNat).count i)with h|h
  ·left;omega
  ·right
   refine⟨af, ?_⟩;have Z:=List.count_pos_iff.1 h;obtain⟨k,u,rfl⟩:=eW Z;rw[dx]at u;have m:=SG hs hW hp hr (k:=k) af af;rw[uX];unfold fh at m;rw[uX]at hi;rw[dy,ke,dG hi]at m;rw[dy,dG hi];simpa using m
 have a:∀i,t*W.getD i 0%s+s*(t*W.getD i 0/s)=t*W.getD i 0/\0<=t*W.getD i 0%s/\t*W.getD i 0%s<s:=fun i=>⟨Int.emod_add_mul_ediv _ _,Int.emod_nonneg _ af,Int.emod_lt_of_pos _ hs⟩;have g:∀i,i<W.length->t*W.getD i 0<(i7 (dH t s W) (who.take (t-cd (dH t s W)).toNat)).getD i 0*s+s:=fun i hi=>by
  rw[b i hi];exact QaP
 have p:∀i,i<W.length->(i7 (dH t s W) (who.take (t-cd (dH t s W)).toNat)).getD i 0*s<t*W.getD i 0+s:=fun i hi=>by
  rw[b i hi];exact QaP
 refine⟨(Dl _ _).bu l, ?_,g,p,fun i hi=>⟨?_, ?_⟩⟩
 ·rw[SD _ _ K,dx,ll af];omega
 ·rw[b i hi];have T:0<=W.getD i 0:=by
   rw[dy,dG hi];exact hpos _ (cZ hi)
  have:=Int.ediv_nonneg (ud ht T) (Int.le_of_lt hs)
  omega
 ·have d:=p i hi;have T:0<=W.getD i 0:=by
   rw[dy,dG hi];exact hpos _ (cZ hi)
  have m:t*W.getD i 0<=s*W.getD i 0:=Int.mul_le_mul_of_nonneg_right hts T;have q:(i7 (dH t s W) (who.take (t-cd (dH t s W)).toNat)).getD i 0*s<(W.getD i 0+1)*s:=by
   rw[Int.add_mul,Int.one_mul,Int.mul_comm (W.getD i 0)];omega
  have:=Int.lt_of_mul_lt_mul_right q (Int.le_of_lt hs)
  omega
section
attribute [local go_sem ↓] wp_at_zero wp_at_succ
def nW(p:Int×Lg):Option Lg:=if 0<p.1 then some ⟨p.2.mem,p.2.bK,p.1⟩else none
def i8(l:List Int)(cl:List Lg):List Lg:=(l.zip cl).filterMap nW
def oR(l:List Int)(cl:List Lg)(k:Nat):List Lg:=((l.zip cl).take k).filterMap nW
def Do(g:Nat)(v u:bE)(l:bF Int)(cl:bF Lg)(w:bD)(hv:Sl eI 1 w v l)(hu:Sl df 3 w u cl)(hg:bI w g 66 #[u])(hl:l.length=cl.length)(hn:l.length<=100000):bG 331 #[v,ptr g] w (gP df 120 3 (i8 l cl) w):=by
 let⟨D,HU,HL⟩:=Jh3 hv hu hl;have aj:=hg.lt;obtain⟨n1,K,rfl,_⟩:=hv;obtain⟨B,U,rfl,_⟩:=hu;let⟨J,hi,S,X,al⟩:=wm oF;have ad:Hid ((l.zip cl).length=l.length):=aa (by rw[List.length_zip,hl,Nat.min_self]);have N:Hid (i8 l cl=(l.zip cl).filterMap nW):=aa rfl;rw[<-hl]at hg;have HG:=aa hg;clear hg hl;go_enter func331,ntmps331;go_wp2;go_loopw[4,9] (fun vo vi wr=>∃k:Nat,k<=l.length/\vi=k/\wr.ownsRow w 120 3 vo (oR l cl k).length (bN df (oR l cl k))/\Bw w wr) (fun _ vi _=>l.length-(intOf vi).toNat);exact⟨0,cH _,rfl,⟨by simp[bN,oR],bS ⟨rfl,rfl⟩⟩,bM _ _⟩;obtain⟨k,hk,rfl,h,z⟩:=hrel;have Q:=aa h;obtain⟨V,ko,rfl⟩:=bV h;clear h;by_cases ab:k<l
 ·obtain⟨F,ao,b,m,rfl,an,n⟩:=D.o.hd;let⟨H,T,ag,_,aq,am,ac⟩:=HU.o;obtain⟨e1,r⟩:B=H/\U=T:=by simpa[HL.o]using ag
  subst e1 r;have a:k<cl:=by have:=HL.o;omega
  obtain⟨d,I,rfl,P,ai⟩:=ac af;have A:=n k ab 0 _ rfl;rw[gD,gg]at A;have r0:=(z.c (p:=(b,m+k)) an).bu A;let⟨j,Z,_⟩:=kL (ai k a);have r1:=(z.c (p:=(d,I+k*3)) P).bu j;have r2:=(z.c (p:=(d,I+k*3+1)) P).bu Z;have f:=(HG.o.keep z).c 0;have O:0<=(k:Int):=af;have C:k<(l:Int):=af;unfold maxLen at ao am;have ap:k<(l.zip cl).length:=by rw[ad.o];exact ab
  have Y:Hid (oR l cl (k+1)=oR l cl k++(nW (l.zip cl)[k]).toList):=aa (pN nW (l.zip cl) k ap);have ae:(l.zip cl)[k]=(l[k],cl[k]):=List.getElem_zip;rw[ae]at Y;have ar:(oR l cl k).length<=k:=by unfold oR;exact bW (gK _ _) aM
  clear n ai A j Z ac ag ae;generalize oR l cl k=L at*;generalize l[k]=x at*;generalize cl[k]=y at*;by_cases t:0<x
  rotate_left
  ·have hb:=dF t;have HN:Hid (oR l cl (k+1)=L):=aa (by rw[Y.o,show nW (x,y)=none from(by unfold nW;rw[ya t])];simp);clear Y t;go_wp2;go_roundw;exact⟨k+1,af,aw,by rw[HN.o];exact Q.o,z⟩;exact aV
  ·have hb:=dT t;have HN:Hid (L++[⟨y.mem,y.bK,x⟩]=oR l cl (k+1)):=aa (by rw[Y.o,show nW (x,y)=some ⟨y.mem,y.bK,x⟩from(by unfold nW;rw[yc t])];rfl);have au:=z.size;clear Y t;have ak:=ch r1 (ch r2 f);go_wp2;go_region_held_law(fun W=>W.cell? (d,I+k*3)=y.mem/\W.cell? (d,I+k*3+1)=y.bK/\W.cell? (be g 0)=some (.slice (some (d,I)) l U)) (first|exact ak|exact E|assumption|go_keep)
    (first|(refine lV eG ah oE _ aB _ _ 66 aB w 120 J (.agg #[(),(),()]) 24 underlying66 hi S X al aB (.slice V L ko) L aB Qcc (some (be wr 0)) 1 1 [⟨y.mem,y.bK,x⟩] aB aB (by exact Sl.qr df eG wr 120 ⟨y.mem,y.bK,x⟩ (cs:=#[y.mem,y.bK,x]) rfl) aP aO aA ?_;intro v' w5 h R M;have G:=(z.alloc z.size (bH #[y.mem,y.bK,x] 120)).grown (w':=w5) (by exact⟨R.os,R.tape,R.output,R.size,R.block⟩) (z.alloc z.size _).size (fun q hq=>(Q.o.lt q hq).1);have E:=ch ((G.c (p:=(d,I+k*3)) P).bu ((z.c (p:=(d,I+k*3)) P).symm.bu r1)) (ch ((G.c (p:=(d,I+k*3+1)) P).bu ((z.c (p:=(d,I+k*3+1)) P).symm.bu r2)) ((G.c (p:=(be g 0)) aj).bu ((z.c (p:=(be g 0)) aj).symm.bu f)));rw[HN.o]at h;obtain⟨n3,k3,rfl⟩:=bV h))
   go_wp2;go_roundw;exact⟨k+1,af,aw,h,G⟩;exact aV
 ·obtain rfl:k=l.length:=af;have i:¬(l.length<(l:Int)):=af;have s:Hid (oR l cl l.length=i8 l cl):=aa (by unfold oR;rw[show(l.zip cl).take l.length=l.zip cl from eU (by rw[ad.o];exact bL _),<-N.o]);go_wp2;go_ret;rw[<-s.o];exact⟨_,rfl,Q.o,z⟩
def SI(v:bE)(l:bF Int)(w:bD)(hv:Sl eI 1 w v l)(hn:l.length<=1000000):bG 225 #[v] w (gP eI 2 1 l w):=by
 obtain⟨a,U,rfl,O,d,c,P⟩:=hv;unfold maxLen at c;cases a with
 |none=>
  have S:l=[]:=by
   cases l with
   |nil=>rfl
   |cons x l=>obtain⟨b,m,h,_⟩:=P au;cases h
  subst S;refine(Tryz.slices_Clone_int_nil_f225 0 U w).bC ?_;rintro e y⟨rfl,rfl⟩;exact⟨_,rfl,⟨aK,bS ⟨rfl,rfl⟩⟩,bM _ _⟩
 |some ad=>
  by_cases S:l.length=0
  ·obtain rfl:=lB S;refine(Tryz.slices_Clone_int_zero_f225 ad U w).bC ?_;rintro e y⟨f,rfl,J,_,u⟩;exact⟨_,rfl,by simpa[bN]using J,u⟩
  ·let⟨b,m,V,u,n⟩:=P af;cases V
   refine(Tryz.slices_Clone_int_f225 b m l U l w (bL _) af (fun j hj=>by
    have A:=n j hj 0 _ rfl;rw[gD,gg]at A;rw[A];simp[hj])).bC ?_
   rintro e y⟨f,rfl,J,D⟩;rw[ic]at J;refine⟨_,rfl,by rw[nN];exact J, ?_⟩;first|exact D.2|exact D.2.1|exact D
def Dp(a:Int)(v:bE)(l:bF Int)(w:bD)(hv:Sl eI 1 w v l)(h:oQ a l)(hge:cd l<=a):bG 329 #[a,v] w fun e w'=>∃u,e=.returned (.tuple #[u,()])/\w'.ownsRow w 2 1 u l (bN eI l)/\Bw w w':=by
 let⟨M,G⟩:=Jh2 hv (Dg a v l w hv h);have S:l.length<=1000000:=by have:=h.n;omega
 have d:=dT hge;obtain⟨W,K,rfl,_⟩:=hv;clear h hge;go_enter func329,ntmps329;go_wp2_with(first|(go_at_call 360;refine G.o.bC ?_;rintro e i⟨rfl,b⟩;have c:=aa (SI _ l i (M.o.keep b) S))|(go_at_call 225;refine c.o.bC ?_;rintro e k⟨u,rfl,J,f⟩;have Q:=aa J;obtain⟨B,U,rfl⟩:=bV J;clear J));go_ret2;exact⟨_,rfl,d8 Q.o b.size,b.bu (f.bC b.size)⟩
structure Dq(a:Int)(cl:List Lg):Prop where
 short:(lI a cl).2=0
 ok:oQ a (cl.map (·.bJ))
 Mz:cd (cl.map (·.bJ))<=a
def SJ(l:bF Int):io l l=List.replicate l 0:=by
 unfold io;induction l with
 |nil=>rfl
 |cons x l ih=>
  rw[si,ih,gL,qY];simp
def SK(cl:bF Lg)(n:Nat):i8 (List.replicate n 0) cl=[]:=by unfold i8;rw[List.filterMap_eq_nil_iff];intro p s;have d:=List.of_mem_zip (a:=p.1) (b:=p.2) s;have c:p.1=0:=List.eq_of_mem_replicate d.1;unfold nW;rw[c,ya af]
def SL(a:Int)(v:bE)(cl:bF Lg)(w:bD)(hv:Sl df 3 w v cl)(h:Dq a cl)(h64:∀x∈cl,bO x.bJ):bG 269 #[a,v] w fun e w'=>∃u1 u2,e=.returned (.tuple #[u1,u2,()])/\w'.ownsRow w 120 3 u1 (i8 (cl.map (·.bJ)) cl).length (bN df (i8 (cl.map (·.bJ)) cl))/\w'.ownsRow w 120 3 u2 ([]:bF Lg).length (bN df [])/\Bw w w':=by
 let⟨W1,S⟩:=aH (w.alloc (bH #[v] 66));have b:Bw w W1:=by rw[<-S];exact aI
 have m:bI W1 w 66 #[v]:=by rw[<-S];exact bI.new w 66 #[v]
 have R:=aa m;have aB:(w.alloc (bH #[v] 66)).cell? (be w 0)=some v:=by rw[S];exact m.c 0
 let⟨aw,OK⟩:=Jh2 (hv.keep b) h.ok;have hn:cl.length<=1024:=by have:=h.ok.n;rw[cR]at this;exact this
 let⟨aD,ad⟩:=Jh2 h.Mz (De a h.ok.a1 v cl W1 (hv.keep b) af h64);let⟨⟨I,s2⟩,L⟩:∃r,lI a cl=r:=⟨_,rfl⟩;have O:=h.short;rw[L]at ad O;dsimp only at O;subst O;have A:=aa S;obtain⟨n1,k1,rfl,_⟩:=hv;have ag:Hid (∀W,W1.heap.size<=W.heap.size->∀u,Sl eI 1 W u (cl.map (·.bJ))->bG 329 #[a,u] W fun e w'=>∃u',e=.returned (.tuple #[u',()])/\w'.ownsRow W.heap.size 2 1 u' cl.length (bN eI (cl.map (·.bJ)))/\Bw W w'):=aa (fun W _ u hu=>by
  have q:=Dp a u _ W hu h.ok h.Mz;rw[cR]at q;exact q)
 have ak:Hid (∀W u u',Sl eI 1 W u (cl.map (·.bJ))->Sl eI 1 W u' (cl.map (·.bJ))->bG 330 #[u,u'] W fun e w'=>∃r,e=.returned (.tuple #[r,()])/\w'.ownsRow W.heap.size 2 1 r cl.length (bN eI (List.replicate cl.length 0))/\Bw W w'):=aa (fun W u u' hu hu'=>by
  have q:=It u u' _ _ W hu hu' rfl aQ (fun i h1 h2=>⟨h.ok.pos _ (cZ _),kh _⟩) (fun x hx=>by
   obtain⟨y,B,rfl⟩:=Fy.1 hx;exact h64 y B)
  rw[SJ,cR,oq]at q;exact q)
 have d:Hid (∀W u,Sl df 3 W u cl->bG 296 #[u] W fun e w'=>∃v',e=.returned v'/\w'.ownsRow W.heap.size 2 1 v' cl.length (bN eI (cl.map (·.bJ)))/\Bw W w'):=aa (fun W u hu=>by
  have q:=zK u cl W hu af;unfold gP at q;rw[cR]at q;exact q)
 have ab:Hid (∀W g u v',Sl eI 1 W v' (cl.map (·.bJ))->Sl df 3 W u cl->bI W g 66 #[u]->bG 331 #[v',ptr g] W (gP df 120 3 (i8 (cl.map (·.bJ)) cl) W)):=aa (fun W g u v' hv' hu hg=>Do g v' u _ cl W hv' hu hg (by rw[cR]) aQ);have ax:Hid (∀W g u v',Sl eI 1 W v' (List.replicate cl.length 0)->Sl df 3 W u cl->bI W g 66 #[u]->bG 331 #[v',ptr g] W (gP df 120 3 [] W)):=aa (fun W g u v' hv' hu hg=>by
  have q:=Do g v' u _ cl W hv' hu hg (by rw[oq]) (by rw[oq];omega);rw[SK]at q;exact q)
 let⟨P,Y⟩:=aH (i8 (cl.map (·.bJ)) cl);let⟨U,C⟩:∃P,cl.map (·.bJ)=P:=⟨_,rfl⟩;rw[Y]at ab⊢;rw[C]at ag ak d ab;have ae:U.length=cl.length:=by rw[<-C,cR]
 have HL:=aa ae;have an:w.heap.size<W1.heap.size:=m.lt;have aC:=aa an;clear h h64 S L m Y C hn ae;have aA:True:=trivial;go_enter func269,ntmps269;go_wp2_with(first|(go_at_call 202;rw[show w.alloc (bH #[.slice n1 cl.length k1] 66)=W1 from A.o];refine ad.o.bC ?_;rintro e w2⟨rfl,f⟩;have s:=(bI.keep R.o f).c 0;have K:=aa (aw.o.keep f);have Z:=aa (bI.keep R.o f))|(go_at_call 296;refine(d.o w2 _ K.o).bC ?_;rintro e w3⟨u3,rfl,ac,F⟩;have aE:=aa (cJ ac (bM _ _));have H:=aa (K.o.keep F);have al:=aa (bI.keep Z.o F);have E:=aa (Sl.own (enc:=eI) (k:=1) (fun _=>rfl) (by rw[HL.o];exact ac));clear ac s)|(go_at_call 329;refine(ag.o w3 (bW f.size F.size) _ E.o).bC ?_;rintro e X⟨u4,rfl,ai,p⟩;have aq:=aa (H.o.keep p);have au:=aa (bI.keep al.o p);have ao:=aa (E.o.keep p);have ah:=aa (Sl.own (enc:=eI) (k:=1) (l:=U) (fun _=>rfl) (by rw[HL.o];exact ai));clear ai)|(go_at_call 330;refine(ak.o X _ _ ao.o ah.o).bC ?_;rintro e T⟨u5,rfl,G,c5⟩;have j:=aa (aq.o.keep c5);have V:=aa (bI.keep au.o c5);have av:=aa (ah.o.keep c5);have ay:=aa (Sl.own (enc:=eI) (k:=1) (l:=List.replicate cl.length 0) (fun _=>rfl) (by rw[oq];exact G));clear G)|(go_at_call 331;first|(clear aA;refine(ab.o T _ _ _ av.o j.o V.o).bC ?_;rintro e w6⟨u6,rfl,J,D⟩;have N:=aa J;have ar:=aa (j.o.keep D);have Q:=aa (bI.keep V.o D);have ap:=aa (ay.o.keep D);clear J)|(refine(ax.o w6 _ _ _ ap.o ar.o Q.o).bC ?_;rintro e w7⟨u7,rfl,aj,c7⟩;have az:=aa aj;clear aj)));have d2:=b.bu (f.bC b.size);have d3:=d2.bu (F.bC d2.size);have z:=d3.bu (p.bC d3.size);have M:=z.bu (c5.bC z.size);have t:=M.bu (D.bC M.size);go_ret3;exact⟨_,_,rfl,d8 (cJ N.o c7) M.size,d8 az.o t.size,t.bu (c7.bC t.size)⟩
end
section
open Go.Sort Go.Proofs
attribute [local go_sem ↓] wp_at_zero wp_at_succ
def dP(l:List Int):Array Value:=(l.map fun x=>Value.int .i64 x).toArray
def qz(R:List Int){N0:Nat}(x y:Fin (N0+1)):Int:=ff (R.getD y.val 0) (R.getD x.val 0)
def SM(R:bF Int)(N0:Nat):SWO (ltOf (qz R (N0:=N0))):=by
 refine⟨fun x=> ?_,fun x y z h1 h2=> ?_,fun x y z h1 h2=> ?_⟩
 ·unfold ltOf qz ff;simp
 ·unfold ltOf qz ff at*;simp only[decide_eq_true_eq]at*;have n:R.getD y.val 0<R.getD x.val 0:=by split at h1<;>(try split at h1)<;>omega
  have a:R.getD z.val 0<R.getD y.val 0:=by split at h2<;>(try split at h2)<;>omega
  rw[yc af];omega
 ·unfold ltOf qz ff at*;simp only[decide_eq_false_iff_not]at*;split at h1
  ·omega
  split at h2
  ·omega
  rw[ya af];split<;>omega
def SN(bx g n:Nat)(R:bF Int)(x y:Nat)(hx:x<R.length)(hy:y<R.length)(hn:R.length<=1000000)(w:bD)(hb:w.cell? (be bx 0)=some (.slice (some (be g 0)) R.length n))(hc:∀i (h:i<R.length),w.cell? ⟨g,i,none⟩=some (.int .i64 R[i])):
  bG 395 #[x,y,.pointer (some (be bx 0))] w fun e w'=>e=.returned (ff R[y] R[x])/\∃q,w'=w.drewN q:=by
 have v:=hc x hx;have s:=hc y hy;have O:0<=(x:Int):=af;have C:x<(R.length:Int):=af;have r:0<=(y:Int):=af;have Z:y<(R.length:Int):=af;clear hc;go_enter func395,ntmps395;go_wp2_with fail;go_quiet(first|(go_at_call 233;refine Calls.quiet_of ((vR _ _ _).bC (fun _ _ h=>⟨h.1,0,h.2⟩))));go_wp2;go_ret;exact⟨rfl,_,rfl⟩
def SP(R:bF Int)(N0:Nat)(hR:R.length=N0+1)(hn:R.length<=1000000)(bx g blk m:Nat)(w:bD)(hbx:bx<w.heap.size)(hg:g<w.heap.size)(n1:bx≠blk)(n2:g≠blk)(hb:w.cell? (be bx 0)=some (.slice (some (be g 0)) R.length m))(hc:∀i (h:i<R.length),w.cell? ⟨g,i,none⟩=some (.int .i64 R[i]))(n:Nat):
  CmpReads prog 395 #[.pointer (some (be bx 0))] (cG (N0:=N0)) (qz R) blk 0 n w:=by
 intro k b c d x y;have j:x.val<R.length:=by have:=x.isLt;omega
 have B:y.val<R.length:=by have:=y.isLt;omega
 have o:(putRow cG (Sort.ahead w k) blk 0 c).heap.size=w.heap.size:=by unfold putRow mapBlock Sort.ahead;simp
 have F:∀a:Addr,a.block<w.heap.size->a.block≠blk->(sortWorld cG w blk 0 k c b).cell? a=w.cell? a:=fun a h1 h2=>by
  unfold sortWorld;rw[cell?_grow _ _ _ (by rw[o];exact h1),cell?_putRow_other cG _ blk 0 c a (bS h2)];rfl
 have h:=SN bx g m R x.val y.val j B hn (sortWorld cG w blk 0 k c b) ((F (be bx 0) hbx n1).bu hb) (fun i hi=>(F ⟨g,i,none⟩ hg n2).bu (hc i hi));have e:qz R x y=ff R[y.val] R[x.val]:=by unfold qz;simp[dy,j,B]
 rw[e];exact h
def jm(l:List Int)(n k:Nat):List Int:=l.take k++List.replicate (n-k) 0
def SQ(l:bF Int)(k:Nat)(h:k<l):(jm l l k).set k l[k]=jm l l (k+1):=by unfold jm;have S:(l.take k).length=k:=aM;rw[uS _ _ af,S,ue,fj h,fz];let⟨r,D⟩:∃r,l.length-k=r+1:=⟨l.length-k-1,af⟩;rw[D,show l.length-(k+1)=r by omega];simp[qY]
def SR(l:bF Int)(k:Nat)(h:k<=l):(jm l l k).length=l.length:=by unfold jm;rw[cO,dx,oq];omega
variable{n:Nat}
def Ds{l:bF Int}(e:l.length=n)(h:k<=n):(jm l n k).length=n:=by subst e;exact SR l k h
def qA(t s:Int)(W:bF Int):(dH t s W).length=W.length:=by simp[dH]
def ws(t s:Int)(W:bF Int):(fh t s W).length=W.length:=by simp[fh]
def Iw(l:bF Int):jm l l l.length=l:=by unfold jm;rw[ic,ue];simp
def yb(l:bF Int)(k:Nat)(x:Int):(dP l).setIfInBounds k (aY x)=dP (l.set k x):=by unfold dP;rw[jd,List.map_set]
def yd(l:bF Int)(k:Nat)(h:k<l):(dP l)[k]?=some (.int .i64 l[k]):=by unfold dP;rw[li,ke,dG h];rfl
variable{x:Int}
def Dt{l:bF Int}(e:l.length=n)(h:k<n)(hx:l.getD k 0=x):(jm l n k).set k x=jm l n (k+1):=by subst e;rw[<-SQ l k h,<-hx];simp[dy,h]
def SU{l:bF Int}(e:l.length=n)(h:k<n)(hx:l.getD k 0=x):(dP (jm l n (k+1)))[k]?=x:=by
 have S:k<(jm l n k).length:=by rw[Ds e (pE h)];exact h
 rw[<-Dt e h hx,yd _ k (by rw[js];exact S)];simp
def lZ(t s:Int)(W:List Int)(k:Nat):Int:=t-cd ((dH t s W).take k)
def SV(t s:Int)(W:bF Int)(k:Nat)(h:k<W):lZ t s W (k+1)=lZ t s W k-t*W[k]/s:=by
 unfold lZ;have a:k<(dH t s W).length:=by unfold dH;rw[cR];exact h
 have e:(dH t s W)[k]=t*W[k]/s:=by simp[dH]
 rw[fj a,uD,e];simp[cd];omega
def SW(hs:0<s)(ht:0<=t)(hW:cd W=s)(hp:∀x∈W,0<=x)(k:Nat):0<=lZ t s W k/\lZ t s W k<=t:=by
 have d:=(zO (t:=t) hs hW).1;have F:∀x∈dH t s W,0<=x:=fun x hx=>by
  exact Qb4
 have c:=(qx ((dH t s W).take k) fun x hx=>F x (rW hx)).1;have a:=(qx ((dH t s W).drop k) fun x hx=>F x (tW hx)).1;have e:cd (dH t s W)=cd ((dH t s W).take k)+cd ((dH t s W).drop k):=by rw[<-uD,rV]
 unfold lZ;omega
structure sQ(w wr:World)(t s:Int)(W:List Int)(k:Nat):Prop where
 eK:Bw w wr
 p:bI wr w 2 (dP (jm (dH t s W) W k))
 r:bI wr (w.heap.size+1) 2 (dP (jm (fh t s W) W k))
 x:bI wr (w.heap.size+2) 45 #[.slice (some (be (w.heap.size+1) 0)) W W.length]
 o:bI wr (w.heap.size+3) 3 (gR W k).toArray
def Du(N:Nat)(h1:N<=1000000):∀w:bD,(Instr.makeSlice 45 (aY N) (aY N)).run prog w=.ok (.slice (some (be w 0)) N N) (aZ w (dP (List.replicate N 0)) 2):=by
 have k:=run_make_row' (P:=prog) 45 2 (aY 0) 8 underlying45 mW rfl .i64 .i64 N af af;have b:madeCells #[()] N=dP (List.replicate N 0):=by
  have h:=zf N;rw[gD]at h;apply Array.toList_inj.1;refine h.bu ?_;rw[nN];rfl
 rw[b]at k;exact k
def SY(N:Nat)(h1:N<=1000000):∀w:bD,(Instr.makeSlice 74 N N).run prog w=.ok (.slice (some (be w 0)) N N) (w.alloc (.cells (gR N 0).toArray 3)):=by
 have k:=run_make_row' (P:=prog) 74 3 (aY 0) 8 underlying74 ui rfl .i64 .i64 N af af;have b:madeCells #[()] N=(gR N 0).toArray:=by
  have h:=zf N;rw[gD]at h;exact Qcp
 rw[b]at k;exact k
variable{g i j:Nat}{u:bE}
def wt{W:bD}{g':Nat}(h:g≠g'):(W.setCell (g,i) u).cell? (g',j)=W.cell? (g',j):=World.cell?_setCell_far _ _ _ _ h
variable{w w':bD}
def Dv(c:Go.RowKit.Below w.drew w.drew w'):Go.RowKit.Below w w w':=⟨c.os,c.tape,c.output,c.size,c.block⟩
variable{wr:bD}
def sQ.keep(h:sQ w wr t s W k)(c:Below wr.drew wr.drew w'):sQ w w' t s W k:=⟨h.eK.bu ((Dv c).bC h.eK.size),h.p.d.keep c,h.r.d.keep c,h.x.d.keep c,h.o.d.keep c⟩
def zP{W:bD}(h:Go.RowKit.Below w w W)(hg:w.heap.size<=g):Go.RowKit.Below w w (W.setCell (g,i) u):=⟨h.os,h.tape,h.output,by simpa[World.setCell]using h.size,fun k' hk'=>(fV W (g,i) u k' (by show k'≠g;omega)).bu (h.block k' hk')⟩
structure Dw(w X:World)(t s:Int)(W:List Int)(k:Nat):Prop where
 eK:Bw w X
 p:bI X w 2 (dP (jm (dH t s W) W (k+1)))
 r:bI X (w.heap.size+1) 2 (dP (jm (fh t s W) W (k+1)))
 x:bI X (w.heap.size+2) 45 #[.slice (some (be (w.heap.size+1) 0)) W W.length]
 o:bI X (w.heap.size+3) 3 (gR W k).toArray
def sQ.mid{w2:bD}(h:sQ w w2 t s W k)(hk:k<W):Dw w ((w2.setCell (w.heap.size,k) (t*W[k]/s:Int)).setCell (w.heap.size+1,k) (t*W[k]%s:Int)) t s W k:=by
 have b:(dP (jm (dH t s W) W k)).setIfInBounds k (t*W[k]/s:Int)=dP (jm (dH t s W) W (k+1)):=by
  rw[yb,Dt (qA t s W) hk (by simp[dH,dy,hk])]
 have a:(dP (jm (fh t s W) W k)).setIfInBounds k (t*W[k]%s:Int)=dP (jm (fh t s W) W (k+1)):=by
  rw[yb,Dt (ws t s W) hk (by simp[fh,dy,hk])]
 refine⟨zP (zP h.eK af) af, ?_, ?_,(h.x.far _ _ af).far _ _ af,(h.o.far _ _ af).far _ _ af⟩
 ·rw[<-b];exact(h.p.set k _).far _ _ af
 ·rw[<-a];exact(h.r.far _ _ af).set k _
def Dw.next{X:bD}(h:Dw w X t s W k)(hk:k<W):sQ w (X.setCell (w.heap.size+3,k) (aY (k:Nat))) t s W (k+1):=by have a:=Ih W k hk;refine⟨zP h.eK af,h.p.far _ _ af,h.r.far _ _ af,h.x.far _ _ af, ?_⟩;rw[<-a,<-jd];exact h.o.set k _
def Ix(t s:Int)(W:List Int)(w:World)(e:Ending)(w':World):Prop:=∃r u,e=.returned u/\w'.ownsRow w.heap.size 2 1 u r.length (bN eI r)/\Bw w w'/\pP t s W r
def SZ:∀args w,(callFunc 395 args).run prog w=.ok (.enter 395 args) w:=enters_of func395 aj rfl
def S7{w5:bD}{N0:Nat}{d:Array (Fin (N0+1))}(hN:W.length=N0+1)(hb:Go.RowKit.Below w w wr)(hp:bI wr w 2 (dP (dH t s W)))(ho:bI wr (w.heap.size+3) 3 (gR W W).toArray)(hs:d.size=(iI N0).size)(hP:PermIn 0 W (iI N0) d)(hS:SortedIn (ltOf (qz (fh t s W))) 0 W d)(hw:w5=(putRow cG wr (w.heap.size+3) 0 d).drewN q)(hwho:d.toList.map (·.val)=who):
  Go.RowKit.Below w w w5/\bI w5 w 2 (dP (dH t s W))/\bI w5 (w.heap.size+3) 3 (who.map fun i:Nat=>Value.int .i64 (i:Int)).toArray/\who.Perm (List.range W)/\who.Pairwise fun x y=>(fh t s W).getD y 0<=(fh t s W).getD x 0:=by
 subst hw;rw[uB]at hs;have n:=wq W W (bL _);have c:=Ik ho d (by rw[hs,<-hN];simp[n]);refine⟨⟨hb.os,hb.tape,hb.output,aG hb.size,fun k' hk'=>(Da d af).bu (hb.block k' hk')⟩,(Da d af).bu hp, ?_, ?_, ?_⟩
 ·rw[<-hwho,lD];exact c
 ·have h:=hP.2.2;rw[hN]at h⊢;have o:d.extract 0 (N0+1)=d:=by
   have b:d.extract 0 d.size=d:=au;rwa[hs]at b
  have r:(iI N0).extract 0 (N0+1)=iI N0:=by
   have b:(iI N0).extract 0 (iI N0).size=iI N0:=au;rwa[uB]at b
  rw[o,r]at h;have c:=h.map (fun i:Fin (N0+1)=>i.val);rw[<-hwho];refine c.bu ?_;have Q:(iI N0).toList.map (fun i=>i.val)=List.range (N0+1):=by
   unfold iI;rw[Array.toList_ofFn];apply jG
   ·simp
   ·intro i f c;rw[lj,List.getElem_ofFn,List.getElem_range]
  rw[Q]
 ·rw[<-hwho,yR,AW];intro i j p J a;simp only[Array.length_toList]at p J;have c:=hS i j (cH _) a af;rw[getElem!_pos d j J,getElem!_pos d i p]at c;unfold ltOf qz ff at c;simp only[decide_eq_false_iff_not]at c;simp only[Array.getElem_toList];split at c
  ·exact xl ah c
  ·omega
def S9(hs:0<s)(ht:0<=t)(hts:t<s)(hW:cd W=s)(hp:∀x∈W,0<=x)(l:bF Nat)(hl:∀i∈l,i<W.length)(j:Nat)(hj:j<W.length)(hjl:j∉l):0<=(i7 (dH t s W) l).getD j 0/\(i7 (dH t s W) l).getD j 0<=t:=by
 rw[Iu l _ j (fun i hi=>by rw[qA];exact hl i hi)];have P:=List.count_eq_zero.2 hjl;have F:∀x∈dH t s W,0<=x:=fun x hx=>by
  exact Qb4
 have Z:(dH t s W).getD j 0∈dH t s W:=by
  rw[dy,dG (by rw[qA];exact hj)];exact cZ _
 have d:=F _ Z;have c:=(qx _ F).2 _ Z;have a:=(zO (t:=t) hs hW).1;omega
def Ta(t s:Int)(v:bE)(W:bF Int)(w:bD)(hv:Sl eI 1 w v W)(h:oQ t W)(hW:cd W=s)(hs:0<s)(hts:t<s)(hs2:s<=9223372036854775807):bG 376 #[aY t,v,aY s] w (Ix t s W w):=by
 let⟨HS,OK⟩:=Jh2 hv h;have hn:=h.n;have ht:=h.a0;have ag:=aa hW;obtain⟨n1,k1,rfl,_⟩:=hv;have aT:=Du W af;have aU:=SY W af;have ak:=aa (fun k=>SW hs ht hW h.pos k);clear h hW;go_enter func376,ntmps376;go_wp2_with fail;have F0:sQ w ((((w.alloc (bH (dP (List.replicate W 0)) 2)).alloc (bH (dP (List.replicate W 0)) 2)).alloc (bH #[.slice (some (be (w.heap.size+1) 0)) W W.length] 45)).alloc (.cells (gR W 0).toArray 3)) t s W 0:=by
  have z:∀l:bF Int,l.length=W.length->jm l W 0=List.replicate W 0:=fun l _=>by simp[jm]
  refine⟨(((aI.alloc au _).alloc aA _).alloc aA _), ?_, ?_, ?_, ?_⟩
  ·rw[z _ (by simp[dH])];exact(((bI.new w 2 _).alloc _).alloc _).alloc _
  ·rw[z _ (by simp[fh])];exact((show bI ((w.alloc (bH (dP (List.replicate W 0)) 2)).alloc (bH (dP (List.replicate W 0)) 2)) (w.heap.size+1) 2 (dP (List.replicate W 0))from heap_alloc2_new w _ _).alloc _).alloc _
  ·have h:=(bI.new ((w.alloc (bH (dP (List.replicate W 0)) 2)).alloc (bH (dP (List.replicate W 0)) 2)) 45 #[.slice (some (be (w.heap.size+1) 0)) W W.length]).alloc (.cells (gR W 0).toArray 3);simpa using h
  ·have h:=bI.new (((w.alloc (bH (dP (List.replicate W 0)) 2)).alloc (bH (dP (List.replicate W 0)) 2)).alloc (bH #[.slice (some (be (w.heap.size+1) 0)) W W.length] 45)) 3 (gR W 0).toArray;simpa using h
 have aF:=aa F0;clear F0;go_loopw[25,10] (fun vi vl wr=>∃k:Nat,k<=W.length/\vi=.int .i64 k/\vl=.int .i64 (lZ t s W k)/\sQ w wr t s W k) (fun vi _ _=>W.length-(intOf vi).toNat);exact⟨0,cH _,rfl,by simp[lZ,cd],aF.o⟩;obtain⟨k,hk,rfl,rfl,hA⟩:=hrel;have HA:=aa hA;by_cases ac:k<W
 ·obtain⟨a3,aJ,b,an,rfl,y,aB⟩:=HS.o.hd;have A:=aB k ac 0 _ rfl;rw[gD,gg]at A;have r0:=(hA.eK.c (p:=(b,an+k)) y).bu A;have K:=hA.x.c 0;have O:0<=(k:Int):=af;have C:k<(W:Int):=af;have aN:b<w:=y;unfold maxLen at aJ;have a:=OK.o.pos W[k] (cZ ac);have am:=(qx W OK.o.pos).2 W[k] (cZ ac);rw[ag.o]at am;have HQ:=aa (fun W'=>Sm t W[k] s ht a am hts hs2 W');have N:=ch K r0;have Q0:=aa A;clear aB A hA a am;go_wp2;go_region_held3(fun Z=>Z.cell? (be (w.heap.size+1+1) 0)=some (.slice (some (be (w.heap.size+1) 0)) W W)/\Z.cell? (b,an+k)=some (.int .i64 W[k])) (first|exact N|exact ae|exact ch ((wt af).bu ae.1) ((wt af).bu ae.2)|exact ch ((wt af).bu ((wt af).bu ae.1)) ((wt af).bu ((wt af).bu ae.2))|assumption|go_keep)
   (first
    |(go_at_call 394;refine(HQ.o _).bC ?_;rintro e w2⟨rfl,c2⟩;have U:=aa (HA.o.keep c2);have ae:=ch (U.o.x.c 0) ((U.o.eK.c (p:=(b,an+k)) y).bu Q0.o);have pc:=(U.o.p.c k).bu (yd _ k (by rw[Ds (qA t s W) hk];exact ac));have pf:=U.o.p.free k;have rc:=(U.o.r.c k).bu (yd _ k (by rw[Ds (ws t s W) hk];exact ac));have rf:=U.o.r.free k))
  rename_i ah;clear ah N ae pc pf rc rf K r0;have hM:=U.o.mid ac;let⟨X,E⟩:=aH ((w2.setCell (w.heap.size,k) (aY (t*W[k]/s))).setCell (w.heap.size+1,k) (aY (t*W[k]%s)));rw[E]at hM;rw[E];let⟨HM,I,S⟩:=Jh3 hM (hM.next ac) (SV t s W k ac);have F:=hM.o.c k;have of:=hM.o.free k;rw[li,dG (by rw[wq _ _ hk];exact ac)]at F;have y0:=((hM.next ac).p.c k).bu (SU (qA t s W) ac (x:=t*W[k]/s) (by simp[dH,dy,ac]));have l1:=ak.o k;have l2:=ak.o (k+1);rw[S.o]at l2;generalize(gR W.length k)[k]'(by rw[wq _ _ hk];exact ac)=z0 at F
  have wl:wrap64 (lZ t s W k-t*W[k]/s)=lZ t s W (k+1):=by rw[S.o];exact jF _ af
  have aP:IntKind.i64.wrap (lZ t s W k-t*W[k]/s)=lZ t s W (k+1):=by rw[S.o];exact gI _ af
  generalize t*W[k]/s=Q at*;clear E hM l1 l2 S U HQ Q0;go_wp2;go_roundw;exact⟨k+1,ac,aw,aE,I.o⟩;exact aV
 ·obtain rfl:k=W.length:=af;have aS:¬(W.length<(W:Int)):=af;have av:jm (dH t s W) W W.length=dH t s W:=by have:=Iw (dH t s W);rwa[qA]at this
  have aD:jm (fh t s W) W W.length=fh t s W:=by have:=Iw (fh t s W);rwa[ws]at this
  obtain⟨N0,hN⟩:∃N0,W.length=N0+1:=by
   refine⟨W.length-1, ?_⟩;have:W.length≠0:=fun h0=>by
    have:=ag.o
    rw[lB h0]at this;simp[cd]at this;omega
   omega
  have Y:=hA.p;have M:=hA.r;rw[av]at Y;rw[aD]at M;have E:=hA.x;have hO:=hA.o;have u:=hO;rw[hN]at u;have hH:=Ii N0 (w.heap.size+3) wr u;have f:=SP (fh t s W) N0 (by rw[ws];exact hN) (by rw[ws];omega) (w.heap.size+2) (w.heap.size+1) (w.heap.size+3) W wr E.lt M.lt af af (by rw[ws];exact E.c 0) (fun i hi=>(M.c i).bu (yd _ i hi)) (iI N0).size;have al:=Ig (qz (fh t s W)) 395 #[.pointer (some (be (w.heap.size+2) 0))] SZ (w.heap.size+3) 0 W (iI N0) wr (SM _ N0) f hH (by rw[uB];omega);rw[show(iI N0).size=W.length by rw[uB];omega]at al;let⟨ax,HB,HP,HO,aK⟩:=Jh5 al hA.eK Y hO hN;clear al f hH u hO E M Y hA av aD hN HA;go_wp2_with(go_at_call 292;refine ax.o.bC ?_;rintro e w5⟨rfl,q5,d5,V,d,G,aC⟩;have q:=aa aC;have ar:=aa V;have ap:=aa d;have ao:=aa G;clear aC V d G);let⟨ab,aj⟩:=aH (d5.toList.map (·.val));have hF:=S7 aK.o HB.o HP.o HO.o ar.o ap.o ao.o q.o aj;obtain⟨f1,f2,f3,R,J⟩:=hF;obtain⟨L,hL⟩:∃L:Nat,lZ t s W W.length=L:=⟨(lZ t s W W).toNat,by have:=ak.o W.length;omega⟩;have aQ:L<=W:=by
   have h1:=(zO (t:=t) hs ag.o).2;unfold lZ at hL;rw[<-qA t s W,ic]at hL;omega
  have aq:ab.length=W.length:=aG R.length_eq;let⟨HL,F1,F2,F3,H,F5⟩:=Jh6 hL f1 f2 f3 R J;have D:=aa aq;rw[hL];clear f1 f2 f3 R J hL aj aq ax ap ao ar q;go_wp2;go_loopw[60] (fun vi wx=>∃k:Nat,k<=L/\vi=.int .i64 k/\Bw w wx/\bI wx w 2 (dP (i7 (dH t s W) (ab.take k)))/\bI wx (w.heap.size+3) 3 (ab.map fun i:Nat=>Value.int .i64 (i:Int)).toArray) (aW L);exact⟨0,cH _,rfl,F1.o,F2.o,F3.o⟩;obtain⟨k,hk,rfl,g1,g2,g3⟩:=hrel;let⟨T,G2,G3⟩:=Jh3 g1 g2 g3;by_cases ac:k<L
  ·have P:k<ab.length:=by rw[D.o];omega
   have m:ab[k]<W.length:=by simpa using H.o.mem_iff.1 (cZ P)
   have F:=g3.c k;rw[li,ke,dG P]at F;rw[show w.heap.size+3=w.heap.size+1+1+1 from rfl]at F;simp only[Option.map_some]at F;have ad:(i7 (dH t s W) (ab.take k)).length=W.length:=(Dl _ _).bu (qA t s W);have p0:=(g2.c ab[k]).bu (yd _ ab[k] (by rw[ad];exact m));have pf:=g2.free ab[k];have aM:=aa (Sy (dH t s W) ab k P);have aL:Hid ((i7 (dH t s W) (ab.take k))[ab[k]]'(by rw[ad];exact m)=(i7 (dH t s W) (ab.take k)).getD ab[k] 0):=aa (by simp[dy,ad,m]);have g:=S9 hs ht hts ag.o OK.o.pos (ab.take k) (fun i hi=>by simpa using H.o.mem_iff.1 (rW hi)) ab[k] m (fun hm=>by
    let⟨j,hj,e⟩:=eW hm;rw[dx]at hj;rw[uX]at e;have B:ab.Nodup:=H.o.nodup_iff.2 yT;have:=AW.1 B j k af P af
    exact this e)
   rw[aL.o]at p0;let⟨z,hz⟩:=aH ((i7 (dH t s W) (ab.take k)).getD ab[k] 0);rw[hz]at p0 g;have HZ:=aa hz;have wz:wrap64 (z+1)=z+1:=jF _ af;have a2:IntKind.i64.wrap (z+1)=z+1:=gI _ af;have O:0<=(k:Int):=af;have C:k<(W:Int):=af;let⟨i,hi⟩:=aH (ab[k]);rw[hi]at F p0 pf m;have HI:=aa hi;have a4:0<=(i:Int):=af;have a1:i<(W:Int):=af;have aR:k<(L:Int):=af;clear hz hi g1 g2 g3 g;go_wp2;go_roundw
   case rel=>
    refine⟨k+1,ac,aw,zP T.o af, ?_,G3.o.far _ _ af⟩;rw[aM.o];unfold nV;rw[HI.o,show(i7 (dH t s W) (ab.take k)).getD i 0=z by rw[<-HI.o];exact HZ.o,<-yb];exact G2.o.set i _
   case measure=>exact aV
  ·obtain rfl:k=L:=af;have aO:¬(k<(k:Int)):=af;have ay:=aa (SH hs ht (Int.le_of_lt hts) ag.o OK.o.pos H.o F5.o);have eL:(t-cd (dH t s W)).toNat=k:=by
    have:=HL.o
    unfold lZ at this;rw[<-qA t s W,ic]at this;omega
   rw[eL]at ay;have ad:(i7 (dH t s W) (ab.take k)).length=W.length:=(Dl _ _).bu (qA t s W);have ai:=aa ad;clear g1 g2 g3 eL ad;go_wp2;go_ret;refine⟨i7 (dH t s W) (ab.take k),_,rfl, ?_,T.o,ay.o⟩;rw[ai.o];refine⟨by rw[ik eI 1 kI,ai.o],ci ⟨w,W.length,_,rfl,bL _,G2.o,bL _,az,by unfold dP;simp[ai.o], ?_⟩⟩;unfold dP;rw[nN,eU (by simp[ai.o])]
end
section
attribute [local go_sem ↓] wp_at_zero wp_at_succ
def sR(t:Int)(W:List Int):Int×Int:=if 1024<W.length then(0,6)else if t<0∨(W.any fun x=>decide (x<0))=true then(0,1)else du W
def Iy(ht:bO t)(h:sR t W=(s,0)):oQ t W/\s=cd W:=by
 unfold sR at h;split at h
 ·simp at h
 split at h
 ·simp at h
 rename_i d c;have a:du W=(cd W,0):=by
  have M:=h;unfold du dK at M⊢;split at M
  ·rename_i V;rw[yc V]
  ·simp at M
 rw[a]at h;refine⟨⟨af,ht,fun x hx=> ?_,a,af⟩,aG h.symm⟩;have V:(W.any fun x=>decide (x<0))=false:=by
  cases hh:W.any fun x=>decide (x<0)
  ·rfl
  ·exact xl (ci hh) c
 rw[mP]at V;have:=V x hx
 simp at this;exact this
def Tb(t:Int)(v:bE)(W:bF Int)(w:bD)(hv:Sl eI 1 w v W)(h64:ep W)(hn:W.length<=100000):bG 360 #[t,v] w (bi (bg (sR t W)) w):=by
 let⟨M,G,Z⟩:=Jh3 hv (Is v W w hv) h64;obtain⟨g,K,rfl,_⟩:=hv;let⟨⟨s,P⟩,D⟩:∃r,sR t W=r:=⟨_,rfl⟩;rw[D];unfold sR at D;clear h64;by_cases d:1024<W.length
 ·rw[yc d]at D;obtain⟨rfl,rfl⟩:(0:Int)=s/\(6:Int)=P:=aG D;have l:=dT (show(1024:Int)<(W:Int) by omega);exact Qcz
 rw[ya d]at D;have u:=dF (show¬(1024:Int)<(W:Int) by omega);by_cases c:t<0
 ·rw[yc (bS c)]at D;obtain⟨rfl,rfl⟩:(0:Int)=s/\(1:Int)=P:=aG D;have l:=dT c;exact Qcz
 have l:=dF c;cases ha:W.any fun x=>decide (x<0)
 ·rw[ya (by rw[ha];simp[c])]at D;let⟨p,q⟩:=Jh2 ha D;clear D ha;go_enter func360,ntmps360;go_wp2_with(first|(go_at_call 374;refine G.o.bC ?_;rintro e i⟨rfl,b⟩;rw[p.o];have N:=aa (mT _ W i (M.o.keep b) Z.o af))|(go_at_call 230;refine N.o.bC ?_;rintro e k⟨rfl,f⟩;rw[q.o];have a:=b.bu (f.bC b.size)));go_ret2;exact⟨rfl,a⟩
 ·rw[yc (ci ha)]at D;obtain⟨rfl,rfl⟩:(0:Int)=s/\(1:Int)=P:=aG D;have p:=aa ha;clear D ha;go_enter func360,ntmps360;go_wp2_with(go_at_call 374;refine G.o.bC ?_;rintro e i⟨rfl,b⟩;rw[p.o]);go_ret2;exact⟨rfl,b⟩
def Tc(hs:0<s)(hp:∀x∈W,0<=x):pP 0 s W (List.replicate W.length 0):=by
 have b:∀i,(List.replicate W.length (0:Int)).getD i 0=0:=fun i=>by
  rw[dy];by_cases h:i<W.length
  ·simp[h]
  ·rw[pC aA];rfl
 refine⟨au,by simp[cd],fun i hi=> ?_,fun i hi=> ?_,fun i hi=> ?_⟩
 ·rw[b];omega
 ·rw[b];omega
 ·rw[b,dy,dG hi];exact⟨af,hp _ (cZ hi)⟩
def Td(t:Int)(v:bE)(W:bF Int)(w:bD)(hv:Sl eI 1 w v W)(h:oQ t W)(hts:t<cd W):bG 361 #[t,v] w fun e w'=>∃r u,e=.returned (.tuple #[u,()])/\w'.ownsRow w.heap.size 2 1 u r.length (bN eI r)/\Bw w w'/\pP t (cd W) W r:=by
 let⟨M,G,Q⟩:=Jh3 hv (Dg t v W w hv h) h;let⟨c,O,H⟩:=Jt3 (Df h.fit) h.a0 h.n;obtain⟨p,K,rfl,_⟩:=hv;let⟨s,L⟩:=aH (cd W);rw[L]at G c hts⊢;have D:=aa L;unfold bO at c;clear h L;by_cases d:t=0
 ·have T:(t==0)=true:=aG d;have I:=Du W.length af;have m:=aa (Tc (show 0<s from af) Q.o.pos);clear d;go_enter func361,ntmps361;go_wp2_with(go_at_call 360;refine G.o.bC ?_;rintro e i⟨rfl,b⟩;have a:=aa b;clear b);go_ret2;refine⟨List.replicate W.length 0,_,rfl, ?_,a.o.alloc a.o.size _,(show pP t s W _ by rw[show t=0 by simpa using T];exact m.o)⟩;rw[oq];refine⟨by rw[ik eI 1 kI,oq],ci ⟨i.heap.size,W.length,_,rfl,a.o.size,bI.new i 2 _,bL _,az,by unfold dP;simp, ?_⟩⟩;unfold dP;rw[nN,eU au]
 ·have T:(t==0)=false:=aG d;have q:(s==0)=false:=aA;have V:Hid (∀W1,Bw w W1->bG 376 #[t,.slice p W.length K,aY s] W1 (Ix t s W W1)):=aa (fun W1 hW=>Ta t s _ W W1 (M.o.keep hW) Q.o D.o af hts af);clear d;go_enter func361,ntmps361;go_wp2_with(first|(go_at_call 360;refine G.o.bC ?_;rintro e i⟨rfl,b⟩;have a:=aa b;clear b)|(go_at_call 376;refine(V.o _ a.o).bC ?_;rintro e k⟨r,u,rfl,J,f,g⟩;have P:=aa J;have l:=aa f;have j:=aa g;obtain⟨B,U,rfl⟩:=bV J;clear J f g));go_ret2;exact⟨r,_,rfl,d8 P.o a.o.size,a.o.bu (l.o.bC a.o.size),j.o⟩
def Iz(t:Int)(v:bE)(W:bF Int)(w:bD)(hv:Sl eI 1 w v W)(ok:oQ t W)(hlt:t<cd W):bG 329 #[t,v] w fun e w'=>∃r u,e=.returned (.tuple #[u,()])/\w'.ownsRow w.heap.size 2 1 u r.length (bN eI r)/\Bw w w'/\pP t (cd W) W r:=by let⟨G,M⟩:=Jh2 (Dg t v W w hv ok) hv;obtain⟨g,K,rfl,_⟩:=hv;have l:=aa ok;have h:=dF (show¬cd W<=t from af);have V:Hid (∀W1,Bw w W1->bG 361 #[t,.slice g W.length K] W1 fun e w'=>∃r u,e=.returned (.tuple #[u,()])/\w'.ownsRow W1.heap.size 2 1 u r.length (bN eI r)/\Bw W1 w'/\pP t (cd W) W r):=aa (fun W1 hW=>Td t _ W W1 (M.o.keep hW) l.o hlt);clear ok;go_enter func329,ntmps329;go_wp2_with(first|(go_at_call 360;refine G.o.bC ?_;rintro e i⟨rfl,b⟩;have a:=aa b;clear b)|(go_at_call 361;refine(V.o _ a.o).bC ?_;rintro e k⟨r,u,rfl,J,f,s⟩;have P:=aa J;have d:=aa f;have c:=aa s;obtain⟨B,U,rfl⟩:=bV J;clear J f s));go_ret2;exact⟨r,_,rfl,d8 P.o a.o.size,a.o.bu (d.o.bC a.o.size),c.o⟩
def Dx(t:Int)(W r:List Int)(er:Int):Prop:=(er≠0/\r=[])∨(er=0/\oQ t W/\((cd W<=t/\r=W)∨(t<cd W/\pP t (cd W) W r)))
def Te(t:Int)(W:List Int)(w:World)(e:Ending)(w':World):Prop:=∃r u er,e=.returned (.tuple #[u,aY er])/\w'.ownsRow w.heap.size 2 1 u r.length (bN eI r)/\Bw w w'/\Dx t W r er
def Tf(t:Int)(v:bE)(W:bF Int)(w:bD)(hv:Sl eI 1 w v W)(ht:bO t)(h64:ep W)(hn:W.length<=100000):bG 329 #[t,v] w (Te t W w):=by
 by_cases y:∃s,sR t W=(s,0)/\s<=t
 ·obtain⟨s,d,g⟩:=y;obtain⟨n,rfl⟩:=Iy ht d;refine(Dp t v W w hv n g).bC ?_;rintro e k⟨u,rfl,J,c⟩;exact⟨W,u,0,rfl,J,c,ci ⟨rfl,n,bS ⟨g,rfl⟩⟩⟩
 let⟨G,M⟩:=Jh2 (Tb t v W w hv h64 hn) hv;obtain⟨p,K,rfl,_⟩:=hv;let⟨⟨s,m⟩,D⟩:∃r,sR t W=r:=⟨_,rfl⟩;rw[D]at G;have q:=aa D;by_cases V:m=0
 ·subst V;have a:t<s:=by
   refine Int.lt_of_not_ge fun h=>y ⟨s,D,h⟩
  let⟨n,L⟩:=Iy ht D;refine(Iz t _ W w M.o n (by rw[<-L];exact a)).bC ?_;rintro e k⟨r,u,rfl,J,c,j⟩;exact⟨r,u,0,rfl,J,c,ci ⟨rfl,n,ci ⟨by rw[<-L];exact a,j⟩⟩⟩
 ·have f:(m !=0)=true:=aG V;clear D y;go_enter func329,ntmps329;go_wp2_with(go_at_call 360;refine G.o.bC ?_;rintro e i⟨rfl,b⟩;have l:=aa b;clear b);go_ret2;exact⟨[],_,m,rfl,⟨aK,bS ⟨rfl,rfl⟩⟩,l.o,bS ⟨aG f,rfl⟩⟩
structure Dr where
 (k m bJ:Int)deriving DecidableEq
abbrev nt(x:Dr):Array Value:=#[x.k,x.m,x.bJ]
def i9(x:Dr):List Value:=[x.k,x.m,x.bJ]
def sS(x:Dr):(i9 x).length=3:=rfl
def Dy(x:Dr):∀u∈i9 x,u.oneCell'=true:=by intro u X;simp[i9]at X;rcases X with rfl|rfl|rfl<;>rfl
def Dz:(prog.info? 343).map (fun i=>(i.zero,i.size,i.bytes))=some (some (.agg #[(),(),()]),3,24):=aj
def Tg(W:bD)(x:Dr)(b:Nat)(hb:W.heap.size=b):∀j u,(i9 x)[j]?=some u->(W.alloc (bH (nt x) 343)).cell? (((be b 0):Addr).add j)=some u:=by subst hb;intro j u X;rw[iX,fW,(bI.new W 343 (nt x)).c j];simpa[i9]using X
def Th{W:bD}{b o:Nat}{x:Dr}(h:∀j u,(i9 x)[j]?=some u->W.cell? ⟨b,o+j,none⟩=some u):W.cell? (b,o)=x.k/\W.cell? (b,o+1)=x.m/\W.cell? (b,o+2)=x.bJ:=by exact⟨h 0 _ rfl,h 1 _ rfl,h 2 _ rfl⟩
structure Pl where
 (cw cI:List Int)
 (line cap:Int)
abbrev rq(vc vf:Value)(p:Pl):Value:=.agg #[vc,vf,p.line,p.cap]
abbrev jw(vc vf:Value)(p:Pl):Array Value:=#[vc,vf,p.line,p.cap]
structure nx(w:World)(vc vf:Value)(p:Pl):Prop where
 c:Sl eI 1 w vc p.cw
 f:Sl eI 1 w vf p.cI
 e:p.cw.length=p.cI.length
 n:p.cw.length<=16
variable{w w':bD}
def nx.keep{vc vf:bE}{p:Pl}(h:nx w vc vf p)(c:Bw w w'):nx w' vc vf p:=⟨h.c.keep c,h.f.keep c,h.e,h.n⟩
def nx.forms{vc vf:bE}{p:Pl}(h:nx w vc vf p):∃a1 k1 a2 k2,vc=.slice a1 p.cw k1/\vf=.slice a2 p.cw k2:=by let⟨a1,k1,o,_⟩:=h.c;let⟨a2,k2,r,_⟩:=h.f;exact⟨a1,k1,a2,k2,o,by rw[h.e];exact r⟩
def Ti{v1 v2 v3:bE}{l1 l2 l3:bF Int}(h1:Sl eI 1 w v1 l1)(h2:Sl eI 1 w v2 l2)(h3:Sl eI 1 w v3 l3):Io w [v1,v2,v3] [l1,l2,l3]:=⟨rfl,fun i hi _=>by
 simp at hi;obtain rfl|rfl|rfl:i=0∨i=1∨i=2:=af
 ·exact h1
 ·exact h2
 ·exact h3⟩
variable{g:Nat}{x:Int}
def Sl.Tj{y:Int}{T:TypeId}(h:bI w g T #[x,y]):Sl eI 1 w (.slice (some (be g 0)) 2 2) [x,y]:=by
 refine⟨some (be g 0),2,rfl,fun e=>(by cases e),bL _,az,fun _=>⟨g,0,rfl,h.lt, ?_⟩⟩;intro i p j u X;obtain⟨rfl⟩:j=0:=by
  have:=(ada.1 X).1
  simpa[eI]using this
 simp at p;obtain rfl|rfl:i=0∨i=1:=af
 ·have:=h.c 0;simpa[eI]using this.bu (by simpa[eI]using X)
 ·have:=h.c 1;simpa[eI]using this.bu (by simpa[eI]using X)
def AnyE(w:World)(e:Ending)(w':World):Prop:=∃y,e=.returned (aY y)/\Bw w w'
def Tk(vc vf:bE)(p:Pl)(w:bD)(h:nx w vc vf p):bG 354 #[rq vc vf p] w (AnyE w):=by
 obtain⟨B,K,a,U,rfl,rfl⟩:=h.forms;have u:=h.n;have HE:=aa h.e;let⟨G,r⟩:=aH (((w.alloc (bH (jw (.slice B p.cw K) (.slice a p.cw U) p) 340)).alloc (bH #[p.line,p.cap] 2)).alloc (bH #[.slice B p.cw K,.slice a p.cw U,.slice (some (be (w.heap.size+1) 0)) 2 2] 45));have F:Bw w G:=by rw[<-r];exact(aI.alloc au _).alloc aA _
 have Z:bI G (w.heap.size+1) 2 #[p.line,p.cap]:=by
  rw[<-r];have:=(bI.new (aZ w (jw (.slice B p.cw.length K) (.slice a p.cw.length U) p) 340) 2 #[p.line,p.cap]).alloc (bH #[.slice B p.cw.length K,.slice a p.cw.length U,.slice (some (be (w.heap.size+1) 0)) 2 2] 45);simpa using this
 have P:bI G (w.heap.size+2) 45 [.slice B p.cw K,.slice a p.cw U,.slice (some (be (w.heap.size+1) 0)) 2 2].toArray:=by
  rw[<-r];have:=bI.new ((w.alloc (bH (jw (.slice B p.cw.length K) (.slice a p.cw.length U) p) 340)).alloc (bH #[p.line,p.cap] 2)) 45 #[.slice B p.cw.length K,.slice a p.cw.length U,.slice (some (be (w.heap.size+1) 0)) 2 2];simpa using this
 have A:Sl eI 1 G (.slice a p.cw U) p.cI:=h.f.keep F;have z:[p.cw,p.cI,[p.line,p.cap]].flatten.length=p.cw.length+p.cw.length+2:=by simp[h.e];omega
 have M:=aa (R9 (w.heap.size+2) _ [p.cw,p.cI,[p.line,p.cap]] G P (Ti (h.c.keep F) A (Sl.Tj Z)) (by rw[z];omega) au);let⟨S,E⟩:=Jh2 r F;let⟨L,t⟩:=aH ([p.cw,p.cI,[p.line,p.cap]].flatten);rw[t]at M z;have hz:=(bI.new w 340 (jw (.slice B p.cw K) (.slice a p.cw U) p)).c 0;have J:¬(16<(p.cw:Int)):=af;have l:=dF J;clear h r F Z P A t z;go_enter func354,ntmps354;go_wp2_with(first
  |(rw[show((w.alloc (bH (jw (.slice B p.cw.length K) (.slice a p.cw.length U) p) 340)).alloc (bH #[p.line,p.cap] 2)).alloc (bH #[.slice B p.cw K,.slice a p.cw U,.slice (some ⟨w.heap.size+1,0,none⟩) 2 2] 45)=G from S.o])
  |(go_at_call 372;refine M.o.bC ?_;rintro e X⟨v4,rfl,d,R⟩;have W:=aa (Sl.own kI d);have s:=aa (E.o.bu (R.bC E.o.size));obtain⟨D,k4,rfl⟩:=bV d;clear d R))
 go_loopw[30] (fun vi wr=>X=wr/\∃k:Nat,k<=L.length/\vi=k) (aW L.length);exact⟨rfl,0,cH _,rfl⟩;obtain⟨rfl,k,Y,rfl⟩:=hrel;by_cases I:k<L.length
 ·obtain⟨T,Q,b,m,rfl,y,H⟩:=W.o.hd;have v:=H k I 0 _ rfl;rw[gD,gg]at v;unfold maxLen at Q;have O:0<=(k:Int):=af;have C:k<(L:Int):=af;let⟨x,j⟩:=aH (L[k]);rw[j]at v;clear H j;by_cases V:x<0
  ·have q:=dT V;go_wp2;go_ret;exact⟨_,rfl,s.o⟩
  have q:=dF V;by_cases g:(1099511627776:Int)<x
  ·have N:=dT g;go_wp2;go_ret;exact⟨_,rfl,s.o⟩
  have N:=dF g;go_wp2;go_roundw;exact⟨aE,k+1,af,aw⟩;exact aV
 ·obtain rfl:k=L.length:=af;have i:¬(L.length<(L:Int)):=af;go_wp2;go_ret;exact⟨_,rfl,s.o⟩
def Tl{l:bF Int}{n:Int}(h:∀j (hj:j<l.length),j<k->0<l[j]/\l[j]<=n)(hk:k<l.length)(h2:0<l[k]/\l[k]<=n):∀j (hj:j<l.length),j<k+1->0<l[j]/\l[j]<=n:=fun j hj hjk=>by
 rcases fA j k with h3|h3
 ·exact h j hj h3
 ·obtain rfl:j=k:=af;exact h2
def Tn(out:List Int)(n:Nat)(w:World)(e:Ending)(w':World):Prop:=∃y,e=.returned (aY y)/\Bw w w'/\(y=0->∀x∈out,0<x/\x<=(n:Int))
def IA(vc vf vo:bE)(p:Pl)(out:bF Int)(w:bD)(h:nx w vc vf p)(ho:Sl eI 1 w vo out):bG 322 #[rq vc vf p,vo] w (Tn out p.cw w):=by
 have u:=h.n;have M:Bw w (aZ w (jw vc vf p) 340):=aI;let⟨P,Q,N⟩:=Jh3 (Tk vc vf p _ (h.keep M)) ho (bI.new w 340 (jw vc vf p));obtain⟨G,z,W,U,rfl,rfl⟩:=h.forms;obtain⟨no,d,rfl,_⟩:=ho;have t:=aa M;let⟨g,v⟩:=aH (w.alloc (bH (jw (.slice G p.cw z) (.slice W p.cw U) p) 340));rw[v]at P t N;have A:=aa v;have X:g.cell? (be w 0)=some (.slice G p.cw z):=N.o.c 0;have E:g.cell? (be w 1)=some (.slice W p.cw U):=N.o.c 1;have H:g.cell? (be w 2)=p.line:=N.o.c 2;have q3:g.cell? (be w 3)=p.cap:=N.o.c 3;clear h M v;go_enter func322,ntmps322;go_wp2_with fail;rw[show w.alloc (bH (jw (.slice G p.cw.length z) (.slice W p.cw.length U) p) 340)=g from A.o];refine P.o.bC ?_;rintro e w2⟨y,rfl,f⟩;let⟨r,Z⟩:=Jh2 (t.o.bu (f.bC t.o.size)) (N.o.keep f);have J:=aa (Q.o.keep r.o);clear f X E H q3;by_cases B:y=0
 rotate_left
 ·have hd:=dT B;go_wp2;go_ret;exact⟨_,rfl,r.o,fun h=>xl h B⟩
 subst B;have X:w2.cell? (be w 0)=some (.slice G p.cw z):=Z.o.c 0;go_wp2;go_loopw[6,16] (fun vl vi wr=>w2=wr/\∃(k:Nat) (l:Int),k<=out.length/\vi=k/\vl=l/\0<=l/\∀j (hj:j<out.length),j<k->0<out[j]/\out[j]<=(p.cw:Int)) (fun _ vi _=>out.length-(intOf vi).toNat);exact⟨rfl,0,0,cH _,rfl,rfl,af,fun j _ h=>af⟩;obtain⟨rfl,k,l,hk,rfl,rfl,S,K⟩:=hrel;have L:=aa K;by_cases a:k<out
 ·obtain⟨F,R,b,m,rfl,ac,s⟩:=J.o.hd;have Y:=s k a 0 _ rfl;rw[gD,gg]at Y;unfold maxLen at R;have O:0<=(k:Int):=af;have C:k<(out:Int):=af;have T:=aa (Tl K a);let⟨x,D⟩:=aH (out[k]);rw[D]at Y T;clear s D K;by_cases V:x<=l
  ·have q:=dT V;go_wp2;go_ret;exact⟨_,rfl,r.o,fun h=>by cases h⟩
  have q:=dF V;by_cases x2:(p.cw:Int)<x
  ·have I:=dT x2;go_wp2;go_ret;exact⟨_,rfl,r.o,fun h=>by cases h⟩
  have I:=dF x2;go_wp2;go_roundw;exact⟨aE,k+1,x,af,aw,rfl,af,T.o af⟩;exact aV
 ·obtain rfl:k=out.length:=af;have ab:¬(out.length<(out:Int)):=af;clear K;go_wp2;go_ret;refine⟨_,rfl,r.o,fun _ x D=> ?_⟩;obtain⟨i,hi,rfl⟩:=eW D;exact L.o i hi hi
def zQ(k m n:Int)(w:bD):bG 356 #[k,m,n] w fun e w'=>e=.returned (.slice (some (be w 0)) 1 1)/\w'=aZ w (nt ⟨k,m,n⟩) 343:=by go_enter func356,ntmps356;go_wp2;go_ret;exact⟨rfl,rfl⟩
def IB(v:bE)(l:bF Dr)(w:bD)(hv:Sl i9 3 w v l):bG 325 #[v] w fun e w'=>∃n:Int,e=.returned n/\bO n/\Bw w w':=by
 have M:=aa hv;obtain⟨r,d,rfl,_⟩:=hv;go_enter func325,ntmps325;go_wp2;go_loopw[3,8] (fun vn vi wr=>Bw w wr/\∃(k:Nat) (n:Int),k<=l.length/\vi=k/\vn=n/\bO n) (fun _ vi _=>l.length-(intOf vi).toNat);exact⟨bM _ _,0,0,cH _,rfl,rfl,aJ⟩;obtain⟨u,k,n,t,rfl,rfl,H⟩:=hrel;let⟨N,K⟩:=Jh2 u (M.o.keep u);have g:=u.size;have f:=aa H;clear u H;by_cases h:k<l
 ·obtain⟨F,c,b,m,rfl,y,a⟩:=K.o.hd;have p:=a k h 0 _ rfl;have s:=a k h 1 _ rfl;have P:=a k h 2 _ rfl;rw[gg]at p;unfold maxLen at c;have O:0<=(k:Int):=af;have C:k<(l:Int):=af;let⟨x,j⟩:=aH (l[k]);rw[j]at p s P;clear a j;by_cases V:wrap64 (9223372036854775807-n)<x.bJ
  ·have q:=dT V;go_wp2;go_ret;exact⟨_,rfl,aJ,N.o.alloc g _⟩
  have q:=dF V;exact QbW
 ·obtain rfl:k=l.length:=af;have i:¬(l.length<(l:Int)):=af;go_wp2;go_ret;exact⟨_,rfl,f.o,N.o⟩
def pQ(l:List Dr):Prop:=∀x∈l,bO x.bJ
def To(n:Nat)(w:World)(e:Ending)(w':World):Prop:=∃v r,e=.returned v/\w'.ownsRow w.heap.size 343 3 v r.length (bN i9 r)/\Bw w w'/\r.length<=n/\pQ r
def Tp{r:bF Int}{er:Int}(h:Dx t W r er):r.length<=W:=by
 rcases h with⟨_,rfl⟩|⟨_,_,⟨_,rfl⟩|⟨_,hp⟩⟩
 ·simp
 ·exact bL _
 ·exact Nat.le_of_eq hp.len
def Tq{r:bF Int}{er:Int}(h:Dx t W r er)(h64:ep W):ep r:=by
 rcases h with⟨_,rfl⟩|⟨_,_,⟨_,rfl⟩|⟨_,hp⟩⟩
 ·intro x j;cases j
 ·exact h64
 ·intro x j;obtain⟨i,p,rfl⟩:=eW j;have d:=hp.pos i (by rw[<-hp.len];exact p);rw[dy,dG p,dy,dG (by rw[<-hp.len];exact p)]at d;simp only[pB]at d;have c:=h64 _ (cZ (by rw[<-hp.len];exact p:i<W));unfold bO at c⊢;omega
def ma(s:List Dr)(k:Nat):List Int:=(s.take k).map Dr.bJ
def Ts(s:bF Dr):ma s 0=[]:=by unfold ma;simp
def IC{s:bF Dr}(h:k<=s):(ma s k).length=k:=by unfold ma;rw[cR,dx];omega
def Tt{s:bF Dr}(h:pQ s)(k:Nat):ep (ma s k):=fun n hn=>by
 unfold ma at hn;rw[Fy]at hn;obtain⟨x,hx,rfl⟩:=hn;exact h x (rW hx)
def Tu(s:bF Dr)(k:Nat)(h:k<s):ma s (k+1)=ma s k++[s[k].bJ]:=by unfold ma;rw[fj h,jf];rfl
def wu(s:List Dr)(r:List Int)(i:Nat):Option Dr:=if 0<r.getD i 0 then some ⟨(s.getD i ⟨0,0,0⟩).k,(s.getD i ⟨0,0,0⟩).m,r.getD i 0⟩else none
def mv(s:List Dr)(r:List Int)(k:Nat):List Dr:=(List.range k).filterMap (wu s r)
def Tv(s:bF Dr)(r:bF Int):mv s r 0=[]:=by unfold mv;simp
def Tw{s:bF Dr}{r:bF Int}(h:k<r)(h2:k<s)(hp:0<r[k]):mv s r (k+1)=mv s r k++[⟨s[k].k,s[k].m,r[k]⟩]:=by
 have o:r.getD k 0=r[k]:=by rw[dy,dG h];rfl
 have a:s.getD k ⟨0,0,0⟩=s[k]:=by rw[dy,dG h2];rfl
 have Q:wu s r k=some ⟨s[k].k,s[k].m,r[k]⟩:=by unfold wu;rw[o,a,yc hp]
 unfold mv;rw[xH,xz,uY,Q];rfl
def Tx{s:bF Dr}{r:bF Int}(h:k<r)(hp:¬0<r[k]):mv s r (k+1)=mv s r k:=by
 have o:r.getD k 0=r[k]:=by rw[dy,dG h];rfl
 have Q:wu s r k=none:=by unfold wu;rw[o,ya hp]
 unfold mv;rw[xH,xz,uY,Q];simp
def Ty(s:bF Dr)(r:bF Int)(k:Nat):(mv s r k).length<=k:=by unfold mv;exact bW (gK _ _) au
def Tz(s:bF Dr)(r:bF Int)(k:Nat)(hr:ep r):pQ (mv s r k):=fun x hx=>by
 unfold mv at hx;rw[acY]at hx;obtain⟨i,_,hx⟩:=hx;unfold wu at hx;split at hx
 ·obtain rfl:=Option.some.inj hx;show bO (r.getD i 0);rw[dy];cases he:r[i]? with
  |none=>unfold bO;simp
  |some y=>exact hr y (vy he)
 ·cases hx
def TA(v:bE)(s:bF Dr)(need:Int)(w:bD)(hv:Sl i9 3 w v s)(hn:s.length<=16)(hd:pQ s)(h64:bO need):bG 324 #[v,need] w (To s w):=by
 let⟨HV,HD,ar⟩:=Jh3 hv hd h64;obtain⟨V,d,rfl,_⟩:=hv;let⟨i0,hi,aq,X,am⟩:=wm mW;let⟨i1,gi,N,ao,S⟩:=wm Dz;clear hd h64;go_enter func324,ntmps324;go_wp2;go_loopw[5,15] (fun vp vi wr=>Bw w wr/\∃k:Nat,k<=s.length/\vi=k/\wr.ownsRow w 2 1 vp (ma s k).length (bN eI (ma s k))) (fun _ vi _=>s.length-(intOf vi).toNat);exact⟨bM _ _,0,cH _,rfl,by rw[Ts];exact mQ _ _ _ _⟩;obtain⟨hb,k,hk,rfl,J⟩:=hrel;let⟨HB,HO,K⟩:=Jh3 hb J (HV.o.keep hb);have g:=hb.size;obtain⟨n6,k6,rfl⟩:=bV J;clear hb J;by_cases T:k<s
 ·obtain⟨F,c,b,ax,rfl,an,n⟩:=K.o.hd;have r0:=n k T 0 _ rfl;have r1:=n k T 1 _ rfl;have r2:=n k T 2 _ rfl;rw[gg]at r0;unfold maxLen at c;have O:0<=(k:Int):=af;have C:k<(s:Int):=af;have ac:=aa (Tu s k T);have Z:(ma s k).length=k:=IC hk;let⟨x,j⟩:=aH (s[k]);rw[j]at r0 r1 r2 ac;let⟨L,t⟩:=aH (ma s k);rw[t]at HO ac Z;have aD:L.length<=16:=af;clear Z;rw[t];clear n j t;go_wp2_with(at_builtin;refine fG kI ah kj _ rfl _ _ 45 rfl w 2 i0 (aY 0) 8 underlying45 hi aq X am aB (.slice n6 L.length k6) L rfl ((HO.o.alloc (bH (nt x) 343)).alloc (bH #[aY x.bJ] 2)) (some (be (wr.heap.size+1) 0)) 1 [x.bJ] rfl (Sl.fg eI kI _ 2 _ aB _ au) Qaj QaN aA ?_;intro v' w2 R l M;have G:=((HB.o.alloc g (bH (nt x) 343)).alloc aA (bH #[aY x.bJ] 2)).grown l aA (fun q hq=>(HO.o.lt q hq).1);rw[<-ac.o]at R;have ad:=aa R;obtain⟨n2,U,rfl⟩:=bV R;clear l M R);go_roundw;exact⟨G,k+1,af,aw,ad.o⟩;exact aV
 ·obtain rfl:k=s.length:=af;have av:¬(s.length<(s:Int)):=af;have A:(ma s s).length=s.length:=IC (bL _);have ae:=aa (Tt HD.o s);have ai:=aa (Tf need _ (ma s s) wr (Sl.own kI HO.o) ar.o ae.o (by rw[A];omega));let⟨L,t⟩:=aH (ma s s);rw[t]at ai HO ae A;rw[t];have H6:=aa A;clear t A;go_wp2_with(go_at_call 329;refine ai.o.bC ?_;rintro e w3⟨r,u,er,rfl,J,c3,D⟩;have ap:=aa (Tp D);have ak:=aa (Tq D ae.o);have HR:=aa J;have E:=aa (HB.o.bu (c3.bC g));obtain⟨nr,z,rfl⟩:=bV J;clear J c3 D);go_loopw[10,33] (fun vp vi wr=>Bw w3 wr/\∃k:Nat,k<=r.length/\vi=k/\wr.ownsRow w3 343 3 vp (mv s r k).length (bN i9 (mv s r k))) (fun _ vi _=>r.length-(intOf vi).toNat);exact⟨bM _ _,0,cH _,rfl,by rw[Tv];exact mQ _ _ _ _⟩;obtain⟨hb,k,hk,rfl,J⟩:=hrel;let⟨P,ab⟩:=Jh2 (E.o.bu (hb.bC E.o.size)) J;let⟨H,aj,Q⟩:=Jh3 (HV.o.keep P.o) (Sl.own kI (cJ HR.o hb)) hb;have az:=P.o.size;have ay:=Ty s r k;have aF:r.length<=s:=by have h1:=ap.o;have h2:=H6.o;omega
  obtain⟨n8,Y,rfl⟩:=bV J;clear hb J;by_cases T:k<r
  ·have a:k<s:=af;obtain⟨F,c,b,ax,rfl,an,n⟩:=aj.o.hd;have r0:=n k T 0 _ rfl;rw[gD,gg]at r0;unfold maxLen at c;obtain⟨aE,p,b2,I,rfl,aC,f⟩:=H.o.hd;have W:=f k a 0 _ rfl;have s1:=f k a 1 _ rfl;rw[gg]at W;unfold maxLen at p;have O:0<=(k:Int):=af;have C:k<(r:Int):=af;have aG:k<(s:Int):=af;clear n f;by_cases hp:0<r[k]
   ·have i:=aa (Tw T a hp);let⟨y,B⟩:=aH (r[k]);let⟨x,j⟩:=aH (s[k]);rw[B]at r0 hp;rw[j]at W s1;rw[j,B]at i;have hd:=dT hp;let⟨L2,ag⟩:=aH (mv s r k);rw[ag]at ab i ay;rw[ag];clear B j ag;go_wp2_with(at_builtin;refine fG sS ah Dy _ rfl _ _ 396 rfl w3 343 i1 (.agg #[(),(),()]) 24 underlying396 gi N ao S aB (.slice n8 L2.length Y) L2 rfl (ab.o.alloc (bH (nt ⟨x.k,x.m,y⟩) 343)) (some (be wr 0)) 1 [⟨x.k,x.m,y⟩] rfl (Sl.fg i9 sS _ 343 _ aB _ rfl) (by show L2.length+1<=maxLen;unfold maxLen;omega) (by show(L2.length+1)*24<=_;omega) (by have h:=Q.o.size;simp;omega) ?_;intro v' w2 R l M;have G:=((Q.o.alloc Q.o.size (bH (nt ⟨x.k,x.m,y⟩) 343))).grown l (by have h:=Q.o.size;simp;omega) (fun q hq=>(ab.o.lt q hq).1);rw[<-i.o]at R;have ad:=aa R;obtain⟨n2,U,rfl⟩:=bV R;clear l M R);go_roundw;exact⟨G,k+1,af,aw,ad.o⟩;exact aV
   ·have i:=aa (Tx (s:=s) T hp);have hd:=dF hp;let⟨y,B⟩:=aH (r[k]);rw[B]at r0 hd;clear B;go_wp2;go_roundw;exact⟨Q.o,k+1,af,aw,by rw[i.o];exact ab.o⟩;exact aV
  ·obtain rfl:k=r.length:=af;have av:¬(r.length<(r:Int)):=af;go_wp2;go_ret;exact⟨_,_,rfl,d8 ab.o E.o.size,P.o,af,Tz s r _ ak.o⟩
def oS:Tm:=⟨0,0,0,0⟩
def pR(l:List Tm)(P:List Nat)(k:Nat):List Tm:=(P.take k).map fun i=>l.getD i oS
def ID(W:bD)(u:bE):∀j v,([u]:bF bE)[j]?=some v->(W.alloc (bH #[u] 45)).cell? (((be W 0):Addr).add j)=some v:=by intro j v J;rw[iX,fW,(bI.new W 45 #[u]).c j];simpa using J
def IE(l:List Tm)(w:World)(e:Ending)(w':World):Prop:=∃v P,e=.returned v/\P.Perm (List.range l)/\ro (l.map gT) P/\w'.ownsRow w 197 4 v (P.map fun i=>l.getD i oS).length (bN fB (P.map fun i=>l.getD i oS))/\Bw w w'
def IF(v:bE)(l:bF Tm)(w:bD)(hv:Sl fB 4 w v l)(hn:l.length<=9000):bG 196 #[v] w (IE l w):=by
 have HS:=aa hv;obtain⟨n1,k1,rfl,_⟩:=hv;let⟨i0,hi,S,a0,aL⟩:=wm xS;let⟨j0,J,aP,aE,aT⟩:=wm Dd;go_enter func196,ntmps196;go_wp2;go_loopw[3,11] (fun x3 vi wr=>∃(k:Nat) (vs:bF bE) (s:bE),k<=l.length/\vi=k/\s=x3/\jX w wr s ((l.take k).map gT) vs/\Bw w wr) (fun _ vi _=>l.length-(intOf vi).toNat);exact⟨0,[],_,cH _,rfl,rfl,⟨rfl,⟨aK,bS ⟨rfl,rfl⟩⟩,fun i hi=>xl hi au⟩,bM _ _⟩;obtain⟨k,vs,s,hk,rfl,rfl,A,ac⟩:=hrel;have ag:=aa A;by_cases ak:k<l
 ·obtain⟨a4,an,b,ax,rfl,_,n⟩:=(HS.o.keep ac).hd;let⟨r0,r1,r2,r3⟩:=sr (n k ak);have aR:0<=(k:Int):=af;have C:k<(l:Int):=af;unfold maxLen at an;have aj:Hid ((l.take (k+1)).map gT=(l.take k).map gT++[gT l[k]]):=aa (by rw[fj ak,jf];rfl);have aD:((l.take k).map gT).length<=k:=by rw[cR,dx];omega
  let⟨KS,aq⟩:=aH ((l.take k).map gT);rw[aq]at ag aj A aD;generalize l[k]=x at*;have g:=bV A.own;obtain⟨nk,kk,rfl⟩:=g;let⟨E,m⟩:=aH KS.length;have a:=aa m;rw[m]at ag aD⊢;have cA:Bw wr (aZ wr (dL x) 197):=aI;have bA:=ac.bu (cA.bC ac.size);let⟨O,W⟩:=Jh2 (ag.o.keep cA) (RQ x (aZ wr (dL x) 197));clear n A aq m;go_wp2_with(first|(go_at_call 243;refine W.o.bC ?_;rintro e w2⟨u,rfl,X,c2⟩;have aN:=aa X;obtain⟨nu,ku,rfl⟩:=bV X;have b2:=bA.bu (c2.bC bA.size);have R:=aa ((O.o.keep c2).keep ((bM w2 w2).alloc (bL _) (.cells #[.slice nu (gT x).length ku] 45)));have a5:=aa (d8 (cJ aN.o ((bM w2 w2).alloc (bL _) (.cells #[.slice nu (gT x).length ku] 45))) bA.size);have V:=b2.alloc b2.size (bH #[.slice nu (gT x).length ku] 45);have a1:=aa (ID w2 (.slice nu (gT x).length ku));clear X c2)|(at_builtin;refine wpList_append_own_at _ rfl _ _ 313 rfl w 45 j0 (.slice none 0 0) 1 24 underlying313 J aP aE aT rfl ah (.slice nk E kk) E (bN eV vs) rfl (by have:=R.o.own;first|exact this|(rw[a.o]at this;exact this)) (be w2 0) 1 1 [.slice nu (gT x).length ku] rfl rfl (by exact a1.o) Qb0 az af (by exact V.size) ?_;intro bb W6 h ab _ M;have aU:=aa (R.o.grow (u:=.slice nu (gT x).length ku) (z:=gT x) a5.o (by first|exact ab|(rw[a.o];exact ab)) (by rw[a.o];exact h));have b6:=V.grown ab V.size (fun q hq=>(R.o.own.lt q (by first|exact hq|(rw[a.o];exact hq))).1);obtain⟨a8,bc,rfl⟩:=bV h;clear h ab M));go_roundw;exact⟨k+1,_,_,af,aw,rfl,by rw[aj.o];exact aU.o,b6⟩;exact aV
 ·obtain rfl:k=l.length:=af;have aW:¬(l.length<(l:Int)):=af;rw[ic]at ag A;have D:(l.map gT).length<=10000:=aQ;have aA:=Dc s _ vs wr ag.o.at D;have g:=bV A.own;rw[cR]at g;obtain⟨nk,kk,rfl⟩:=g;have aS:=aa aA;have aJ:=ac.size;clear aA D A;go_wp2_with(go_at_call 244;refine aS.o.bC ?_;rintro e T⟨v5,P,rfl,ad,ae,j,c5⟩;rw[cR]at ad ae;have H:=aa ad;obtain⟨U,k5,rfl⟩:=bV ad;have ao:=aa ae;have HX:=aa j;clear ad ae j);have N:P.length=l.length:=aG ao.o.length_eq;have a3:=aa (Sl.own kI (l:=P.map fun i:Nat=>(i:Int)) (by rw[cR,N];exact H.o));have Y:=aa ((HS.o.keep ac).keep c5);have t:=ac.bu (c5.bC aJ);have al:=t.size;have aF:Hid (∀i∈P,i<l.length):=aa fun i hi=>by simpa using ao.o.mem_iff.1 hi
  have f:=aa N;clear N H c5;go_loopw[6,24] (fun vo vi wr2=>∃k:Nat,k<=l.length/\vi=k/\wr2.ownsRow T 197 4 vo (pR l P k).length (bN fB (pR l P k))/\Bw T wr2) (fun _ vi _=>l.length-(intOf vi).toNat);exact⟨0,cH _,rfl,⟨by simp[bN,pR],bS ⟨rfl,rfl⟩⟩,bM _ _⟩;obtain⟨k,hk,rfl,h,F⟩:=hrel;have Q:=aa h;obtain⟨no,ko,rfl⟩:=bV h;clear h;by_cases ak:k<l
  ·let⟨a',ar,ap,_,a4,an,av⟩:=a3.o;rw[cR,f.o]at ap;have am:k<P.length:=by rw[f.o];exact ak
   have aO:k<(P.map fun i:Nat=>(i:Int)).length:=by rw[cR];exact am
   let⟨e1,r⟩:U=a'/\k5=ar:=aG ap;subst e1 r;obtain⟨b,ax,rfl,aM,n⟩:=av af;have q0:=n k aO 0 _ rfl;rw[gD,gg,lj]at q0;have r0:=(F.c (p:=(b,ax+k)) aM).bu q0;have ay:P[k]<l.length:=aF.o _ (cZ am);obtain⟨a9,a2,d,I,rfl,ai,aC⟩:=Y.o.hd;let⟨p0,Z,p2,p3⟩:=sr (aC P[k] ay);let⟨r1,r2,r3,r4⟩:=Jt4 ((F.c (p:=⟨d,I+P[k]*4,none⟩) ai).bu p0) ((F.c (p:=⟨d,I+P[k]*4+1,none⟩) ai).bu Z) ((F.c (p:=⟨d,I+P[k]*4+2,none⟩) ai).bu p2) ((F.c (p:=⟨d,I+P[k]*4+3,none⟩) ai).bu p3);have aR:0<=(k:Int):=af;have C:k<(l:Int):=af;have bh:0<=(P[k]:Int):=af;have ba:(P[k]:Int)<(l:Int):=af;unfold maxLen at an a2;have aj:Hid (pR l P (k+1)=pR l P k++[l[P[k]]]):=aa (by
    unfold pR;rw[fj am,jf];simp only[eu,nH];rw[dy,dG ay];rfl)
   have a7:(pR l P k).length<=k:=by unfold pR;rw[cR,dx];omega
   clear n aC q0 p0 Z p2 p3 av ap;generalize pR l P k=L at*;generalize l[P[k]]=y at*;generalize P[k]=pk at*;have a6:=F.size;go_wp2_with(at_builtin;refine fG mj ah sq _ rfl _ _ 148 rfl T 197 i0 (.agg #[(),(),(),()]) 32 underlying148 hi S a0 aL aB (.slice no L ko) L rfl (Q.o.alloc _) (some (be wr 0)) 1 [y] rfl (Sl.fg fB mj _ 197 _ aB _ rfl) Qaj (by show(L.length+1)*32<=_;omega) (F.alloc F.size (bH (dL y) 197)).size ?_;intro v' w2 h ab M;have G:=(F.alloc F.size (bH (dL y) 197)).grown ab (F.alloc F.size _).size (fun q hq=>(Q.o.lt q hq).1);rw[<-aj.o]at h;obtain⟨B,k2,rfl⟩:=bV h;clear ab M);go_roundw;exact⟨k+1,af,aw,h,G⟩;exact aV
  ·obtain rfl:k=l.length:=af;have aW:¬(l.length<(l:Int)):=af;have K:Hid (pR l P l.length=P.map fun i=>l.getD i oS):=aa (by unfold pR;rw[eU (by rw[f.o];exact bL _)]);go_wp2;go_ret;refine⟨_,P,rfl,ao.o,HX.o, ?_,t.bu (F.bC al)⟩;rw[<-K.o];exact d8 Q.o al
def TB:∀w,(isAgg 120).run prog w=.ok true w:=fun w=>aj
def TC:∀args w,(callFunc 305 args).run prog w=.ok (.enter 305 args) w:=enters_of func305 aj rfl
def TD:∀args w,(callFunc 346 args).run prog w=.ok (.enter 346 args) w:=enters_of func346 aj rfl
def TE(a:Option Addr)(c:Nat)(fv:bE)(w:bD):bG 367 #[.slice a 0 c,fv] w (bj (-1:Int) w):=by go_enter func367,ntmps367;exact QaA
def TF(a:Option Addr)(c:Nat)(fv:bE)(w:bD):bG 304 #[.slice a 0 c,fv] w (bj (.bool false) w):=by go_enter func304,ntmps304;go_wp2_with(go_at_call 290;refine(Ht a c fv _).bC ?_;rintro e i⟨rfl,rfl⟩);go_ret;exact⟨rfl,rfl⟩
def TG(a:Option Addr)(c:Nat)(fv:bE)(w:bD):bG 345 #[.slice a 0 c,fv] w (bj (.bool false) w):=by go_enter func345,ntmps345;go_wp2_with(go_at_call 367;refine(TE a c fv _).bC ?_;rintro e i⟨rfl,rfl⟩);go_ret;exact⟨rfl,rfl⟩
def TH(p:Ob->Bool)(g:Nat)(lb:Array bE)(eg:∀args w,(callFunc g args).run prog w=.ok (.enter g args) w)(v:bE)(l:bF Ob)(w:bD)(hv:Sl eS 6 w v l)(hp:Go.Proofs.PredBelow prog g lb (fun x=>.agg (eS x).toArray) p w):
  bG 304 #[v,.func (.func g) #[] lb] w (bi (.bool (l.any p)) w):=by
 obtain⟨a,cap,rfl,O,d,c,P⟩:=hv;unfold maxLen at c;by_cases S:l.length=0
 ·obtain rfl:=lB S;exact(TF a cap _ w).bC fun e w' ⟨he,hw⟩=>⟨by rw[he];rfl,by rw[hw];exact bM _ _⟩
 ·obtain⟨b,m,rfl,u,f⟩:=P af;have h:=Go.Proofs.AnyQ.slices_ContainsFunc l304 6 Hv Hu eS il p g lb eg b m l cap l w hp (bL _) af u (Sl.re (n:=0) (cap:=0) f);rw[ic]at h;exact h
def TI(p:Lg->Bool)(g:Nat)(lb:Array bE)(eg:∀args w,(callFunc g args).run prog w=.ok (.enter g args) w)(v:bE)(l:bF Lg)(w:bD)(hv:Sl df 3 w v l)(hp:Go.Proofs.PredBelow prog g lb (fun x=>.agg (df x).toArray) p w):
  bG 345 #[v,.func (.func g) #[] lb] w (bi (.bool (l.any p)) w):=by
 obtain⟨a,cap,rfl,O,d,c,P⟩:=hv;unfold maxLen at c;by_cases S:l.length=0
 ·obtain rfl:=lB S;exact(TG a cap _ w).bC fun e w' ⟨he,hw⟩=>⟨by rw[he];rfl,by rw[hw];exact bM _ _⟩
 ·obtain⟨b,m,rfl,u,f⟩:=P af;have h:=Go.Proofs.AnyQ.slices_ContainsFunc l345 3 TB sizeOf120 df eG p g lb eg b m l cap l w hp (bL _) af u (Sl.re (n:=0) (cap:=0) f);rw[ic]at h;exact h
def TJ(g1:Nat)(c:Int)(x:Ob)(w:bD)(h1:bI w g1 3 #[c]):bG 305 #[.agg (eS x).toArray,ptr g1] w (bi (.bool (decide (c<=x.cycle))) w):=by obtain⟨o,F,T,O,l,a⟩:=x;have C:Bw w (aZ w #[o,F,T,O,l,a] 71):=aI;have Z:=(h1.keep C).c 0;clear h1;show bG 305 #[.agg #[o,F,T,O,l,a],ptr g1] w _;go_enter func305,ntmps305;go_wp2;go_ret;exact⟨rfl,C⟩
def sU(x y:Lg):Bool:=decide (y.mem=x.mem)&&decide (y.bK=x.bK)
def TK(g1:Nat)(x y:Lg)(w:bD)(h1:bI w g1 120 #[x.mem,x.bK,x.bJ]):bG 346 #[.agg (df y).toArray,ptr g1] w (bi (.bool (sU x y)) w):=by
 obtain⟨b,a,f⟩:=y;have C:Bw w (aZ w #[b,a,f] 120):=aI;have j:=(h1.keep C).c 0;have Z:=(h1.keep C).c 1;have Y:=(h1.keep C).c 2;have Q:Hid (sU x ⟨b,a,f⟩=(decide (b=x.mem)&&decide (a=x.bK))):=aa rfl;clear h1;show bG 346 #[.agg #[b,a,f],ptr g1] w _;by_cases d:b=x.mem
 ·have u:=beq_iff_eq.2 d;by_cases r:a=x.bK
  ·have F:=beq_iff_eq.2 r;have K:Hid ((decide (b=x.mem)&&decide (a=x.bK))=true):=aa (by simp[d,r]);clear d r;exact Qbg
  ·have F:=xp.2 r;have K:Hid ((decide (b=x.mem)&&decide (a=x.bK))=false):=aa (by simp[r]);clear d r;exact Qbg
 ·have u:=xp.2 d;have K:Hid ((decide (b=x.mem)&&decide (a=x.bK))=false):=aa (by simp[d]);clear d;exact Qbg
def oT(bT:List Lg)(i:Nat)(x:Lg):Bool:=decide (x.bJ=0)||decide (x.bJ=-9223372036854775808)||(bT.take i).any (sU x)
variable{n:Nat}
def Sl.take{α:Type}{enc:α->bF bE}{a:Option Addr}{cap:Nat}{l:bF α}(h:Sl enc k w (.slice a n cap) l)(i:Nat)(hi:i<=l):Sl enc k w (.slice a i cap) (l.take i):=by obtain⟨Y,z,R,O,d,c,P⟩:=h;obtain⟨rfl,rfl,rfl⟩:a=Y/\n=l.length/\cap=z:=aG R;have S:(l.take i).length=i:=aM;refine⟨a,cap,by rw[S],O,by rw[S];omega,c,fun h=> ?_⟩;rw[S]at h;let⟨b,m,ha,u,f⟩:=P af;refine⟨b,m,ha,u,fun j hj q x hx=> ?_⟩;rw[S]at hj;rw[uX]at hx;exact f j af q x hx
def TM(v:bE)(bT:bF Lg)(i:Nat)(hi:i<bT.length)(w:bD)(hv:Sl df 3 w v bT)(h64:∀x∈bT,bO x.bJ)(hn:bT.length<=100000):
  bG 306 #[v,i] w (bi (.bool (oT bT i bT[i])) w):=by
 have M:=aa hv;have l:=h64 bT[i] (cZ hi);obtain⟨a,U,rfl,B,d,c,P⟩:=hv;obtain⟨b,m,rfl,K,n⟩:=P af;have g:=n i hi;have D:Hid (oT bT i bT[i]=(decide (bT[i].bJ=0)||decide (bT[i].bJ=-9223372036854775808)||(bT.take i).any (sU bT[i]))):=aa rfl;generalize bT[i]=x at*;obtain⟨F,T,O⟩:=x;let⟨A,E,H⟩:=kL g;have C:Bw w (aZ w (dI ⟨F,T,O⟩) 120):=aI;have N:=aa (bI.new w 120 (dI ⟨F,T,O⟩));have t:0<=(i:Int):=af;have I:i<(bT:Int):=af;have r:i<=(bT:Int):=af;have Z:i<=(U:Int):=af;have j:i<=U:=af;have L:¬U=i:=af;unfold maxLen at c;have J:=aa (TI (sU ⟨F,T,O⟩) 346 #[ptr w.heap.size] TD (.slice (some (b,m)) i U) (bT.take i) _ ((M.o.keep C).take i af) (fun W y u=>(TK w ⟨F,T,O⟩ y W (N.o.keep u)).bC fun e w' ⟨he,hw⟩=>⟨he,u.bu (hw.bC u.size)⟩));dsimp only at l D;let⟨z,q⟩:=aH ((bT.take i).any (sU ⟨F,T,O⟩));have Y:=aa q;rw[q]at D;clear P n g B q;by_cases G:O=0
 ·have u:=beq_iff_eq.2 G;have h:Hid (oT bT i ⟨F,T,O⟩=true):=aa (by rw[D.o];simp[G]);clear G D;go_enter func306,ntmps306;go_wp2_with(go_at_call 312;refine(sj O l _).bC ?_;rintro e s⟨rfl,rfl⟩);go_ret;exact⟨by rw[h.o];rfl,C⟩
 ·have u:=xp.2 G;by_cases p:O=-9223372036854775808
  ·have S:Hid (dK (-O)=(0,2)):=aa (by unfold dK;rw[ya aJ]);have h:Hid (oT bT i ⟨F,T,O⟩=true):=aa (by rw[D.o];simp[p]);clear G p D;go_enter func306,ntmps306;go_wp2_with(go_at_call 312;refine(sj O l _).bC ?_;rintro e s⟨rfl,rfl⟩;rw[S.o]);go_ret;exact⟨by rw[h.o];rfl,C⟩
  ·have S:Hid (dK (-O)=(-O,0)):=aa (by unfold dK;rw[yc (by unfold bO at*;omega)]);have h:Hid (oT bT i ⟨F,T,O⟩=z):=aa (by rw[D.o];simp[G,p]);clear G p D;go_enter func306,ntmps306;go_wp2_with(first
    |(go_at_call 312;refine(sj O l _).bC ?_;rintro e s⟨rfl,rfl⟩;rw[S.o])
    |(go_at_call 345;refine J.o.bC ?_;rintro e k⟨rfl,f⟩;rw[Y.o]))
   go_ret;exact⟨by rw[h.o];rfl,C.bu (f.bC C.size)⟩
def kP.IG{X:bD}{v v1 v2:bE}(h:kP w v v1)(h2:kP X v1 v2)(hs:w.heap.size<=X:=by first|assumption|omega):kP w v v2:=by
 rcases h2 with h2|⟨k,hk,h2⟩
 ·rcases h with h|⟨k,hk,h⟩
  ·exact bS (h2.bu h)
  ·exact ci ⟨k,hk,h2.bu h⟩
 ·exact ci ⟨k,bW hs hk,h2⟩
def jK(cycle:Int)(x:Lg):Ob:=⟨cycle,x.mem,x.bK,x.bJ,0,1⟩
def qB(bT:List Lg):Bool:=(List.range bT).any fun i=>oT bT i (bT.getD i default)
def iA(l:List Ob)(cycle:Int)(bT:List Lg):Int×List Ob:=
 if 1024-(l:Int)<bT then(6,l)
 else if 0<lw l 1 then(17,l)
 else if l.any (fun x=>decide (cycle<=x.cycle))=true then(7,l)
 else if qB bT=true then(1,l)
 else(0,l++bT.map (jK cycle))
def uE(B gs:Nat)(K:List Nat)(vo:Value)(r:Int×List Ob)(w:World)(e:Ending)(w':World):Prop:=∃vo',e=.returned r.1/\fD w' B gs vo' r.2/\cg B [186,71] K w w'/\kP w vo vo'
variable{B:Nat}
def uE.same{gs:Nat}{vo:bE}{K:bF Nat}{n:Int}{l:bF Ob}(h:fD w B gs vo l)(c:Bw w w'):uE B gs K vo (n,l) w (.returned n) w':=⟨vo,rfl,h.keep c,cg.below c,bS rfl⟩
def TN(l:bF Ob)(s:Int):0<=lw l s/\lw l s<=l:=by
 have:=Hz l s l
 rwa[ic]at this
def TO(B gs:Nat)(vo v:bE)(l:bF Ob)(cycle:Int)(bT:bF Lg)(K:bF Nat)(w:bD)(hs:fD w B gs vo l)(hn:l.length<=1024)(B2:Nat)(hv:w.ownsRow B2 120 3 v bT.length (bN df bT))(hnn:bT.length<=100000)(h64:∀x∈bT,bO x.bJ)(hBw:B<=w)(hKw:∀k∈K,k<w.heap.size)(hKg:gs∉K)(hKv:∀k,vo.ownBlock=some k->k∉K):
  bG 249 #[ptr gs,cycle,v] w (uE B gs K vo (iA l cycle bT) w):=by
 have c0:Bw w (aZ w #[cycle] 3):=aI;let⟨am,D,HV,R,F,bk⟩:=Jh6 hs (hs.keep c0) (cJ hv c0) (bI.new w 3 #[cycle]) hKv h64;have p0:=D.o.blk.c 0;have hf:=bV hs.own;obtain⟨V,ko,rfl⟩:=hf;obtain⟨a,U,rfl⟩:=bV hv;have bx:=TN l 1;let⟨cn,d⟩:=aH (lw l 1);let⟨an,I⟩:=aH (l.any fun x=>decide (cycle<=x.cycle));have HR:Hid (iA l cycle bT=if 1024-(l:Int)<bT.length then(6,l)else if 0<cn then(17,l)else if an=true then(7,l)else if qB bT=true then(1,l)else(0,l++bT.map (jK cycle))):=aa (by unfold iA;rw[d,I]);rw[d]at bx;let⟨aK,bm⟩:=Jh2 d I;clear hs hKv h64 d I;by_cases ad:1024-(l:Int)<bT.length
 ·have hd:=dT ad;have T:Hid (iA l cycle bT=(6,l)):=aa (by rw[HR.o,yc ad]);clear HR ad;go_enter func249,ntmps249;go_wp2;go_ret;rw[T.o];exact uE.same am.o c0
 have hd:=dF ad;by_cases al:0<cn
 ·have a1:=dT al;have T:Hid (iA l cycle bT=(17,l)):=aa (by rw[HR.o,ya ad,yc al]);clear HR ad al;go_enter func249,ntmps249;go_wp2_with(go_at_call 303;refine(CU B gs _ l 1 _ D.o af).bC ?_;rintro e w1⟨rfl,c1⟩;rw[aK.o]);go_ret;rw[T.o];exact uE.same am.o (c0.bu (c1.bC c0.size))
 have a1:=dF al;have aQ:Hid (∀w1,Below (w.alloc (bH #[cycle] 3)).heap.size (aZ w #[cycle] 3) w1->bG 304 #[.slice V l ko,.func (.func 305) #[] #[ptr w.heap.size]] w1 (bi (.bool an) w1)):=aa (fun w1 c1=>by
  have:=TH (fun x=>decide (cycle<=x.cycle)) 305 #[ptr w.heap.size] TC (.slice V l ko) l w1 (Sl.own il (D.o.keep c1).own) (fun W y hb=>(TJ w cycle y W ((R.o.keep c1).keep hb)).bC fun e w' ⟨he,hw⟩=>⟨he,hb.bu (hw.bC hb.size)⟩)
  rw[bm.o]at this;exact this)
 cases an with
 |true=>
  have T:Hid (iA l cycle bT=(7,l)):=aa (by rw[HR.o,ya ad,ya al,yc rfl]);clear HR ad al;go_enter func249,ntmps249;go_wp2_with(first
   |(go_at_call 303;refine(CU B gs _ l 1 _ D.o af).bC ?_;rintro e w1⟨rfl,c1⟩;rw[aK.o];have p1:=(D.o.keep c1).blk.c 0)
   |(go_at_call 304;refine(aQ.o _ c1).bC ?_;rintro e w2⟨rfl,f⟩))
  go_ret;rw[T.o];exact uE.same am.o (c0.bu ((c1.bu (f.bC c1.size)).bC c0.size))
 |false=>
  have aM:Hid (iA l cycle bT=if qB bT=true then(1,l)else(0,l++bT.map (jK cycle))):=aa (by rw[HR.o,ya ad,ya al,ya ah]);clear HR al;go_enter func249,ntmps249;go_wp2_with(first
   |(go_at_call 303;refine(CU B gs _ l 1 _ D.o af).bC ?_;rintro e w1⟨rfl,c1⟩;rw[aK.o];have p1:=(D.o.keep c1).blk.c 0)
   |(go_at_call 304;refine(aQ.o _ c1).bC ?_;rintro e w2⟨rfl,f⟩;have av:=c0.bu ((c1.bu (f.bC c1.size)).bC c0.size);have bl:=aa (am.o.keep av);have aN:=aa (cJ (cJ HV.o c1) f);have Z:=aa ((R.o.keep c1).keep f)))
  clear p0 p1 D HV R aQ c1 f c0 hd a1;have ay:=av.size;go_loopw[36] (fun vi wr=>∃k:Nat,k<=bT.length/\vi=.int .i64 k/\Bw w2 wr/\∀j,j<k->oT bT j (bT.getD j default)=false) (aW bT.length);exact⟨0,cH _,rfl,bM _ _,fun j h=>af⟩;obtain⟨k,hk,rfl,ae,aS⟩:=hrel;have aJ:=aa aS;clear aS;by_cases aE:k<bT.length
  ·have O:0<=(k:Int):=af;have bb:k<(bT:Int):=af;have HC:=aa (TM _ bT k aE _ (Sl.own eG (cJ aN.o ae)) bk.o hnn);have a9:Hid (bT.getD k default=bT[k]):=aa (by simp[aE]);cases hz:oT bT k bT[k]with
   |true=>
    have HZ:=aa hz;have ar:Hid (qB bT=true):=aa (by
     unfold qB;rw[jT];exact⟨k,FC.2 aE,by rw[a9.o,hz]⟩)
    clear hz;go_wp2_with(go_at_call 306;refine HC.o.bC ?_;rintro e w4⟨rfl,c4⟩;rw[HZ.o]);go_ret;rw[aM.o,yc ar.o];exact uE.same am.o (av.bu ((ae.bu (c4.bC ae.size)).bC ay))
   |false=>
    have HZ:=aa hz;clear hz;go_wp2_with(go_at_call 306;refine HC.o.bC ?_;rintro e w4⟨rfl,c4⟩;rw[HZ.o]);go_roundw
    case rel=>exact⟨k+1,af,aw,ae.bu (c4.bC ae.size),fun j hj=>by
     by_cases e:j=k
     ·subst e;rw[a9.o,HZ.o]
     ·exact aJ.o j af⟩
    case measure=>exact aV
  ·obtain rfl:k=bT.length:=af;have bw:¬(bT.length<(bT:Int)):=af;have ar:Hid (qB bT=false):=aa (by
    unfold qB;rw[mP];intro j hj;rw[aJ.o j (FC.1 hj)];decide)
   have bc:Hid (iA l cycle bT=(0,l++bT.map (jK cycle))):=aa (by rw[aM.o,ya (by rw[ar.o];decide)]);have r:=av.bu (ae.bC ay);let⟨bn,ba,bs⟩:=Jh3 (am.o.keep r) (cJ aN.o ae) (Z.o.keep ae);clear aM ar aJ bl aN Z;go_wp2_with fail;obtain⟨wo,rfl⟩:∃wo,wo=wr:=⟨_,rfl⟩;have bh:Hid (kP w (.slice V l ko) (.slice V l ko)):=aa (bS rfl);have bA:w.heap.size<=wo.heap.size:=r.size;have h0:fD wo B gs (.slice V l ko) (l++(bT.take 0).map (jK cycle)):=aG bn.o;have bo:cg B [186,71] K w wo:=cg.below r;let⟨i0,hi,aU,a5,a2⟩:=wm yZ;go_loopw[45] (fun vi wx=>∃(k:Nat) (vo':bE),k<=bT.length/\vi=.int .i64 k/\fD wx B gs vo' (l++(bT.take k).map (jK cycle))/\cg B [186,71] K wo wx/\kP w (.slice V l ko) vo') (aW bT.length);exact⟨0,_,cH _,rfl,h0,cg.refl _ _ _ _,bh.o⟩;obtain⟨q,vq,hq,rfl,ap,ao,aq⟩:=hrel;by_cases aC:q<bT.length
   ·have ax:Hid (∀k,vq.ownBlock=some k->k∉K):=aa (fun k hk hm=>by
     rcases aq with hg|⟨k2,h2,h3⟩
     ·exact F.o k (by rw[<-hg];exact hk) hm
     ·rw[hk]at h3;have:=hKw k hm
      simp at h3;omega)
    have br:=aa (dq ba.o ao ah);have a7:=bs.o.cu ao ah;let⟨a',z,a4,_,bP,bv,a0⟩:=Sl.own eG br.o;let⟨e1,e2⟩:a=a'/\U=z:=aG a4;subst e1 e2;obtain⟨b,off,rfl,bz,a8⟩:=a0 af;let⟨r0,r1,r2⟩:=kL (a8 q aC);have O:0<=(q:Int):=af;have bb:q<(bT:Int):=af;unfold maxLen at bv;have aR:Hid (l++(bT.take q).map (jK cycle)++[jK cycle bT[q]]=l++(bT.take (q+1)).map (jK cycle)):=aa (by rw[fj aC,jf,fz];rfl);have bB:(l++(bT.take q).map (jK cycle)).length<=1024:=aA;clear a8 a0 a4;generalize bT[q]=x at*;generalize l++(bT.take q).map (jK cycle)=L at*;obtain⟨n,m,rfl⟩:=bV ap.own;have cX:Bw wr (aZ wr (dI x) 120):=aI;let⟨u,ac,Q,aL,p⟩:=Jh5 (bI.new wr 120 (dI x)) (ap.keep cX) (a7.keep cX) (ao.bu (cg.below cX)) aq;have bq:wo.heap.size<=wr:=ao.size;let⟨P,b1,t,b3,G⟩:=Jt5 (ac.o.blk.c 0) (Q.o.c 0) (u.o.c 0) (u.o.c 1) (u.o.c 2);clear ap a7 ao aq;go_wp2_with fail;have aD:w.heap.size≠gs:=fun e=>by
     have h1:=Q.o;exact QcA
    have az:wr.heap.size≠gs:=fun e=>by
     have h1:=u.o;exact QcA
    have a6:wo.heap.size<=(wr.alloc (bH (dI x) 120)).heap.size:=bW bq cX.size;dsimp only[dI]at u ac Q aL P b1 t b3 G a6;generalize hX:wr.alloc (bH #[aY x.mem,aY x.bK,aY x.bJ] 120)=X at*;let⟨y,hy⟩:=aH (jK cycle x);have HY:=aa hy;let⟨N,hN⟩:=aH ((L++[jK cycle x]).length);have aT:=aa hN;have a3:=(ac.o.blk.alloc (bH #[cycle,aY x.mem,aY x.bK,aY x.bJ,(),(1:Int)] 71)).c 0;clear hN hy hX cX;have ag:=ch b1 (ch t (ch b3 G));refine wp_region_held_drew (S:=(fun W=>W.cell? (be w 0)=cycle/\W.cell? (be wr 0)=some (.int .i64 x.mem)/\W.cell? (be wr 1)=some (.int .i64 x.bK)/\W.cell? (be wr 2)=some (.int .i64 x.bJ))) aj (by exact ag) (fun hHeld=> ?_);refine wpAnyH_take (i:=0) (oi:=_) (v:= ?_) rfl aj aj aj (fun _ _ _ h=>h) (bS ⟨aB, ?_⟩) aF ?_;rotate_left
    ·(intro w H;(try dsimp only at H);go_simp;try with_reducible rfl)
    simp only[Act.put,jd,iO,iP];refine wpAnyH_take (i:=1) (oi:=_) (v:= ?_) rfl aj aj aj (fun _ _ _ h=>h) (bS ⟨aB, ?_⟩) aF ?_;rotate_left
    ·(intro w H;(try dsimp only at H);go_simp;try with_reducible rfl)
    simp only[Act.put,jd,iO,iP];refine wpAnyH_take (i:=2) (oi:=_) (v:= ?_) rfl aj aj aj (fun _ _ _ h=>h) (bS ⟨aB, ?_⟩) aF ?_;rotate_left
    ·(intro w H;(try dsimp only at H);go_simp;try with_reducible rfl)
    simp only[Act.put,jd,iO,iP];refine wpAnyH_take (i:=3) (oi:=_) (v:= ?_) rfl aj aj aj (fun _ _ _ h=>h) (bS ⟨aB, ?_⟩) aF ?_;rotate_left
    ·(intro w H;(try dsimp only at H);go_simp;try with_reducible rfl)
    simp only[Act.put,jd,iO,iP];refine wpAnyH_take (i:=5) (oi:=_) (v:= ?_) rfl aj aj aj (fun _ _ _ h=>h) (bS ⟨aB, ?_⟩) aF ?_;rotate_left
    ·(intro w H;(try dsimp only at H);go_simp;try with_reducible rfl)
    simp only[Act.put,jd,iO,iP];refine wpAnyH_take (i:=6) (oi:=_) (v:= ?_) rfl aj aj aj (fun _ _ _ h=>h) (bS ⟨aB, ?_⟩) aF ?_;rotate_left
    ·(intro w H;(try dsimp only at H);go_simp;try with_reducible rfl)
    simp only[Act.put,jd,iO,iP];refine wpAnyH_take (i:=7) (oi:=_) (v:= ?_) rfl aj aj aj (fun _ _ _ h=>h) (bS ⟨aB, ?_⟩) aF ?_;rotate_left
    ·(intro w H;(try dsimp only at H);go_simp;try with_reducible rfl)
    simp only[Act.put,jd,iO,iP];refine wpAnyH_take (i:=8) (oi:=_) (v:= ?_) rfl aj aj aj (fun _ _ _ h=>h) (bS ⟨aB, ?_⟩) aF ?_;rotate_left
    ·(intro w H;(try dsimp only at H);go_simp;try with_reducible rfl)
    simp only[Act.put,jd,iO,iP];refine wpAnyH_take (i:=9) (oi:=_) (v:= ?_) rfl aj aj aj (fun _ _ _ h=>h) (bS ⟨aB, ?_⟩) aF ?_;rotate_left
    ·(intro w H;(try dsimp only at H);go_simp;try with_reducible rfl)
    simp only[Act.put,jd,iO,iP];refine wpAnyH_take (i:=10) (oi:=_) (v:= ?_) rfl aj aj aj (fun _ _ _ h=>h) (bS ⟨aB, ?_⟩) aF ?_;rotate_left
    ·(intro w H;(try dsimp only at H);go_simp;try with_reducible rfl)
    simp only[Act.put,jd,iO,iP];refine wpAnyH_take (i:=11) (oi:=_) (v:= ?_) rfl aj aj aj (fun _ _ _ h=>h) (bS ⟨aB, ?_⟩) aF ?_;rotate_left
    ·(intro w H;(try dsimp only at H);go_simp;try with_reducible rfl)
    simp only[Act.put,jd,iO,iP];refine wpAnyH_take (i:=12) (oi:=_) (v:= ?_) rfl aj aj aj (fun _ _ _ h=>h) (bS ⟨aB, ?_⟩) aF ?_;rotate_left
    ·(intro w H;(try dsimp only at H);go_simp;try with_reducible rfl)
    simp only[Act.put,jd,iO,iP];refine wpAnyH_ready (rs:=[4,13]) aj au ?_;refine AllReadyH.cons rfl (fun KQ hKQ=> ?_) (AllReadyH.cons rfl (fun KQ hKQ=> ?_) AllReadyH.nil)
    ·go_simp;refine hKQ.out _ _ (by(try dsimp only);first|exact ag|exact E|exact ak|assumption|go_keep) (fun hHeld2=> ?_);clear hKQ KQ;refine wpAnyH_ready (rs:=[13]) aj au ?_;exact Qac
    ·go_simp;refine hKQ.out _ _ (by(try dsimp only);first|exact ag|exact E|exact ak|assumption|go_keep) (fun hHeld2=> ?_);clear hKQ KQ;refine wpAnyH_ready (rs:=[4]) aj au ?_;exact Qac
   ·obtain rfl:q=bT.length:=af;have bw:¬(bT.length<(bT:Int)):=af;have bp:bT.take bT.length=bT:=eU (bL _);rw[bp]at ap;go_wp2;go_ret;rw[bc.o];exact⟨vq,rfl,ap,bo.bu ao,aq⟩
def jY(x:Lg):Option Lg:=if 0<x.bJ then some x else none
def jZ(x:Lg):Option Lg:=if x.bJ<0 then some ⟨x.mem,x.bK,-x.bJ⟩else none
def iS(a:Int)(x:Lg):Option Int:=if x.bK=a then some x.bJ else none
def ip(a:Int)(x:Lg):Option Lg:=if x.bK=a then some x else none
def TP(v:bE)(l:bF Lg)(w:bD)(hv:Sl df 3 w v l)(hn:l.length<=100000):bG 343 #[v] w (gP df 120 3 (l.filterMap jY) w):=by
 have D:=aa hv;obtain⟨W,K,rfl,_⟩:=hv;let⟨J,p,S,A,H⟩:=wm oF;have E:Bw w w:=bM _ _;go_enter func343,ntmps343;go_wp2;go_loopw[3,8] (fun vo vi wr=>∃k:Nat,k<=l.length/\vi=k/\wr.ownsRow w 120 3 vo ((l.take k).filterMap jY).length (bN df ((l.take k).filterMap jY))/\Bw w wr) (fun _ vi _=>l.length-(intOf vi).toNat);exact⟨0,cH _,rfl,⟨aK,bS ⟨rfl,rfl⟩⟩,bM _ _⟩;obtain⟨k,R,rfl,h,a⟩:=hrel;have Q:=aa h;obtain⟨V,d,rfl⟩:=bV h;clear h;by_cases z:k<l
 ·obtain⟨F,c,b,m,rfl,_,n⟩:=(D.o.keep a).hd;let⟨Y,s,P⟩:=kL (n k z);have O:0<=(k:Int):=af;have C:k<(l:Int):=af;unfold maxLen at c;have r:=aa (pN jY l k z);have Z:((l.take k).filterMap jY).length<=k:=bW (gK _ _) aM;clear n;generalize(l.take k).filterMap jY=L at*
  generalize l[k]=x at*;have y:=a.alloc a.size (bH (dI x) 120);let⟨T,N⟩:=Jh2 (bI.new wr 120 (dI x)) (Q.o.alloc (bH (dI x) 120));by_cases t:0<x.bJ
  rotate_left
  ·have u:=dF t;have X:=aa t;clear t;have I:Hid ((l.take (k+1)).filterMap jY=L):=aa (by rw[r.o,show jY x=none from(by unfold jY;rw[ya X.o])];simp);clear r;go_wp2_with(fail);go_roundw;exact⟨k+1,af,aw,by rw[I.o];exact N.o,y⟩;exact aV
  ·have u:=dT t;have X:=aa t;clear t;have I:Hid (L++[x]=(l.take (k+1)).filterMap jY):=aa (by rw[r.o,show jY x=some x from(by unfold jY;rw[yc X.o])];rfl);clear r;go_wp2_with(first|(at_builtin;refine fG eG ah oE _ rfl _ _ 66 rfl w 120 J (.agg #[(),(),()]) 24 underlying66 p S A H aB (.slice V L d) L rfl (N.o.alloc _) (some (be (wr.heap.size+1) 0)) 1 [x] rfl (Sl.fg df eG _ 120 _ aB _ au) Qaj QaX (y.alloc y.size (bH #[x.mem,x.bK,x.bJ] 120)).size ?_;intro j w2 h f M;have G:=(y.alloc y.size (bH #[x.mem,x.bK,x.bJ] 120)).grown f (y.alloc y.size _).size (fun q hq=>(N.o.lt q hq).1);rw[I.o]at h;obtain⟨B,U,rfl⟩:=bV h;clear f M));go_roundw;exact⟨k+1,af,aw,h,G⟩;exact aV
 ·obtain rfl:k=l.length:=af;have i:¬(l.length<(l:Int)):=af;have g:l.take l.length=l:=eU (bL _);rw[g]at Q;go_wp2;go_ret;exact⟨_,rfl,d8 Q.o E.size,E.bu (a.bC E.size)⟩
variable{l:bF Lg}{a:Int}
def TQ(h:∀x∈l,bO x.bJ):ep (l.filterMap (iS a)):=by
 intro n H;let⟨x,j,V⟩:=acY.1 H;unfold iS at V;split at V
 ·cases V;exact h x j
 ·cases V
def wv(v:bE)(l:bF Lg)(a:Int)(w:bD)(hv:Sl df 3 w v l)(hn:l.length<=100000)(h64:∀x∈l,bO x.bJ):bG 342 #[v,a] w (bi (bg (du (l.filterMap (iS a)))) w):=by
 let⟨Z,D⟩:=Jh2 (TQ (a:=a) h64) hv;obtain⟨W,K,rfl,_⟩:=hv;let⟨J,p,S,H,R⟩:=wm mW;have c1:Bw w w:=bM _ _;clear h64;go_enter func342,ntmps342;go_wp2;go_loopw[6,11] (fun vo vi wr=>∃k:Nat,k<=l.length/\vi=k/\wr.ownsRow w 2 1 vo ((l.take k).filterMap (iS a)).length (bN eI ((l.take k).filterMap (iS a)))/\Bw w wr) (fun _ vi _=>l.length-(intOf vi).toNat);exact⟨0,cH _,rfl,⟨aK,bS ⟨rfl,rfl⟩⟩,bM _ _⟩;obtain⟨k,hk,rfl,h,f⟩:=hrel;have Q:=aa h;obtain⟨V,d,rfl⟩:=bV h;clear h;by_cases A:k<l.length
 ·obtain⟨ab,c,b,m,rfl,_,n⟩:=(D.o.keep f).hd;let⟨r0,s,P⟩:=kL (n k A);have O:0<=(k:Int):=af;have C:k<(l:Int):=af;unfold maxLen at c;have y:=aa (pN (iS a) l k A);have Y:((l.take k).filterMap (iS a)).length<=k:=bW (gK _ _) aM;clear n;generalize(l.take k).filterMap (iS a)=L at*
  generalize l[k]=x at*;have z:=f.alloc f.size (bH (dI x) 120);let⟨T,N⟩:=Jh2 (bI.new wr 120 (dI x)) (Q.o.alloc (bH (dI x) 120));by_cases t:x.bK=a
  rotate_left
  ·have u:=xp.2 t;have X:=aa t;clear t;have I:Hid ((l.take (k+1)).filterMap (iS a)=L):=aa (by rw[y.o,show iS a x=none from(by unfold iS;rw[ya X.o])];simp);clear y;go_wp2_with(fail);go_roundw;exact⟨k+1,af,aw,by rw[I.o];exact N.o,z⟩;exact aV
  ·have u:=beq_iff_eq.2 t;have X:=aa t;clear t;have I:Hid (L++[x.bJ]=(l.take (k+1)).filterMap (iS a)):=aa (by rw[y.o,show iS a x=some x.bJ from(by unfold iS;rw[yc X.o])];rfl);clear y;go_wp2_with(first|(at_builtin;refine fG kI ah kj _ rfl _ _ 45 rfl w 2 J (aY 0) 8 underlying45 p S H R aB (.slice V L d) L rfl (N.o.alloc _) (some (be (wr.heap.size+1) 0)) 1 [x.bJ] rfl (Sl.fg eI kI _ 2 _ aB _ au) Qaj QaN (z.alloc z.size (bH #[aY x.bJ] 2)).size ?_;intro j w2 h r M;have G:=(z.alloc z.size (bH #[aY x.bJ] 2)).grown r (z.alloc z.size _).size (fun q hq=>(N.o.lt q hq).1);rw[I.o]at h;obtain⟨B,U,rfl⟩:=bV h;clear r M));go_roundw;exact⟨k+1,af,aw,h,G⟩;exact aV
 ·obtain rfl:k=l.length:=af;have i:¬(l.length<(l:Int)):=af;have g:l.take l.length=l:=eU (bL _);rw[g]at Q;have E:=aa (mT _ (l.filterMap (iS a)) wr (Sl.own kI Q.o) Z.o (bW (gK _ _) af));go_wp2_with(go_at_call 230;refine E.o.bC ?_;rintro e w3⟨rfl,F⟩);go_ret2;exact⟨rfl,f.bu (F.bC f.size)⟩
def DB(v:bE)(l:bF Lg)(w:bD)(hv:Sl df 3 w v l)(hn:l.length<=100000)(h64:∀x∈l,bO x.bJ/\x.bJ≠-9223372036854775808):bG 344 #[v] w fun e w'=>∃u,e=.returned (.tuple #[u,()])/\w'.ownsRow w 120 3 u (l.filterMap jZ).length (bN df (l.filterMap jZ))/\Bw w w':=by
 let⟨Z,D⟩:=Jh2 h64 hv;obtain⟨W,K,rfl,_⟩:=hv;let⟨J,p,S,H,Y⟩:=wm oF;have R:Bw w w:=bM _ _;clear h64;go_enter func344,ntmps344;go_wp2;go_loopw[4,11] (fun vo vi wr=>∃k:Nat,k<=l.length/\vi=k/\wr.ownsRow w 120 3 vo ((l.take k).filterMap jZ).length (bN df ((l.take k).filterMap jZ))/\Bw w wr) (fun _ vi _=>l.length-(intOf vi).toNat);exact⟨0,cH _,rfl,⟨aK,bS ⟨rfl,rfl⟩⟩,bM _ _⟩;obtain⟨k,hk,rfl,h,r⟩:=hrel;have Q:=aa h;obtain⟨V,ko,rfl⟩:=bV h;clear h;by_cases E:k<l.length
 ·obtain⟨F,ab,b,m,rfl,_,n⟩:=(D.o.keep r).hd;let⟨r0,s,P⟩:=kL (n k E);have O:0<=(k:Int):=af;have C:k<(l:Int):=af;unfold maxLen at ab;have z:=aa (pN jZ l k E);have ad:((l.take k).filterMap jZ).length<=k:=bW (gK _ _) aM;have A:=Z.o l[k] (cZ E);clear n;generalize(l.take k).filterMap jZ=L at*
  generalize l[k]=x at*;have b2:=r.alloc r.size (bH (dI x) 120);let⟨T,N⟩:=Jh2 (bI.new wr 120 (dI x)) (Q.o.alloc (bH (dI x) 120));have f:=r.alloc r.size (bH #[aY x.mem,aY x.bK,(-x.bJ:Int)] 120);have c:=aa (Q.o.alloc (bH #[aY x.mem,aY x.bK,(-x.bJ:Int)] 120));have a:=aa A;clear A;by_cases t:x.bJ<0
  rotate_left
  ·have hb:=dT (show 0<=x.bJ from af);have X:=aa t;clear t;have I:Hid ((l.take (k+1)).filterMap jZ=L):=aa (by rw[z.o,show jZ x=none from(by unfold jZ;rw[ya X.o])];simp);clear z;exact Qca
  ·have hb:=dF (show¬0<=x.bJ from af);have X:=aa t;have d:Hid (dK (-x.bJ)=(-x.bJ,0)):=aa (by unfold dK;rw[yc (by have:=a.o;unfold bO at*;omega)]);have ac:=T.o.set 2 (-x.bJ:Int);clear t;have I:Hid (L++[⟨x.mem,x.bK,-x.bJ⟩]=(l.take (k+1)).filterMap jZ):=aa (by rw[z.o,show jZ x=some ⟨x.mem,x.bK,-x.bJ⟩from(by unfold jZ;rw[yc X.o])];rfl);clear z;go_wp2_with(first|(go_at_call 312;refine(sj x.bJ a.o.1 _).bC ?_;rintro e w3⟨rfl,rfl⟩;rw[d.o])|(at_builtin;refine fG eG ah oE _ rfl _ _ 66 rfl w 120 J (.agg #[(),(),()]) 24 underlying66 p S H Y aB (.slice V L ko) L rfl (c.o.alloc _) (some (be (wr.heap.size+1) 0)) 1 [⟨x.mem,x.bK,-x.bJ⟩] rfl (Sl.fg df eG _ 120 _ aB _ au) Qaj QaX (f.alloc f.size (bH #[x.mem,x.bK,(-x.bJ:Int)] 120)).size ?_;intro j w2 h y M;have G:=(f.alloc f.size (bH #[x.mem,x.bK,(-x.bJ:Int)] 120)).grown y (f.alloc f.size _).size (fun q hq=>(c.o.lt q hq).1);rw[I.o]at h;obtain⟨B,U,rfl⟩:=bV h;clear y M));go_roundw;exact⟨k+1,af,aw,h,G⟩;exact aV
 ·obtain rfl:k=l.length:=af;have i:¬(l.length<(l:Int)):=af;have g:l.take l.length=l:=eU (bL _);rw[g]at Q;go_wp2;go_ret2;exact⟨_,rfl,d8 Q.o R.size,R.bu (r.bC R.size)⟩
def mc(l:List Lg)(a:Int):Int×Int×Int:=
 let mine:=l.filterMap (ip a)
 let d:=du ((mine.filterMap jY).filterMap (iS a))
 let c:=du ((mine.filterMap jZ).filterMap (iS a))
 if d.2≠0 then(0,0,d.2)else if c.2≠0 then(0,0,c.2)else(d.1,c.1,0)
def TR{x:Lg}(h:x∈l.filterMap (ip a)):x∈l:=by
 let⟨y,B,V⟩:=acY.1 h;unfold ip at V;split at V
 ·cases V;exact B
 ·cases V
def TV{x:Lg}(h:x∈l.filterMap jY):x∈l:=by
 let⟨y,B,V⟩:=acY.1 h;unfold jY at V;split at V
 ·cases V;exact B
 ·cases V
def TW(h64:∀x∈l,bO x.bJ/\x.bJ≠-9223372036854775808):∀x∈l.filterMap jZ,bO x.bJ:=by
 intro x h;let⟨y,B,V⟩:=acY.1 h;unfold jZ at V;split at V
 ·cases V
  have:=h64 y B
  unfold bO at*;dsimp only;omega
 ·cases V
def TX(v:bE)(l:bF Lg)(a:Int)(w:bD)(hv:Sl df 3 w v l)(hn:l.length<=100000)(h64:∀x∈l,bO x.bJ/\x.bJ≠-9223372036854775808):bG 301 #[v,a] w (bi (.tuple #[aY (mc l a).1,aY (mc l a).2.1,aY (mc l a).2.2]) w):=by
 let⟨ao,HS⟩:=Jh2 h64 hv;obtain⟨W,k1,rfl,_⟩:=hv;let⟨J,hi,an,ap,al⟩:=wm oF;have c1:Bw w w:=bM _ _;clear h64;go_enter func301,ntmps301;go_wp2;go_loopw[7,13] (fun vo vi wr=>∃k:Nat,k<=l.length/\vi=k/\wr.ownsRow w 120 3 vo ((l.take k).filterMap (ip a)).length (bN df ((l.take k).filterMap (ip a)))/\Bw w wr) (fun _ vi _=>l.length-(intOf vi).toNat);exact⟨0,cH _,rfl,⟨aK,bS ⟨rfl,rfl⟩⟩,bM _ _⟩;obtain⟨k,hk,rfl,h,A⟩:=hrel;have HO:=aa h;obtain⟨no,ko,rfl⟩:=bV h;clear h;by_cases aj:k<l.length
 ·obtain⟨ay,am,b,ax,rfl,_,n⟩:=(HS.o.keep A).hd;let⟨r0,r1,r2⟩:=kL (n k aj);have ar:0<=(k:Int):=af;have C:k<(l:Int):=af;unfold maxLen at am;have ai:=aa (pN (ip a) l k aj);have aq:((l.take k).filterMap (ip a)).length<=k:=bW (gK _ _) aM;clear n;generalize(l.take k).filterMap (ip a)=L at*
  generalize l[k]=x at*;have b2:=A.alloc A.size (bH (dI x) 120);let⟨HX,N⟩:=Jh2 (bI.new wr 120 (dI x)) (HO.o.alloc (bH (dI x) 120));by_cases t:x.bK=a
  rotate_left
  ·have hb:=xp.2 t;have X:=aa t;clear t;have I:Hid ((l.take (k+1)).filterMap (ip a)=L):=aa (by rw[ai.o,show ip a x=none from(by unfold ip;rw[ya X.o])];simp);clear ai;exact Qca
  ·have hb:=beq_iff_eq.2 t;have X:=aa t;clear t;have I:Hid (L++[x]=(l.take (k+1)).filterMap (ip a)):=aa (by rw[ai.o,show ip a x=some x from(by unfold ip;rw[yc X.o])];rfl);clear ai;go_wp2_with(first|(at_builtin;refine fG eG ah oE _ rfl _ _ 66 rfl w 120 J (.agg #[(),(),()]) 24 underlying66 hi an ap al aB (.slice no L ko) L rfl (N.o.alloc _) (some (be (wr.heap.size+1) 0)) 1 [x] rfl (Sl.fg df eG _ 120 _ aB _ au) Qaj QaX (b2.alloc b2.size (bH #[aY x.mem,aY x.bK,aY x.bJ] 120)).size ?_;intro v' w2 h ag M;have G:=(b2.alloc b2.size (bH #[aY x.mem,aY x.bK,aY x.bJ] 120)).grown ag (b2.alloc b2.size _).size (fun q hq=>(N.o.lt q hq).1);rw[I.o]at h;obtain⟨n2,k2,rfl⟩:=bV h;clear ag M));go_roundw;exact⟨k+1,af,aw,h,G⟩;exact aV
 ·obtain rfl:k=l.length:=af;have av:¬(l.length<(l:Int)):=af;have g:l.take l.length=l:=eU (bL _);rw[g]at HO;have ae:(l.filterMap (ip a)).length<=100000:=bW (gK _ _) hn;have y:((l.filterMap (ip a)).filterMap jY).length<=100000:=bW (gK _ _) ae;have z:((l.filterMap (ip a)).filterMap jZ).length<=100000:=bW (gK _ _) ae;have c:∀x∈l.filterMap (ip a),bO x.bJ/\x.bJ≠-9223372036854775808:=fun x hx=>ao.o x (TR hx);have d:∀x∈(l.filterMap (ip a)).filterMap jY,bO x.bJ:=fun x hx=>(c x (TV hx)).1;have h3:=TW c;let⟨⟨d1,Q⟩,j⟩:∃r,du (((l.filterMap (ip a)).filterMap jY).filterMap (iS a))=r:=⟨_,rfl⟩;let⟨⟨s1,s2⟩,B⟩:∃r,du (((l.filterMap (ip a)).filterMap jZ).filterMap (iS a))=r:=⟨_,rfl⟩;have HR:Hid (mc l a=if Q≠0 then(0,0,Q)else if s2≠0 then(0,0,s2)else(d1,s1,0)):=aa (by unfold mc;dsimp only;rw[j,B]);let⟨s,m,P⟩:=Jh3 j B (Sl.own eG HO.o);have E:=aa (TP _ _ wr P.o ae);have ab:True:=trivial;clear j B;by_cases e1:Q=0
  ·subst e1;by_cases e2:s2=0
   ·subst e2;have T:Hid (mc l a=(d1,s1,0)):=aa (by rw[HR.o];rfl);clear HR;exact Qam
   ·have ak:(s2 !=0)=true:=aG e2;have T:Hid (mc l a=(0,0,s2)):=aa (by rw[HR.o,ya au,yc e2]);clear HR e2;exact Qam
  ·have ak:(Q !=0)=true:=aG e1;have T:Hid (mc l a=(0,0,Q)):=aa (by rw[HR.o,yc e1]);clear HR e1;go_wp2_with(first|(go_at_call 343;refine E.o.bC ?_;rintro e V⟨v1,rfl,Z,H⟩;have O1:=aa (Sl.own eG Z);have U:=aa (P.o.keep H);have ad:=A.bu (H.bC A.size);obtain⟨a1,K,rfl⟩:=bV Z;clear Z H)|(go_at_call 342;have _t:=ab;refine(wv _ _ a _ O1.o y d).bC ?_;rintro e x2⟨rfl,c2⟩;rw[s.o];have O:=aa (U.o.keep c2);have ac:=ad.bu (c2.bC ad.size);clear c2 ab)|(go_at_call 344;refine(DB _ _ _ O.o ae c).bC ?_;rintro e x3⟨u,rfl,S,F⟩;have Y:=aa (Sl.own eG S);have f:=ac.bu (F.bC ac.size);obtain⟨D,z3,rfl⟩:=bV S;clear S F)|(go_at_call 342;refine(wv _ _ a _ Y.o z h3).bC ?_;rintro e R⟨rfl,p⟩;rw[m.o];have i:=f.bu (p.bC f.size);clear p));go_ret3;exact⟨by rw[T.o];rfl,ac⟩
end
section
open Go.ChangeMaps (setBlock)
variable {κ:Type} {enc:κ->Value}
def jx(w:World)(r M N:Nat)(S:List Nat):Prop:=w.heap[r]?=some (.mapIter (some M) N S.toArray N)
variable{w:bD}{M N:Nat}{S:bF Nat}
def jx.lt(h:jx w r M N S):r<w:=by unfold jx at h;rw[Fz]at h;exact h.1
variable{w':bD}
def jx.keep(h:jx w r M N S)(hb:Bw w w'):jx w' r M N S:=(hb.block r h.lt).bu h
def jx.heap(h:jx w r M N S)(hb:w'.heap[r]?=w.heap[r]?):jx w' r M N S:=hb.bu h
variable{D:bF (κ×bE)}{e:TypeId}
def TY{t k:TypeId}(ht:prog.underlying t=some (.map k e))(h:et w M enc D):(Instr.range t (.map (some M))).run prog w=.ok (ptr w) (w.alloc (.mapIter (some M) D #[] D)):=run_range_map w t k e M _ _ ht h
def jx.new(w:bD)(M N:Nat):jx (w.alloc (.mapIter (some M) N #[] N)) w M N []:=heap_alloc_new w _
def II(enc:κ->bE)(D:bF (κ×bE)):(dN enc D).map (·.born)=List.range D:=by
 unfold dN;apply mR;intro i;by_cases p:i<D
 ·simp[p,vA]
 ·simp[p,pC (by simp;omega:(List.range D.length).length<=i)]
def TZ(enc:κ->bE)(D:bF (κ×bE)):∀x∈(dN enc D).toArray.toList,x.born<D:=by intro x j;have h:x.born∈(dN enc D).map (·.born):=Fy.2 ⟨x,aG j,rfl⟩;rw[II]at h;simpa using h
def T6{x:MapEntry}(hx:x∈dN enc D):∃h:x.born<D,x.key=enc D[x.born].1/\x.val=D[x.born].2:=by
 let⟨n,H,V⟩:=eW hx;have c:=nO enc D n;rw[dG H,V]at c;have S:n<D:=by rw[xW]at H;exact H
 rw[dG S]at c;have a:x=⟨enc D[n].1,D[n].2,n⟩:=aG c;subst a;exact⟨S,rfl,rfl⟩
def T8(ty:TypeId)(hM:et w M enc D)(hI:jx w r M D.length S)(hn:S.Nodup)(hS:∀i∈S,i<D.length):
  (S.Perm (List.range D.length)/\(Instr.next (ptr r) false ty).run prog w=.ok (.tuple #[.bool false]) w)∨
  ∃n,∃h:n<D.length,n∉S/\∃w1:bD,(w1=w∨w1=w.drew)/\(Instr.next (ptr r) false ty).run prog w=.ok (.tuple #[.bool true,enc D[n].1,D[n].2]) (setBlock w1 r (.mapIter (some M) D.length (S++[n]).toArray D.length)):=by
 rcases run_next_at (P:=prog) w ty r M D.length D.length S.toArray (dN enc D).toArray D.length hI hM (TZ enc D) (bL _)with⟨h0,hr⟩|⟨e,he,w1,hw,hr⟩
 ·refine bS ⟨(FG hn yT).2 fun a=>⟨fun ha=>by simpa using hS a ha,fun ha=> ?_⟩,hr⟩;have b:a<D.length:=aG ha;by_cases d:a∈S
  ·exact d
  ·exfalso;have Z:(⟨enc D[a].1,D[a].2,a⟩:MapEntry)∈dN enc D:=by
    refine vy (i:=a) ?_;rw[nO,dG b];rfl
   have c:(⟨enc D[a].1,D[a].2,a⟩:MapEntry)∈leftOf (dN enc D).toArray S.toArray:=by
    unfold leftOf;simp[Z,d]
   have x:=Array.eq_empty_of_size_eq_zero h0;rw[x]at c;simp at c
 ·have Z:e∈dN enc D/\e.born∉S:=by
   unfold leftOf at he;simpa using he
  let⟨b,o,f⟩:=T6 Z.1;refine ci ⟨e.born,b,Z.2,w1,hw, ?_⟩;rw[hr];rw[o,f];simp
variable{n:Nat}
def T9(hl:n<D)(hM:et w M enc D)(hI:jx w r M D (S++[n])):(Instr.entry (ptr r)).run prog w=.ok (.tuple #[enc D[n].1,D[n].2]) w:=by
 have h:=run_entry_at (P:=prog) w r M D S.toArray (dN enc D).toArray D ⟨enc D[n].1,D[n].2,n⟩ (by unfold jx at hI;rw[hI];simp) hM (by
  show _∈(dN enc D).toArray.toList;simp only
  refine vy (i:=n) ?_;rw[nO,dG hl];rfl) (by
  show((dN enc D).toArray.toList.map (·.born)).Nodup
  simp only
  rw[II];exact yT)
 exact h
end
section
open Go.ChangeMaps (setBlock)
attribute [local go_sem ↓] wp_at_zero wp_at_succ
def oU(x:Sd):List Value:=[x.mem,x.bK]
abbrev mw(x:Sd):Array Value:=#[x.mem,x.bK]
def ww(x:Sd):(oU x).length=2:=rfl
def IJ(x:Sd):∀u∈oU x,u.oneCell'=true:=by intro u X;simp[oU]at X;rcases X with rfl|rfl<;>rfl
def Ua:(prog.info? 382).map (fun i=>(i.zero,i.size,i.bytes))=some (some (.agg #[(),()]),2,16):=aj
def IK{W:bD}{b o:Nat}{x:Sd}(h:∀j u,(oU x)[j]?=some u->W.cell? ⟨b,o+j,none⟩=some u):W.cell? (b,o)=x.mem/\W.cell? (b,o+1)=x.bK:=⟨h 0 _ rfl,h 1 _ rfl⟩
variable{w w':bD}{e:TypeId}{n:Nat}{xs:bF bE}
def DE{base:Nat}{size:Nat}{v:bE}(h:w.ownsRow base e size v n xs)(hw:∀(g:Nat) (cs:Array bE) (T:TypeId) (fr:Nat×Nat),w.heap[g]?=some (Obj.cells cs T fr)->w'.heap[g]?=w.heap[g]?):w'.ownsRow base e size v n xs:=by
 obtain⟨d,c⟩:=h;rcases c with c|⟨g,cap,cur,rfl,hg,hh,r⟩
 ·exact⟨d,bS c⟩
 ·exact⟨d,ci ⟨g,cap,cur,rfl,hg,(hw g _ _ _ hh).bu hh,r⟩⟩
variable{B:Nat}{vs:bF bE}
def jX.cells{v:bE}{K:bF (bF Int)}(h:jX B w v K vs)(hw:∀(g:Nat) (cs:Array bE) (T:TypeId) (fr:Nat×Nat),w.heap[g]?=some (Obj.cells cs T fr)->w'.heap[g]?=w.heap[g]?):jX B w' v K vs:=⟨h.len,DE h.own hw,fun i h1 h2=>DE (h.row i h1 h2) hw⟩
def jy(D:List (Sd×Value))(i:Nat):Sd:=((D[i]?).map (·.1)).getD ⟨0,0⟩
def sV(x:Sd):List Int:=[x.mem,x.bK]
structure NO(w wr:World)(M:Nat)(D:List (Sd×Value))(S:List Nat)(va vk:Value)(vs:List Value):Prop where
 map:et wr M jH D
 it:jx wr w M D S
 nd:S.Nodup
 lt:∀i∈S,i<D.length
 sides:wr.ownsRow w 382 2 va S.length (bN oU (S.map (jy D)))
 keys:jX w wr vk (S.map fun i=>sV (jy D i)) vs
 low:Bw w wr
variable{M N:Nat}{S:bF Nat}
def IL{w1:bD}{o:Obj}(hI:jx w r M N S)(hw:w1=w∨w1=w.drew):∀(g:Nat) (cs:Array bE) (T:TypeId) (fr:Nat×Nat),w.heap[g]?=some (Obj.cells cs T fr)->(setBlock w1 r o).heap[g]?=w.heap[g]?:=by
 intro g cs T fr b;have a:r≠g:=fun e=>by
  subst e;unfold jx at hI;rw[hI]at b;cases b
 have e:w1.heap=w.heap:=by rcases hw with rfl|rfl<;>rfl
 show(w1.heap.setIfInBounds r o)[g]?=_
 rw[xu,ya a,e]
variable{wr:bD}
def Ub{w1:bD}{n:Nat}{D:bF (Sd×bE)}{va vk:bE}(h:NO w wr M D S va vk vs)(hM:M<w)(hw:w1=wr∨w1=wr.drew):
  let W:=setBlock w1 w (.mapIter (some M) D (S++[n]).toArray D)
  et W M jH D/\jx W w M D (S++[n])/\W.ownsRow w 382 2 va S (bN oU (S.map (jy D)))/\jX w W vk (S.map fun i=>sV (jy D i)) vs/\Bw w W:=by
 have e:w1.heap=wr.heap:=by rcases hw with rfl|rfl<;>rfl
 have o:w1.os=wr.os/\w1.tape=wr.tape/\w1.output=wr.output:=by rcases hw with rfl|rfl<;>exact⟨rfl,rfl,rfl⟩
 have a:=h.it.lt;have g:w.heap.size<=wr:=h.low.size;refine⟨?_, ?_,DE h.sides (IL h.it hw),h.keys.cells (IL h.it hw), ?_⟩
 ·refine h.map.heap ?_;show(w1.heap.setIfInBounds _ _)[M]?=_
  rw[xu,ya af,e]
 ·show(w1.heap.setIfInBounds _ _)[w.heap.size]?=_
  rw[xu,yc rfl,yc (by rw[e];exact a)]
 ·refine⟨o.1.bu h.low.os,o.2.1.bu h.low.tape,o.2.2.bu h.low.output, ?_,fun k hk=> ?_⟩
  ·show _<=(w1.heap.setIfInBounds _ _).size;rw[Array.size_setIfInBounds,e];exact g
  ·show(w1.heap.setIfInBounds _ _)[k]?=_
   rw[xu,ya af,e];exact h.low.block k hk
def zR(h:S.Nodup)(hl:∀i∈S,i<N):S.length<=N:=by
 have s:S.Perm ((List.range N).filter fun i=>decide (i∈S)):=(FG h (List.nodup_range.filter _)).2 fun a=>by
  simp only[tU,FC,decide_eq_true_eq];exact⟨fun ha=>⟨hl a ha,ha⟩,fun ha=>ha.2⟩
 have:=mO (fun i=>decide (i∈S)) (List.range N)
 rw[s.length_eq];simpa using this
structure NM(w W:World)(M:Nat)(D:List (Sd×Value))(S:List Nat)(A:List Sd)(K:List (List Int))(va vk:Value)(vs:List Value):Prop where
 map:et W M jH D
 it:jx W w M D S
 sides:W.ownsRow w 382 2 va A (bN oU A)
 keys:jX w W vk K vs
 low:Bw w W
 hM:M<w
def IM{base:Nat}{sz:Nat}{x:bE}(h:jx w r M N S)(ho:w.ownsRow base e sz x n xs):x.ownBlock≠some r:=by
 intro a;obtain⟨_,W⟩:=ho;rcases W with⟨rfl,_⟩|⟨j,cap,cur,rfl,_,hh,_⟩
 ·simp[Value.ownBlock]at a
 ·simp[Value.ownBlock]at a;subst a;unfold jx at h;rw[h]at hh;cases hh
section
variable {w W W':World} {M:Nat} {D:List (Sd×Value)} {S:List Nat} {A A':List Sd} {K:List (List Int)} {va vk va' vk':Value} {vs:List Value}
def NM.alloc(h:NM w W M D S A K va vk vs)(o:Obj):NM w (W.alloc o) M D S A K va vk vs:=by have b:Bw W (W.alloc o):=aI;exact⟨h.map.keep b,h.it.keep b,cJ h.sides b,h.keys.keep b,h.low.bu (b.bC h.low.size),h.hM⟩
def NM.Uc(h:NM w W M D S A K va vk vs)(hg:W.grownBy W' va.ownBlock)(ho:W'.ownsRow w 382 2 va' A' (bN oU A')):NM w W' M D S A' K va' vk vs:=by
 have X:=h.hM;have a:=h.low.size;refine⟨h.map.heap (hg.block M af fun e=> ?_),h.it.heap (hg.block _ h.it.lt fun e=>IM h.it h.sides e.symm),ho,⟨h.keys.len, ?_,fun i h1 h2=> ?_⟩,h.low.grown hg a (fun q hq=>(h.sides.lt q hq).1),h.hM⟩
 ·have:=(h.sides.lt M e.symm).1
  omega
 ·exact ed h.keys.own fun k hk=>ec.grown hg k (h.keys.own.lt k hk).2 (fun e=>ra h.keys.own h.sides ah k hk k e rfl)
 ·exact ed (h.keys.row i h1 h2) fun k hk=>ec.grown hg k ((h.keys.row i h1 h2).lt k hk).2 (fun e=>ra (h.keys.row i h1 h2) h.sides ah k hk k e rfl)
variable{u:bE}
def NM.Ud(h:NM w W M D S A K va vk vs){z:bF Int}(hu:W.ownsRow w 2 1 u z (bN eI z))(hg:W.grownBy W' vk.ownBlock)(ho:W'.ownsRow w 45 1 vk' (K.length+1) (bN eV vs++[u])):NM w W' M D S A (K++[z]) va vk' (vs++[u]):=by
 have X:=h.hM;have a:=h.low.size;refine⟨h.map.heap (hg.block M af fun e=> ?_),h.it.heap (hg.block _ h.it.lt fun e=>IM h.it h.keys.own e.symm),ed h.sides fun k hk=>ec.grown hg k (h.sides.lt k hk).2 (fun e=>ra h.sides h.keys.own ah k hk k e rfl),h.keys.grow hu hg ho,h.low.grown hg a (fun q hq=>(h.keys.own.lt q hq).1),h.hM⟩;have:=(h.keys.own.lt M e.symm).1
 omega
end
def Ue(x:Sd)(W:bD)(hB:B<=W):((W.alloc (bH (mw x) 2)).alloc (bH #[.slice (some (be W 0)) 2 2] 45)).ownsRow B 2 1 (.slice (some (be W 0)) 2 2) (sV x).length (bN eI (sV x)):=by have h:=(bI.new W 2 (mw x)).alloc (bH #[.slice (some (be W 0)) 2 2] 45);exact⟨rfl,ci ⟨W,2,_,rfl,hB,h,bL _,az,rfl,rfl⟩⟩
def Uf(W:bD)(u:bE)(b:Nat)(hb:W.heap.size=b):∀j v,([u]:bF bE)[j]?=some v->(W.alloc (bH #[u] 45)).cell? (((be b 0):Addr).add j)=some v:=by intro j v J;subst hb;rw[iX,fW,(bI.new W 45 #[u]).c j];simpa using J
def pS(D:List (Sd×Value))(S P:List Nat)(k:Nat):List Sd:=(P.take k).map fun i=>jy D (S.getD i 0)
def Ug(S:bF Nat):(List.range S).map (fun i=>S.getD i 0)=S:=by
 apply jG
 ·simp
 ·intro i d c;simp[c]
def Uh(D:List (Sd×Value))(w:World)(e:Ending)(w':World):Prop:=∃(v:Value) (Q:List Nat),e=.returned v/\Q.Perm (List.range D)/\w'.ownsRow w 382 2 v Q (bN oU (Q.map (jy D)))/\Bw w w'
def Ui(M:Nat)(D:bF (Sd×bE))(w:bD)(hM:et w M jH D)(hn:D.length<=2000):bG 300 #[.map (some M)] w (Uh D w):=by
 have aE:=hM.lt;let⟨J,hi,ax,X,aN⟩:=wm Ua;let⟨j0,hj,bh,aW,a5⟩:=wm Dd;have bm:=TY underlying379 hM;have O:Hid (NO w (w.alloc (.mapIter (some M) D #[] D)) M D [] bd bd []):=aa (by
  have b1:Bw w (w.alloc (.mapIter (some M) D #[] D)):=aI;refine⟨hM.keep b1,jx.new _ _ _,au,fun i hi=>xl hi au,⟨aK,bS ⟨rfl,rfl⟩⟩,⟨rfl,⟨aK,bS ⟨rfl,rfl⟩⟩,fun i hi=>xl hi au⟩,b1⟩)
 clear hM;go_enter func300,ntmps300;go_wp2;go_loopw[3,4] (fun x3 x4 wr=>∃(S:bF Nat) (t:bF bE) (va s:bE),va=x3/\s=x4/\NO w wr M D S va s t) (fun _ _ wr=>match wr.heap[w.heap.size]? with|some (.mapIter _ _ S _)=>D.length-S.size|_=>0);exact⟨[],[],_,_,rfl,rfl,O.o⟩;obtain⟨S,t,va,s,rfl,rfl,hN⟩:=hrel;have I:=aa hN;clear hN;rcases T8 (enc:=jH) 0 I.o.map I.o.it I.o.nd I.o.lt with⟨hp,hnx⟩|⟨n,hnl,hnn,w1,hw1,hnx⟩
 ·have aP:=aa (Sl.own ww (l:=S.map (jy D)) (by rw[cR];exact I.o.sides));obtain⟨W,ka,rfl⟩:=bV I.o.sides;have aQ:(S.map fun i=>sV (jy D i)).length<=10000:=by
   rw[cR];have:=zR I.o.nd I.o.lt
   omega
  have aD:=Dc s _ t wr I.o.keys.at aQ;have hf:=bV I.o.keys.own;rw[cR]at hf;obtain⟨nk,kk,rfl⟩:=hf;have a3:=aa aD;have ai:=I.o.low;have HP:=aa hp;have bs:S.length<=2000:=bW (zR I.o.nd I.o.lt) hn;have g:=ai.size;clear aD hp aQ O bm I;go_wp2_with(go_at_call 244;refine a3.o.bC ?_;rintro e w5⟨v5,P,rfl,v,ad,_,c5⟩;rw[cR]at v ad;have H:=aa v;obtain⟨U,k5,rfl⟩:=bV v;have aq:=aa ad;clear v ad);have N:P.length=S.length:=aG aq.o.length_eq;have a9:=aa (Sl.own kI (l:=P.map fun i:Nat=>(i:Int)) (by rw[cR,N];exact H.o));have Y:=aa (aP.o.keep c5);have aT:=ai.bu (c5.bC g);have am:=aT.size;have ba:Hid (∀i∈P,i<S.length):=aa fun i hi=>by simpa using aq.o.mem_iff.1 hi
  have f:=aa N;clear N aP H c5 hnx;go_loopw[6,30] (fun vo vi wr2=>∃k:Nat,k<=S.length/\vi=k/\wr2.ownsRow w5 382 2 vo (pS D S P k).length (bN oU (pS D S P k))/\Bw w5 wr2) (fun _ vi _=>S.length-(intOf vi).toNat);exact⟨0,cH _,rfl,⟨by simp[bN,pS],bS ⟨rfl,rfl⟩⟩,bM _ _⟩;obtain⟨k,hk,rfl,ab,F⟩:=hrel;have Q:=aa ab;obtain⟨V,ko,rfl⟩:=bV ab;clear ab;by_cases a4:k<S.length
  ·let⟨a',ay,R,_,bQ,bb,az⟩:=a9.o;rw[cR,f.o]at R;have ao:k<P.length:=by rw[f.o];exact a4
   have bc:k<(P.map fun i:Nat=>(i:Int)).length:=by rw[cR];exact ao
   let⟨e1,e2⟩:U=a'/\k5=ay:=aG R;subst e1 e2;obtain⟨b,a8,rfl,a2,aU⟩:=az af;have A:=aU k bc 0 _ rfl;rw[gD,gg,lj]at A;have r0:=(F.c (p:=(b,a8+k)) a2).bu A;have aS:P[k]<S.length:=ba.o _ (cZ ao);let⟨bl,T,an,_,bO,a6,aM⟩:=Y.o;rw[cR]at an;have bk:P[k]<(S.map (jy D)).length:=by rw[cR];exact aS
   let⟨e1,e2⟩:W=bl/\ka=T:=aG an;subst e1 e2;obtain⟨d,aj,rfl,aL,aF⟩:=aM af;let⟨p0,Z⟩:=IK (aF P[k] bk);rw[lj]at p0 Z;have r1:=(F.c (p:=⟨d,aj+P[k]*2,none⟩) aL).bu p0;have r2:=(F.c (p:=⟨d,aj+P[k]*2+1,none⟩) aL).bu Z;have br:0<=(k:Int):=af;have bq:k<(S:Int):=af;have bR:0<=(P[k]:Int):=af;have bx:(P[k]:Int)<(S:Int):=af;unfold maxLen at bb a6;have a0:Hid (pS D S P (k+1)=pS D S P k++[jy D S[P[k]]]):=aa (by
    unfold pS;rw[fj ao,jf];simp only[eu,nH];rw[dy,dG aS];rfl)
   have bB:(pS D S P k).length<=k:=by unfold pS;rw[cR,dx];omega
   clear aU aF A p0 Z az aM R an;generalize pS D S P k=L at*;generalize jy D S[P[k]]=y at*;generalize P[k]=pk at*;have bp:=F.size;go_wp2_with(at_builtin;refine fG ww ah IJ _ rfl _ _ 383 rfl w5 382 J (.agg #[(),()]) 16 underlying383 hi ax X aN aB (.slice V L ko) L rfl (Q.o.alloc _) (some (be wr 0)) 1 [y] rfl (Sl.fg oU ww _ 382 _ aB _ rfl) Qaj (by show(L.length+1)*16<=_;omega) (F.alloc F.size (bH (mw y) 382)).size ?_;intro v' w2 ab ac ag;have b4:=(F.alloc F.size (bH (mw y) 382)).grown ac (F.alloc F.size _).size (fun q hq=>(Q.o.lt q hq).1);rw[<-a0.o]at ab;obtain⟨n2,k2,rfl⟩:=bV ab;clear ac ag);go_roundw;exact⟨k+1,af,aw,ab,b4⟩;exact aV
  ·obtain rfl:k=S.length:=af;have bP:¬(S.length<(S:Int)):=af;go_wp2;go_ret;have e1:pS D S P S.length=(P.map fun i=>S.getD i 0).map (jy D):=by
    unfold pS;rw[eU (by rw[f.o];exact bL _),lD];rfl
   refine⟨_,P.map fun i=>S.getD i 0,rfl, ?_, ?_,aT.bu (F.bC am)⟩
   ·refine(aq.o.map _).bu ?_;refine List.Perm.bu ?_ HP.o;rw[Ug]
   ·have h:=d8 Q.o am;rw[e1]at h;rw[e1,show(P.map fun i=>S.getD i 0).length=((P.map fun i=>S.getD i 0).map (jy D)).length from(cR ..).symm];exact h
 ·have ae:=Ub (n:=n) I.o aE hw1;dsimp only at ae;generalize setBlock w1 w.heap.size (Obj.mapIter (some M) D.length (S++[n]).toArray D.length)=W2 at hnx ae;obtain⟨mM,mI,mS,mK,mL⟩:=ae;have bn:=T9 hnl mM mI;let⟨x,j⟩:=aH (D[n].1);have ar:jy D n=x:=by unfold jy;rw[dG hnl,<-j];rfl
  rw[j]at bn hnx;have aJ:=aa ar;have aO:=aa (show NM w W2 M D (S++[n]) (S.map (jy D)) (S.map fun i=>sV (jy D i)) va s t from⟨mM,mI,by rw[cR];exact mS,mK,mL,aE⟩);have aC:Hid ((S++[n]).Nodup):=aa (by
   rw[xB];exact⟨I.o.nd,au,fun a ha b hb=>by
    have:b=n:=aG hb
    subst this;rintro rfl;exact hnn ha⟩)
  have aR:Hid (∀i∈S++[n],i<D.length):=aa (by
   intro i hi;rcases xq.1 hi with h|h
   ·exact I.o.lt i h
   ·have:i=n:=aG h
    omega)
  have bo:S.length<=D:=zR I.o.nd I.o.lt;have g:=mL.size;clear mM mI mS mK mL j ar hw1 hnn;obtain⟨W,ka,rfl⟩:=bV I.o.sides;obtain⟨nk,kk,rfl⟩:=bV I.o.keys.own;have G:=aa I.o.keys.len;let⟨KL,m⟩:=aH ((S.map fun i=>sV (jy D i)).length);have ap:=aa m;have av:Hid (KL=S.length):=aa (by rw[<-m,cR]);rw[m];have a7:=aa I.o.it;clear m I;let⟨ak,K⟩:=Jh2 ((aO.o.alloc (bH (mw x) 382)).alloc (bH (mw x) 382)) ((bI.new W2 382 (mw x)).alloc (bH (mw x) 382));go_wp2_with(first|(at_builtin;refine fG ww ah IJ _ rfl _ _ 383 rfl w 382 J (.agg #[(),()]) 16 underlying383 hi ax X aN aB (.slice W S.length ka) (S.map (jy D)) rfl (by exact ak.o.sides) (some (be (W2.heap.size+1) 0)) 1 [x] rfl (Sl.fg oU ww _ 382 _ aB _ au) (by rw[cR];unfold maxLen;simp;omega) (by rw[cR];simp;omega) aA ?_;intro bw W3 ab ac ag;have C:=aa (ak.o.Uc ac ab);have al:=aa (show bI W3 W2 382 (mw x)from(ac.block _ K.o.lt (fun e=>by have:=(aO.o.sides.lt _ e.symm).2;omega)).bu K.o);rw[cO,cR,eN]at ab;obtain⟨bK,bv,rfl⟩:=bV ab;clear ab ac ag;have x0:=al.o.c 0;have x1:=al.o.c 1;have E:=aa ((C.o.alloc (bH (mw x) 2)).alloc (bH #[.slice (some (be W3 0)) 2 2] 45));have r:=aa (Ue x W3 C.o.low.size);have a1:=aa (Uf (aZ W3 (mw x) 2) (.slice (some (be W3 0)) 2 2) (W3.heap.size+1) au))|(at_builtin;refine wpList_append_own_at _ rfl _ _ 313 rfl w 45 j0 (.slice none 0 0) 1 24 underlying313 hj bh aW a5 rfl ah (.slice nk KL kk) KL (bN eV t) rfl (by have:=E.o.keys.own;rw[ap.o]at this;exact this) (be (W3.heap.size+1) 0) 1 1 [.slice (some (be W3 0)) 2 2] rfl rfl (by exact a1.o) Qc5 (by unfold maxLen;have:=av.o;omega) (by have:=av.o;omega) (by have:=E.o.low.size;simpa using this) ?_;intro bz W6 ab ac _ ag;have B:=aa (E.o.Ud (u:=.slice (some (be W3 0)) 2 2) (z:=sV x) r.o (by rw[ap.o];exact ac) (by rw[ap.o];exact ab));obtain⟨bJ,bA,rfl⟩:=bV ab;clear ab ac ag));go_roundw
  case rel=>exact⟨S++[n],_,_,_,rfl,rfl,B.o.map,B.o.it,aC.o,aR.o,by simpa[aJ.o]using B.o.sides,by simpa[aJ.o]using B.o.keys,B.o.low⟩
  case measure=>
   let⟨h6,O,hl⟩:=Jt3 B.o.it a7.o (zR aC.o aR.o);rw[cO,eN]at hl;unfold jx at h6 O;rw[h6,O];simp;omega
end
section
attribute [local go_sem ↓] wp_at_zero wp_at_succ
def fE(C:bZ)(m a:Int):Int:=if fR C m then(if a=0 then 0 else if fX C a then 0 else 10)else 9
def Uj(vm vs vc:bE)(C:bZ)(w:bD)(hc:dM w vm vs vc C)(x:Lg):
  bG 299 #[eT vm vs vc C,.agg #[x.mem,x.bK,x.bJ]] w (bi (fE C x.mem x.bK) w):=by
 have P:Bw w ((w.alloc (bH (cU vm vs vc C) 26)).alloc (bH (dI x) 120)):=aI.alloc au _;let⟨G,N⟩:=Jh2 (hc.keep P) ((bI.new w 26 (cU vm vs vc C)).alloc (bH (dI x) 120));have D:=aa (show bI ((w.alloc (bH (cU vm vs vc C) 26)).alloc (bH (dI x) 120)) (w.heap.size+1) 120 (dI x)from heap_alloc2_new _ _ _);have U:=hc;clear hc;by_cases n:fR C x.mem
 ·have l:=aa n;by_cases a:x.bK=0
  ·have F:(x.bK==0)=true:=aG a;have O:Hid (fE C x.mem x.bK=0):=aa (by unfold fE;rw[yc n,yc a]);clear n a U;go_enter func299,ntmps299;go_wp2_with(go_at_call 112;refine(lG vm vs vc C _ G.o _).bC ?_;rintro e V⟨m,rfl,b⟩;rw[yc l.o];have R:=aa ((P.bu (b.bC P.size)).alloc (bW P.size b.size) (.cells (eR m) 125));have q:=((D.o.keep b).alloc (bH (eR m) 125)).c 1;have J:=((D.o.keep b).alloc (bH (eR m) 125)).c 0);go_ret;exact⟨by rw[O.o];rfl,R.o⟩
  ·have F:(x.bK==0)=false:=aG a;let⟨y,B⟩:∃y:Int,(if fX C x.bK then(0:Int)else 10)=y:=⟨_,rfl⟩;have i:=aa B;have O:Hid (fE C x.mem x.bK=y):=aa (by unfold fE;rw[yc n,ya a,B]);clear B;clear n a U;go_enter func299,ntmps299;go_wp2_with(first|(go_at_call 112;refine(lG vm vs vc C _ G.o _).bC ?_;rintro e V⟨m,rfl,b⟩;rw[yc l.o];have R:=aa ((P.bu (b.bC P.size)).alloc (bW P.size b.size) (.cells (eR m) 125));have q:=((D.o.keep b).alloc (bH (eR m) 125)).c 1;have J:=((D.o.keep b).alloc (bH (eR m) 125)).c 0;have s:=aa (G.o.keep b);obtain⟨j,Z,Y,k,h,r,p,X⟩:=s8 ((N.o.keep b).alloc (bH (eR m) 125)))|(go_at_call 144;refine(vP vm vs vc C _ (s.o.keep aI) _).bC ?_;rintro e g⟨T,rfl,f⟩;rw[i.o];have d:=aa ((R.o.bu (f.bC R.o.size)).alloc (bW R.o.size f.size) (.cells (iQ T) 127))));go_ret;exact⟨by rw[O.o];rfl,d.o⟩
 ·have l:=aa n;have O:Hid (fE C x.mem x.bK=9):=aa (by unfold fE;rw[ya n]);clear n U;go_enter func299,ntmps299;go_wp2_with(go_at_call 112;refine(lG vm vs vc C _ G.o _).bC ?_;rintro e V⟨m,rfl,b⟩;rw[ya l.o];have R:=aa ((P.bu (b.bC P.size)).alloc (bW P.size b.size) (.cells (eR m) 125)));go_ret;exact⟨by rw[O.o];rfl,R.o⟩
end
variable {κ:Type} {enc:κ->Value}
structure jL(w:World)(B M:Nat)(enc:κ->Value)(D:List (κ×Value))(R:List Value)(Z:List (List Int)):Prop where
 map:et w M enc D
 rows:Rows w B R Z
variable{w:bD}{B M:Nat}{D:bF (κ×bE)}
def DF{R:bF bE}{Z:bF (bF Int)}(h:jL w B M enc D R Z):∀v∈R,∀g,v.ownBlock=some g->g≠M:=by intro v a g b;obtain⟨i,p,rfl⟩:=eW a;exact vQ h.map (h.rows.own i p (by rw[<-h.rows.len];exact p)) g b
section
variable {w w':World} {B M:Nat} {D D':List (κ×Value)} {R:List Value} {Z:List (List Int)}
def jL.keep(h:jL w B M enc D R Z)(hb:Bw w w'):jL w' B M enc D R Z:=⟨h.map.keep hb,h.rows.keep hb⟩
def jL.alloc(h:jL w B M enc D R Z)(o:Obj):jL (w.alloc o) B M enc D R Z:=h.keep aI
def jL.d{wd:bD}(h:jL w B M enc D R Z)(e:wd.heap=w.heap:=by rfl):jL wd B M enc D R Z:=⟨h.map.heap (by rw[e]),h.rows.heap fun v hv g hg=>by rw[e]⟩
def jL.put(h:jL w B M enc D R Z)(D':bF (κ×bE)):jL (putObj w M (ew enc D')) B M enc D' R Z:=⟨h.map.put,h.rows.heap fun v hv g hg=>sD w M g _ (DF h v hv g hg)⟩
def jL.push(h:jL w B M enc D R Z):jL w B M enc D (R++[.slice none 0 0]) (Z++[[]]):=⟨h.map,h.rows.push⟩
def jL.grow(h:jL w B M enc D R Z)(i:Nat)(hi:i<R)(hz:i<Z){v':bE}{zs':bF Int}(hg:w.grownBy w' R[i].ownBlock)(ho:w'.ownsRow B 2 1 v' zs' (bN eI zs'))(hat:v'.ownBlock=R[i].ownBlock∨v'.ownBlock=some w.heap.size):jL w' B M enc D (R.set i v') (Z.set i zs'):=by refine⟨h.map.heap (hg.block M h.map.lt fun e=> ?_),h.rows.set i hi hz v' zs' hg ho hat⟩;exact DF h _ (cZ hi) M e.symm rfl
end
structure fF(w:World)(B M:Nat)(enc:κ->Value)(G:List (κ×List Int))(bv:List Value):Prop where
 lh:bv.length=G.length
 mid:jL w B M enc (List.zipWith (fun g v=>(g.1,v)) G bv) bv (G.map (·.2))
variable{w w':bD}{B M:Nat}{G:bF (κ×bF Int)}{bv:bF bE}
def fF.keep(h:fF w B M enc G bv)(hb:Bw w w'):fF w' B M enc G bv:=⟨h.lh,h.mid.keep hb⟩
def fF.alloc(h:fF w B M enc G bv)(o:Obj):fF (w.alloc o) B M enc G bv:=⟨h.lh,h.mid.alloc o⟩
def fF.d{wd:bD}(h:fF w B M enc G bv)(e:wd.heap=w.heap:=by rfl):fF wd B M enc G bv:=⟨h.lh,h.mid.d e⟩
def fF.new(w:bD)(enc:κ->bE):fF (w.alloc (.map #[] 0)) w w enc [] []:=by refine⟨rfl,⟨?_,⟨rfl,fun i h=>xl h au,fun i j h=>xl h au⟩⟩⟩;unfold et;rw[heap_alloc_new];rfl
def zS(h:bv.length=G.length):(List.zipWith (fun g v=>(g.1,v)) G bv).length=G.length:=by rw[xF,h,Nat.min_self]
variable{x:Int}{u:bE}
def fF.Uk [DecidableEq κ]{k:κ}(hb:bv.length=G.length)(hadd:di k x G=G++[(k,[x])])(h:jL w B M enc (List.zipWith (fun g v=>(g.1,v)) G bv++[(k,Value.slice none 0 0)]) ((bv++[Value.slice none 0 0]).set bv u) ((G.map (fun p:κ×bF Int=>p.2)++[[]]).set bv [x])):
  fF (putObj w M (ew enc ((List.zipWith (fun g v=>(g.1,v)) G bv++[(k,Value.slice none 0 0)]).set G (k,u)))) B M enc (di k x G) (bv++[u]):=by
 have c:=h.put ((List.zipWith (fun g v=>(g.1,v)) G bv++[(k,Value.slice none 0 0)]).set G (k,u));have o:(List.zipWith (fun g v=>(g.1,v)) G bv++[(k,Value.slice none 0 0)]).set G (k,u)=List.zipWith (fun g v=>(g.1,v)) (di k x G) (bv++[u]):=by
  rw[hadd,List.zipWith_append hb.symm];have:=zS hb
  rw[<-this];simp
 have r:(bv++[Value.slice none 0 0]).set bv u=bv++[u]:=au;have Q:(G.map (fun p:κ×bF Int=>p.2)++[[]]).set bv [x]=(di k x G).map (fun p:κ×bF Int=>p.2):=by
  rw[hadd,hb];have:G.length=(G.map (fun p:κ×bF Int=>p.2)).length:=au
  rw[this];simp
 rw[r,Q]at c;rw[o]at c⊢;exact⟨by rw[hadd];simp[hb],c⟩
variable{n:Nat}
def fF.IN [DecidableEq κ]{k:κ}(hb:bv.length=G.length)(hn:n<G)(hn2:n<bv)(hkey:(G[n]).1=k)(hadd:di k x G=G.set n (k,G[n].2++[x]))(h:jL w B M enc (List.zipWith (fun g v=>(g.1,v)) G bv) (bv.set n u) ((G.map (fun p:κ×bF Int=>p.2)).set n (G[n].2++[x]))):
  fF (putObj w M (ew enc ((List.zipWith (fun g v=>(g.1,v)) G bv).set n (k,u)))) B M enc (di k x G) (bv.set n u):=by
 have c:=h.put ((List.zipWith (fun g v=>(g.1,v)) G bv).set n (k,u));have o:(List.zipWith (fun g v=>(g.1,v)) G bv).set n (k,u)=List.zipWith (fun g v=>(g.1,v)) (di k x G) (bv.set n u):=by
  rw[hadd];apply jG
  ·simp
  ·intro i d c;simp only[vz,tY];by_cases a:n=i
   ·subst a;simp
   ·simp[a]
 have Q:(G.map (·.2)).set n (G[n].2++[x])=(di k x G).map (fun p:κ×bF Int=>p.2):=by rw[hadd];simp[List.map_set]
 rw[Q]at c;rw[o]at c⊢;exact⟨by rw[hadd];simp[hb],c⟩
def dX(x:Lg):Sd:=⟨x.mem,x.bK⟩
def fH(l:List Lg):List (Sd×List Int):=l.foldl (fun G x=>di (dX x) x.bJ G) []
def Ul(l:bF Lg)(x:Lg):fH (l++[x])=di (dX x) x.bJ (fH l):=by simp[fH]
def zT(l:bF Lg):(fH l).length<=l.length/\∀p∈fH l,p.2.length<=l.length:=by have h:=Cs dX Lg.bJ l [] 0 (bL _) (fun q hq=>xl hq au);simpa[fH]using h
def IP{κ:Type} [DecidableEq κ](k:κ)(x:Int):∀(G:bF (κ×bF Int)),(di k x G).map (·.1)=if k∈G.map (·.1)then G.map (·.1)else G.map (·.1)++[k]:=by
 intro G;induction G with
 |nil=>simp[di]
 |cons p G ih=>
  by_cases a:k=p.1
  ·simp[di,a]
  ·simp only[di,a,if_false,eu,ih,je,false_or];split<;>simp
def Um{κ:Type} [DecidableEq κ](k:κ)(x:Int)(G:bF (κ×bF Int))(h:(G.map (·.1)).Nodup):((di k x G).map (·.1)).Nodup:=by
 rw[IP];split
 ·exact h
 ·rename_i c;rw[xB];refine⟨h,au,fun a ha b hb=> ?_⟩;have:b=k:=aG hb
  subst this;rintro rfl;exact c ha
def IQ{κ α:Type} [DecidableEq κ](f:α->κ)(g:α->Int)(l:bF α):∀(G:bF (κ×bF Int)),(G.map (·.1)).Nodup->((l.foldl (fun G x=>di (f x) (g x) G) G).map (·.1)).Nodup:=by
 induction l with
 |nil=>intro G h;exact h
 |cons x l ih=>intro G h;exact ih _ (Um _ _ _ h)
def DG(l:bF Lg):((fH l).map (·.1)).Nodup:=IQ dX Lg.bJ l [] au
def Un{κ:Type} [DecidableEq κ](P:Int->Prop)(k:κ)(x:Int)(hx:P x)(G:bF (κ×bF Int))(h:∀p∈G,∀n∈p.2,P n):∀p∈di k x G,∀n∈p.2,P n:=by
 induction G with
 |nil=>
  intro p s n H;simp[di]at s;subst s;have:n=x:=aG H
  subst this;exact hx
 |cons q G ih=>
  intro p s n H;by_cases a:k=q.1
  ·simp only[di,a,if_true,je]at s;rcases s with rfl|s
   ·rcases xq.1 H with h1|h1
    ·exact h q (iG ..) n h1
    ·have:n=x:=aG h1
     subst this;exact hx
   ·exact h p (jS _ s) n H
  ·simp only[di,a,if_false,je]at s;rcases s with rfl|s
   ·exact h _ (iG ..) n H
   ·exact ih (fun p s=>h p (jS _ s)) p s n H
def IR{κ α:Type} [DecidableEq κ](P:Int->Prop)(f:α->κ)(g:α->Int)(l:bF α):∀(G:bF (κ×bF Int)),(∀x∈l,P (g x))->(∀p∈G,∀n∈p.2,P n)->∀p∈l.foldl (fun G x=>di (f x) (g x) G) G,∀n∈p.2,P n:=by
 induction l with
 |nil=>intro G _ h;exact h
 |cons x l ih=>intro G S h;exact ih _ (fun y hy=>S y (jS _ hy)) (Un P _ _ (S x (iG ..)) _ h)
variable{l:bF Lg}
def Uo(h:∀x∈l,bO x.bJ):∀p∈fH l,ep p.2:=IR bO dX Lg.bJ l [] h (fun p hp=>xl hp au)
def pT(C:bZ):List Lg->Int
 |[]=>0
 |x::r=>if fE C x.mem x.bK≠0 then fE C x.mem x.bK else pT C r
def Up(C:bZ):∀(l:bF Lg) (k:Nat) (hk:k<l),(∀j (hj:j<k) (h2:j<l.length),fE C l[j].mem l[j].bK=0)->fE C l[k].mem l[k].bK≠0->pT C l=fE C l[k].mem l[k].bK:=by
 intro l;induction l with
 |nil=>intro k hk;exact xl hk au
 |cons x l ih=>
  intro k hk h u;cases k with
  |zero=>simp only[pT,jr]at u⊢;rw[yc u]
  |succ k=>
   have O:=h 0 af au;simp only[jr]at O;simp only[pT,O,qj]at u⊢;rw[ya au];exact ih k (aG hk) (fun j hj h2=>h (j+1) af (aG h2)) u
def Uq(C:bZ):∀(l:bF Lg),(∀j (h2:j<l.length),fE C l[j].mem l[j].bK=0)->pT C l=0:=by
 intro l;induction l with
 |nil=>intro _;rfl
 |cons x l ih=>
  intro h;have O:=h 0 au;simp only[jr]at O;simp only[pT,O];rw[ya au];exact ih fun j h2=>h (j+1) (aG h2)
def gp(p:Sd×List Int):Option Lg:=if(du p.2).1≠0 then some ⟨p.1.mem,p.1.bK,(du p.2).1⟩else none
def zG:Sd×List Int:=(⟨0,0⟩,[])
def mx(C:bZ)(l o:List Lg)(r:Int):Prop:=
 if 1024<l.length then r=6/\o=[]
 else if pT C l≠0 then r=pT C l/\o=[]
 else if(fH l).any (fun p=>decide ((du p.2).2≠0))then r=2/\o=[]
 else r=0/\∃Q:List Nat,Q.Perm (List.range (fH l).length)/\o=(Q.map fun i=>(fH l).getD i zG).filterMap gp
def Ur(C:bZ)(l:List Lg)(w:World)(e:Ending)(w':World):Prop:=∃v r o,e=.returned (.tuple #[v,aY r])/\w'.ownsRow w.heap.size 120 3 v o.length (bN df o)/\Bw w w'/\mx C l o r
def qC(w:bD)(B T k:Nat)(enc:Lg->bF bE):w.ownsRow B T k bd ([]:bF Lg).length (bN enc []):=⟨aK,bS ⟨rfl,rfl⟩⟩
def Us(l:bF Int):(du l).2=0∨(du l).2=2:=by
 unfold du dK;split
 ·exact bS rfl
 ·exact ci rfl
variable{i j:Nat}
def Ut{G:bF (Sd×bF Int)}(h:(G.map (·.1)).Nodup)(hi:i<G)(hj:j<G)(he:G[i].1=G[j].1):i=j:=by have d:i<(G.map (·.1)).length:=aG hi;have c:j<(G.map (·.1)).length:=aG hj;exact(List.getElem_inj (h₀:=d) (h₁:=c) h).1 (aG he)
