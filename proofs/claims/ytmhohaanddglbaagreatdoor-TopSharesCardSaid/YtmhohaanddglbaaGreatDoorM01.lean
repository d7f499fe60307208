/- Lemmas for TopShares and TopKept; no law is closed here. -/
import Derived.Test.YtmhohaanddglbaaGreatDoorM00
import Derived.Lib.AppendZerosOnto
import Derived.Lib.Overlaps
set_option linter.all false
set_option maxRecDepth 100000
set_option maxHeartbeats 16000000
namespace Go.Proofs.YtmhohaanddglbaaGreatDoor
open Go.RowKit Go.Proofs.Tryz ZA ZU ZI ZD ZP ZR ZT ZS ZE ZO
variable{p:Prop}
def Qab(h:p:=by
  have aS:=H.o.qR;have bp:=pL (l.take k);have aw:y<(gj (l.take k)++K).length:=by rw[cO];omega
  have z:y<(I++d).length:=by rw[cO];omega
  have ad:=L.o.rows.own y z aw;have ah:(I++d)[y]=I[y]'(by omega):=lC (by omega);have am:(gj (l.take k)++K)[y]=(((l.take k).filter fun x=>decide (x.bK=(y:Int))).map (·.bJ)):=by rw[lC (by omega)];exact Cr _ _ (by omega) (by omega)
  rw[ah,am]at ad;have aR:(((l.take k).filter fun x=>decide (x.bK=(y:Int))).map (·.bJ)).length<=1024:=by rw[cR];exact bW (mO _ _) (by rw[dx];omega)
  let⟨zs,s⟩:∃zs,(((l.take k).filter fun x=>decide (x.bK=(y:Int))).map (·.bJ))=zs:=⟨_,rfl⟩;rw[s]at ad aR am;have a8:=aa s;clear s;let⟨va,ao⟩:∃va,I[y]'(by omega)=va:=⟨_,rfl⟩;rw[ao]at ad ah;let⟨au,aE⟩:=Jh2 ao ah;have hf:=bV ad;obtain⟨A,k8,rfl⟩:=hf;have O:=aa ad;have e0:W7.cell? (w.heap.size+1,y)=some (.slice A zs.length k8):=by
   rw[L.o.ib.c y,li,dG (by omega),au.o]
  have Q:W7.cell? (be wr.heap.size 2)=some (.int .i64 (y:Nat)):=by
   have h:=L.o.xb.c 2;have e:x.bK=(y:Int):=ak.o;simpa[e]using h
  have d3:W7.cell? (be wr.heap.size 3)=some (.int .i64 x.bJ):=L.o.xb.c 3;have a6:(W7.alloc (bH #[.int .i64 x.bJ] 2)).cell? (w.heap.size+1,y)=some (.slice A zs.length k8):=by
   rw[(L.o.alloc _).ib.c y,li,dG (by omega),au.o]
  have a4:(W7.alloc (bH #[.int .i64 x.bJ] 2)).cell? (be wr.heap.size 2)=some (.int .i64 (y:Nat)):=by
   have h:=(L.o.alloc (bH #[.int .i64 x.bJ] 2)).xb.c 2;have e:x.bK=(y:Int):=ak.o;rw[h];simp[e]
  have a5:(W7.alloc (bH #[.int .i64 x.bJ] 2)).cell? (be wr.heap.size 3)=some (.int .i64 x.bJ):=(L.o.alloc _).xb.c 3;have bP:(y:Int)<9:=by omega
  have b3:0<=(y:Int):=by omega
  have b0:=L.o.low.size;let⟨aU,aW,aD⟩:=Jh3 aw z aS;clear ad ao ah am;go_wp2;go_region_law((refine lV kI (by decide) kj _ (by rfl) _ _ 45 (by rfl) w.heap.size 2 j0 (.int .i64 0) 8 underlying45 hj aJ aK aG (by rfl) (.slice A zs.length k8) zs (by rfl) (by exact O.o.alloc _) (some (be W7.heap.size 0)) 1 1 [x.bJ] (by rfl) (by rfl) (by exact Sl.y8 _ x.bJ) (by simp only[eN];unfold maxLen;omega) (by simp only[eN];omega) (by simp;omega) ?_;intro v9 W9 ac ab M;have V:=aa ((L.o.alloc (bH #[.int .i64 x.bJ] 2)).zt (W':=W9) y aW.o aU.o (v':=v9) (zs':=zs++[x.bJ]) (by rw[aE.o];exact⟨ab.os,ab.tape,ab.output,ab.size,ab.block⟩) (by exact ac) (by rw[aE.o];exact M));have aO:=bV ac;obtain⟨n9,k9,rfl⟩:=aO;have e9:=V.o.ib.c y;have f9:=V.o.ib.free y;rw[li,dG (by have:=aD.o;omega),au.o]at e9;have x9:W9.cell? (be wr.heap.size 2)=some (.int .i64 (y:Nat)):=(by rw[V.o.xb.c 2];have e:x.bK=(y:Int):=ak.o;simp[e])))
  all_goals
   have aq:=aa (GQ (l:=l) (k:=k) V.o bk.o a9.o ba.o ak.o aL a8.o aD.o);rw[cO,eN]at aq;clear ac ab M e9 f9 x9 V e0 a6 Q a4 d3 a5;generalize W9.setCell (w.heap.size+1,y) (.slice n9 (zs.length+1) k9)=W10 at aq⊢;go_wp2;go_roundw;exact⟨k+1,d,_,by omega,by go_num,aq.o⟩;exact aV):p:=h
def Qat(h:p:=by omega):p:=h
def QaC(h:p:=by go_enter func233,ntmps233;go_wp2_with(go_at_call 287;refine(Cw _ _).bC ?_;rintro e i⟨rfl,rfl⟩);go_ret;exact⟨by rw[H.o];rfl,rfl⟩):p:=h
def QaR(h:p:=by go_wp2_with(go_at_call 233;refine(vR _ _ _).bC ?_;rintro e i⟨rfl,rfl⟩);go_ret;exact⟨rfl,aI⟩):p:=h
def Qa6(h:p:=by clear P;go_wp2_with(go_at_call 237;refine(zw x id _).bC ?_;rintro e w1⟨rfl,R⟩;rw[G.o]);go_ret2;exact⟨by rw[HP.o,z.o];rfl,L.bu (R.bC L.size)⟩):p:=h
def Qa7(h:p:=by clear P;go_wp2_with(go_at_call 232;refine(zv x id _).bC ?_;rintro e O⟨rfl,H⟩;rw[G.o]);go_ret2;exact⟨by rw[u.o,z.o];rfl,f.bu (H.bC f.size)⟩):p:=h
def Qa8(h:p:=by clear P;go_wp2_with(go_at_call 353;refine(zx x id _).bC ?_;rintro e X⟨rfl,Q⟩;rw[G.o]);go_ret2;exact⟨by rw[u.o,z.o];rfl,L.bu (Q.bC L.size)⟩):p:=h
def Qbh(h:p:=by rw[dx,hxl];omega):p:=h
def Qby(h:p:=by
  have:=mn D.o ((i+j)/2) k Z h h3
  rw[T.o]at this;omega):p:=h
def QbD(h:p:=by
  have:=mn D.o k ((i+j)/2) h Z h3
  rw[T.o]at this;omega):p:=h
def QbT(h:p:=by
  have:=mn D.o i k K h h3
  rw[T.o]at this;omega):p:=h
def Qb3(h:p:=by rw[dx,y];omega):p:=h
def QcG(h:p:=by simp[results,results190,go_sem,W,I,Q,K,t,S]):p:=h
def QcO(h:p:=by simp[results,results308,go_sem,W,I,Q,K]):p:=h
def QcQ(h:p:=by go_roundw;exact⟨k+1,af,aw,V.alloc V.size _,X.o ac⟩;exact aV):p:=h
def QcR(h:p:=by have d:=bV h;obtain⟨W,K,rfl⟩:=d;go_ret;exact⟨_,rfl,h,b⟩):p:=h
def Qc3(h:p:=by go_wp2;go_roundw;exact⟨k+1,af,aw,by rw[u.o],t⟩;exact aV):p:=h
def Qda(h:p:=by rw[P];exact vU _):p:=h
def Qdi(h:p:=by rw[T.o];exact P):p:=h
variable{a:Int}
def GK{b:Int}{p q:Bool}(h:(a,p)=(b,q)):Ending.returned (.tuple #[a,.bool p])=.returned (.tuple #[b,.bool q]):=by obtain⟨rfl,rfl⟩:=Prod.mk.inj h;rfl
def qo(n:Nat)(b:Bool):Int×Bool:=if b then(wrap64 (-(n:Int)),decide (n<=9223372036854775808))else(wrap64 n,decide (n<9223372036854775808))
def Cl(n:Nat)(hn:n<18446744073709551616)(b:Bool)(w:bD):bG 284 #[aX n,.bool b] w fun e w'=>e=.returned (.tuple #[aY (qo n b).1,.bool (qo n b).2])/\w=w':=by
 cases b
 ·go_enter func284,ntmps284;go_wp2;go_ret2;refine⟨GK ?_,rfl⟩;unfold qo;simp;omega
 ·go_enter func284,ntmps284;go_wp2;go_ret2;refine⟨GK ?_,rfl⟩;unfold qo;simp;refine⟨?_,af⟩;simp only[IntKind.wrap,IntKind.signed,IntKind.bits,wrap64];simp
def OC(a b:Int):a*b=if(decide (a<0) !=decide (b<0))=true then-((a.natAbs*b.natAbs:Nat):Int)else((a.natAbs*b.natAbs:Nat):Int):=by
 rcases kH a 0 with ha|ha<;>rcases kH b 0 with hb|hb
 ·obtain⟨n,rfl⟩:∃n:Nat,a=-(n:Int):=⟨a.natAbs,af⟩;obtain⟨m,rfl⟩:∃m:Nat,b=-(m:Int):=⟨b.natAbs,af⟩;rw[dT ha,dT hb];simp[Int.neg_mul_neg]
 ·obtain⟨n,rfl⟩:∃n:Nat,a=-(n:Int):=⟨a.natAbs,af⟩;obtain⟨m,rfl⟩:∃m:Nat,b=(m:Int):=⟨b.natAbs,af⟩;rw[dT ha,dF (show¬(m:Int)<0 by omega)];simp[Int.neg_mul]
 ·obtain⟨n,rfl⟩:∃n:Nat,a=(n:Int):=⟨a.natAbs,af⟩;obtain⟨m,rfl⟩:∃m:Nat,b=-(m:Int):=⟨b.natAbs,af⟩;rw[dF (show¬(n:Int)<0 by omega),dT hb];simp[Int.mul_neg]
 ·obtain⟨n,rfl⟩:∃n:Nat,a=(n:Int):=⟨a.natAbs,af⟩;obtain⟨m,rfl⟩:∃m:Nat,b=(m:Int):=⟨b.natAbs,af⟩;rw[dF (show¬(n:Int)<0 by omega),dF (show¬(m:Int)<0 by omega)];simp
def OD(P:Nat)(c:Bool)(h:bO (if c=true then-(P:Int)else(P:Int))):P/18446744073709551616=0/\P%18446744073709551616=P/\qo P c=((if c=true then-(P:Int)else(P:Int)),true):=by
 unfold bO at h;cases c
 ·simp only[Bool.false_eq_true,if_false]at h⊢;refine⟨af,af, ?_⟩;unfold qo;simp only[Bool.false_eq_true,if_false];rw[dT (show P<9223372036854775808 from af)];have:wrap64 (P:Int)=P:=aC
  rw[this]
 ·simp only[if_true]at h⊢;refine⟨af,af, ?_⟩;unfold qo;simp only[if_true];rw[dT (show P<=9223372036854775808 from af)];have:wrap64 (-(P:Int))=-(P:Int):=aC
  rw[this]
def OE(P:Nat)(c:Bool)(h:¬bO (if c=true then-(P:Int)else(P:Int))):P/18446744073709551616≠0∨(P/18446744073709551616=0/\(qo (P%18446744073709551616) c).2=false):=by
 unfold bO at h;by_cases O:P/18446744073709551616=0
 ·refine ci ⟨O, ?_⟩;have s:P%18446744073709551616=P:=af;rw[s];unfold qo;cases c
  ·simp at h⊢;omega
  ·simp at h⊢;omega
 ·exact bS O
def GM(a b:Int)(ha:bO a)(hb:bO b)(w:bD):bG 229 #[a,b] w fun e w'=>e=.returned (bg (dK (a*b)))/\w=w':=by
 have D:=aa (OC a b);have U:=ha;have F:=hb;unfold bO at U F;let⟨V,N⟩:=Jh2 ha hb;have W:a.natAbs<18446744073709551616:=af;have B:b.natAbs<18446744073709551616:=af;let⟨P,Y⟩:=aH (a.natAbs*b.natAbs);let⟨c,m⟩:=aH (decide (a<0) !=decide (b<0));rw[Y,m]at D;have d:(!(decide (a<0)==decide (b<0)))=c:=m;have g:P%18446744073709551616<18446744073709551616:=nI _ af;have u:=aa Y;clear ha hb Y;by_cases K:bO (a*b)
 ·have S:=aa (uf K);obtain⟨I,j,k⟩:=OD P c (by rw[<-D.o];exact K);let⟨R,M⟩:=aH (a*b);have n:Hid (qo P c=(R,true)):=aa (by rw[k,<-D.o,M]);have q:=aa M;clear M;let⟨l,z⟩:=Jh2 I j;clear I j k K;go_enter func229,ntmps229;go_wp2_with fail;refine(vC a V.o _).bC ?_;rintro e i⟨rfl,rfl⟩;go_wp2_with fail;refine(vC b N.o _).bC ?_;rintro e i⟨rfl,rfl⟩;go_wp2_with fail;refine(Tryz.bits_Mul64 a.natAbs b.natAbs W B _).bC ?_;rintro e i⟨rfl,rfl⟩;rw[u.o,l.o,z.o];go_wp2_with fail;refine(Cl P (by rw[<-z.o];exact g) c _).bC ?_;rintro e i⟨rfl,rfl⟩;rw[n.o];go_wp2;go_ret2;exact⟨yV (by rw[S.o,q.o]),rfl⟩
 ·have S:=aa (xI K);have H:=OE P c (by rw[<-D.o];exact K);clear K;rcases H with h|⟨h,h2⟩
  ·have f:((P/18446744073709551616:Nat):Int)≠0:=af;have T:(((P/18446744073709551616:Nat):Int) !=0)=true:=bne_iff_ne.2 f;have E:=aa f;let⟨Q,A⟩:=aH (P/18446744073709551616);rw[A]at T;have p:=aa A;clear f h A E;go_enter func229,ntmps229;go_wp2_with fail;refine(vC a V.o _).bC ?_;rintro e i⟨rfl,rfl⟩;go_wp2_with fail;refine(vC b N.o _).bC ?_;rintro e i⟨rfl,rfl⟩;go_wp2_with fail;refine(Tryz.bits_Mul64 a.natAbs b.natAbs W B _).bC ?_;rintro e i⟨rfl,rfl⟩;rw[u.o,p.o];go_wp2_with fail;refine(Cl _ g c _).bC ?_;rintro e i⟨rfl,rfl⟩;go_wp2;go_ret2;exact⟨yV (by rw[S.o]),rfl⟩
  ·let⟨r,s⟩:=Jh2 h h2;clear h h2;go_enter func229,ntmps229;go_wp2_with fail;refine(vC a V.o _).bC ?_;rintro e i⟨rfl,rfl⟩;go_wp2_with fail;refine(vC b N.o _).bC ?_;rintro e i⟨rfl,rfl⟩;go_wp2_with fail;refine(Tryz.bits_Mul64 a.natAbs b.natAbs W B _).bC ?_;rintro e i⟨rfl,rfl⟩;rw[u.o,r.o];go_wp2_with fail;refine(Cl _ g c _).bC ?_;rintro e i⟨rfl,rfl⟩;rw[s.o];go_wp2;go_ret2;exact⟨yV (by rw[S.o]),rfl⟩
section
attribute [local go_sem ↓] wp_at_zero wp_at_succ
structure kQ(t:Tr):Prop where
 q:bO t.cK
 p:bO t.cF
def eA(t:Tr):Int×Int:=dK (t.cK*t.cF)
def Cn(t:Tr)(h:kQ t)(w:bD):bG 181 #[pG t] w fun e w'=>e=.returned (bg (eA t))/\w'=aZ w (ek t) 58:=by let⟨F,s⟩:=Jh2 h.q h.p;go_enter func181,ntmps181;go_wp2_with fail;refine(GM t.cK t.cF F.o s.o _).bC ?_;rintro e i⟨rfl,rfl⟩;go_wp2;go_ret2;exact⟨rfl,rfl⟩
def ut(t:Tr):Bool:=(eA t).2 !=0||decide (288230376151711744<(eA t).1)||decide (274877906944<t.cK)
def OF(t:Tr)(h:kQ t)(w:bD):bG 145 #[pG t] w (bi (.bool (ut t)) w):=by
 let⟨⟨v,G⟩,R⟩:∃r,eA t=r:=⟨_,rfl⟩;have M:=aa R;have H:Hid (ut t=((G !=0)||decide (288230376151711744<v)||decide (274877906944<t.cK))):=aa (by unfold ut;rw[R]);have g:Bw w ((w.alloc (bH (ek t) 58)).alloc (bH (ek t) 58)):=aI.alloc au _;let⟨b,d⟩:∃c,(G !=0)=c:=⟨_,rfl⟩;let⟨f,a⟩:∃c,decide (288230376151711744<v)=c:=⟨_,rfl⟩;let⟨F,x⟩:∃c,decide (274877906944<t.cK)=c:=⟨_,rfl⟩;rw[d,a,x]at H;have D:=aa h;clear R h;cases b<;>cases f<;>cases F
 all_goals
  go_enter func145,ntmps145;go_wp2_with fail;refine(Cn t D.o _).bC ?_;rintro e i⟨rfl,rfl⟩;rw[M.o];go_wp2;go_ret;exact⟨by rw[H.o];rfl,g⟩
def fR(C:bZ)(n:Int):Prop:=1<=n/\n<=C.mem
instance(C:bZ)(n:Int):Decidable (fR C n):=by unfold fR;infer_instance
def lG(vm vs vc:bE)(C:bZ)(w:bD)(hc:dM w vm vs vc C)(i:Int):
  bG 112 #[eT vm vs vc C,i] w fun e w'=>∃x:Mb,e=.returned (.tuple #[sp x,aY (if fR C i then 0 else 9)])/\Bw w w':=by
 by_cases h:fR C i
 ·unfold fR at h;obtain⟨k,rfl⟩:∃k:Nat,i=(k:Int)+1:=⟨(i-1).toNat,af⟩;exact(No vm vs vc C w hc k af).bC fun _ _ ⟨he,hb⟩=>⟨_,by rw[yc (show fR C ((k:Int)+1)from h)];exact he,hb⟩
 ·exact(Np vm vs vc C w hc i (by unfold fR at h;omega)).bC fun _ _ ⟨he,hb⟩=>⟨_,by rw[ya h];exact he,hb⟩
def m7(C:bZ)(t:Tr):Int:=if fR C t.dD/\fR C t.dE then(if t.dD=t.dE then 1 else 0)else 9
def zo(vm vs vc:bE)(C:bZ)(w:bD)(hc:dM w vm vs vc C)(t:Tr):
  bG 143 #[eT vm vs vc C,pG t] w (bi (m7 C t) w):=by
 have P:Bw w (((w.alloc (bH (cU vm vs vc C) 26)).alloc (bH (ek t) 58)).alloc (bH #[t.dD,t.dE] 3)):=(aI.alloc au _).alloc aA _;let⟨G,N⟩:=Jh2 (hc.keep P) (((bI.new w 26 (cU vm vs vc C)).alloc (bH (ek t) 58)).alloc (bH #[t.dD,t.dE] 3));have r:=aa (show bI (((w.alloc (bH (cU vm vs vc C) 26)).alloc (bH (ek t) 58)).alloc (bH #[t.dD,t.dE] 3)) (w.heap.size+1) 58 (ek t)from bI.alloc (heap_alloc2_new _ _ _) _);have D:=aa (show bI (((w.alloc (bH (cU vm vs vc C) 26)).alloc (bH (ek t) 58)).alloc (bH #[t.dD,t.dE] 3)) (w.heap.size+2) 3 #[t.dD,t.dE]from by have:=bI.new ((w.alloc (bH (cU vm vs vc C) 26)).alloc (bH (ek t) 58)) 3 #[t.dD,t.dE];simpa using this);clear hc;go_enter func143,ntmps143;go_wp2_with fail;dsimp only[cU,ek]at P G N r D;generalize(((w.alloc (bH #[vm,vs,vc,C.line,C.capital,C.lead,C.cj,C.cv] 26)).alloc (bH #[t.id,t.dD,t.dE,t.cP,t.cK,t.cF] 58)).alloc (bH #[t.dD,t.dE] 3))=W0 at*
 go_loopw[15] (fun i wr=>∃k:Nat,k<=2/\i=k/\Bw W0 wr/\(1<=k->fR C t.dD)/\(2<=k->fR C t.dE)) (fun i _=>2-(intOf i).toNat);exact⟨0,af,rfl,bM _ _,(fun h=>af),(fun h=>af)⟩;obtain⟨k,B,rfl,a,v,s⟩:=hrel;have d:=aa (G.o.keep a);have p:=s8 (N.o.keep a);obtain⟨j,Z,Y,y,z,x,A,X⟩:=p;let⟨W,I,q,u,H⟩:=Jt5 ((D.o.keep a).c 0) ((D.o.keep a).c 1) ((r.o.keep a).c 1) ((r.o.keep a).c 2) (P.bu (a.bC P.size));have f:k=0∨k=1∨k=2:=af;rcases f with rfl|rfl|rfl
 ·by_cases n:fR C t.dD
  ·have l:=aa n;go_wp2_with(go_at_call 112;refine(lG vm vs vc C _ d.o _).bC ?_;rintro e g⟨m,rfl,b⟩;rw[yc l.o];have R:=aa ((a.bu (b.bC a.size)).alloc (bW a.size b.size) (.cells (eR m) 125)));go_roundw;exact⟨1,ah,aB,R.o,(fun _=>l.o),(fun h=>af)⟩;simp[intOf]
  ·have l:=aa n;have O:Hid (m7 C t=9):=aa (by unfold m7;rw[ya (fun h=>n h.1)]);go_wp2_with(go_at_call 112;refine(lG vm vs vc C _ d.o _).bC ?_;rintro e g⟨m,rfl,b⟩;rw[ya l.o];have R:=aa ((a.bu (b.bC a.size)).alloc (bW a.size b.size) (.cells (eR m) 125)));go_ret;exact⟨by rw[O.o];rfl,P.bu (R.o.bC P.size)⟩
 ·by_cases n:fR C t.dE
  ·let⟨l,T⟩:=Jh2 n (v af);go_wp2_with(go_at_call 112;refine(lG vm vs vc C _ d.o _).bC ?_;rintro e g⟨m,rfl,b⟩;rw[yc l.o];have R:=aa ((a.bu (b.bC a.size)).alloc (bW a.size b.size) (.cells (eR m) 125)));go_roundw;exact⟨2,ah,aB,R.o,(fun _=>T.o),(fun _=>l.o)⟩;simp[intOf]
  ·have l:=aa n;have O:Hid (m7 C t=9):=aa (by unfold m7;rw[ya (fun h=>n h.2)]);go_wp2_with(go_at_call 112;refine(lG vm vs vc C _ d.o _).bC ?_;rintro e g⟨m,rfl,b⟩;rw[ya l.o];have R:=aa ((a.bu (b.bC a.size)).alloc (bW a.size b.size) (.cells (eR m) 125)));go_ret;exact⟨by rw[O.o];rfl,P.bu (R.o.bC P.size)⟩
 ·have K:=v af;have U:=s af;by_cases V:t.dD=t.dE
  ·have O:Hid (m7 C t=1):=aa (by unfold m7;rw[yc ⟨K,U⟩,yc V]);have F:(t.dD==t.dE)=true:=aG V;clear K U V;go_wp2;go_ret;exact⟨by rw[O.o];rfl,H⟩
  ·have O:Hid (m7 C t=0):=aa (by unfold m7;rw[yc ⟨K,U⟩,ya V]);have F:(t.dD==t.dE)=false:=aG V;clear K U V;go_wp2;go_ret;exact⟨by rw[O.o];rfl,H⟩
def fX(C:bZ)(n:Int):Prop:=1<=n/\n<=C.secs
instance(C:bZ)(n:Int):Decidable (fX C n):=by unfold fX;infer_instance
def vP(vm vs vc:bE)(C:bZ)(w:bD)(hc:dM w vm vs vc C)(i:Int):
  bG 144 #[eT vm vs vc C,i] w fun e w'=>∃x:Sc,e=.returned (.tuple #[vD x,aY (if fX C i then 0 else 10)])/\Bw w w':=by
 by_cases h:fX C i
 ·unfold fX at h;obtain⟨k,rfl⟩:∃k:Nat,i=(k:Int)+1:=⟨(i-1).toNat,af⟩;exact(F9 vm vs vc C w hc k af).bC fun _ _ ⟨he,hb⟩=>⟨_,by rw[yc (show fX C ((k:Int)+1)from h)];exact he,hb⟩
 ·exact(Gb vm vs vc C w hc i (by unfold fX at h;omega)).bC fun _ _ ⟨he,hb⟩=>⟨_,by rw[ya h];exact he,hb⟩
def lr(C:bZ)(t:Tr):Int:=if m7 C t≠0 then m7 C t else if fX C t.cP then(if t.cK<1∨t.cF<1 then 1 else if ut t=true then 2 else 0)else 10
def uv(vm vs vc:bE)(C:bZ)(w:bD)(hc:dM w vm vs vc C)(t:Tr)(hf:kQ t):
  bG 104 #[eT vm vs vc C,pG t] w (bi (lr C t) w):=by
 have P:Bw w ((w.alloc (bH (cU vm vs vc C) 26)).alloc (bH (ek t) 58)):=aI.alloc au _;let⟨G,N⟩:=Jh2 (hc.keep P) ((bI.new w 26 (cU vm vs vc C)).alloc (bH (ek t) 58));have D:=aa (show bI ((w.alloc (bH (cU vm vs vc C) 26)).alloc (bH (ek t) 58)) (w.heap.size+1) 58 (ek t)from heap_alloc2_new _ _ _);have S:=aa hf;let⟨T,I⟩:∃n,m7 C t=n:=⟨_,rfl⟩;have U:=aa I;have A:Hid (lr C t=if T≠0 then T else if fX C t.cP then(if t.cK<1∨t.cF<1 then 1 else if ut t=true then 2 else 0)else 10):=aa (by unfold lr;rw[I]);clear hc hf I;by_cases O:T=0
 ·subst O;rw[ya au]at A;by_cases L:fX C t.cP
  ·rw[yc L]at A;have d:=aa L;by_cases F:t.cK<1∨t.cF<1
   ·rw[yc F]at A;have m:t.cK<1∨(1<=t.cK/\t.cF<1):=af;clear L F;rcases m with F|⟨hq1,F⟩
    all_goals
     go_enter func104,ntmps104;go_wp2_with fail;refine(zo vm vs vc C _ G.o t).bC ?_;rintro e i⟨rfl,a⟩;rw[U.o];let⟨j,Z,Y,y,h,R,p,X⟩:=s8 (N.o.keep a);have K:=(D.o.keep a).c 3;have M:=aa (G.o.keep a);have z:=P.bu (a.bC P.size);have l:=aa (D.o.keep a);clear a;go_wp2_with fail;refine(vP vm vs vc C _ M.o _).bC ?_;rintro e k⟨x,rfl,f⟩;rw[yc d.o];have v:=z.bu (f.bC z.size);have V:=v.alloc v.size (bH (iQ x) 127);have g:=aa ((l.o.keep f).alloc (bH (iQ x) 127));let⟨r,t5⟩:=g.o.k2 4 5;clear f j Z Y y h R p X K;go_wp2;go_ret;exact⟨by rw[A.o];rfl,V⟩
   ·rw[ya F]at A;have E:1<=t.cK:=af;have H:1<=t.cF:=af;have d1:decide (t.cK<1)=false:=dF af;have Q:decide (t.cF<1)=false:=dF af;let⟨gb,B⟩:∃b,ut t=b:=⟨_,rfl⟩;rw[B]at A;have GB:=aa B;clear L F B;cases gb
    all_goals
     go_enter func104,ntmps104;go_wp2_with fail;refine(zo vm vs vc C _ G.o t).bC ?_;rintro e i⟨rfl,a⟩;rw[U.o];let⟨j,Z,Y,y,h,R,p,X⟩:=s8 (N.o.keep a);have K:=(D.o.keep a).c 3;have M:=aa (G.o.keep a);have z:=P.bu (a.bC P.size);have l:=aa (D.o.keep a);clear a;go_wp2_with fail;refine(vP vm vs vc C _ M.o _).bC ?_;rintro e k⟨x,rfl,f⟩;rw[yc d.o];have v:=z.bu (f.bC z.size);have V:=v.alloc v.size (bH (iQ x) 127);have g:=aa ((l.o.keep f).alloc (bH (iQ x) 127));let⟨J,q,u,s,r,t5⟩:=g.o.k6 0 1 2 3 4 5;clear f j Z Y y h R p X K;go_wp2_with fail;refine(OF t S.o _).bC ?_;rintro e w4⟨rfl,W⟩;rw[GB.o];have b4:=V.bu (W.bC V.size);clear W;go_wp2;go_ret;exact⟨by rw[A.o];rfl,b4⟩
  ·rw[ya L]at A;have d:=aa L;clear L;go_enter func104,ntmps104;go_wp2_with fail;refine(zo vm vs vc C _ G.o t).bC ?_;rintro e i⟨rfl,a⟩;rw[U.o];let⟨j,Z,Y,y,h,R,p,X⟩:=s8 (N.o.keep a);have K:=(D.o.keep a).c 3;have M:=aa (G.o.keep a);have z:=P.bu (a.bC P.size);clear a;go_wp2_with fail;refine(vP vm vs vc C _ M.o _).bC ?_;rintro e k⟨x,rfl,f⟩;rw[ya d.o];have v:=z.bu (f.bC z.size);have V:=v.alloc v.size (bH (iQ x) 127);clear f;go_wp2;go_ret;exact⟨by rw[A.o];rfl,V⟩
 ·rw[yc O]at A;have ab:(T !=0)=true:=aG O;clear O;go_enter func104,ntmps104;go_wp2_with fail;refine(zo vm vs vc C _ G.o t).bC ?_;rintro e i⟨rfl,a⟩;rw[U.o];have z:=P.bu (a.bC P.size);clear a;go_wp2;go_ret;exact⟨by rw[A.o];rfl,z⟩
def m9(x:Cy):List Tm:=[⟨x.cut,1,0,0⟩,⟨x.cI,3,0,0⟩,⟨x.fJ,4,0,0⟩,⟨x.close,5,0,0⟩]
def eP(l:List Cy):List Tm:=l.flatMap m9
def OH(l:bF Cy)(k:Nat)(h:k<l):eP (l.take (k+1))=eP (l.take k)++m9 l[k]:=by unfold eP;rw[fj h,List.flatMap_append,List.flatMap_singleton]
def zp(l:bF Cy):(eP l).length=4*l.length:=by
 induction l with
 |nil=>rfl
 |cons x l ih=>simp[eP,m9]at ih⊢;omega
abbrev OI(x:Cy):Array Value:=#[x.cut,(1:Int),(),(),x.cI,(3:Int),(),(),x.fJ,(4:Int),(),(),x.close,(5:Int),(),()]
def OJ(W:bD)(x:Cy)(b:Nat)(hb:W.heap.size=b):∀j u,(bN fB (m9 x))[j]?=some u->(W.alloc (bH (OI x) 197)).cell? (((be b 0):Addr).add j)=some u:=by subst hb;intro j u X;rw[iX,fW,(bI.new W 197 _).c j];simpa[bN,fB,m9]using X
structure Co(l:List Cy)(w wr:World)(k:Nat)(v:Value):Prop where
 own:wr.ownsRow w 197 4 v (eP (l.take k)).length (bN fB (eP (l.take k)))
 low:Bw w wr
def OM(l:List Tm)(w:World)(e:Ending)(w':World):Prop:=∃v,e=.returned (.tuple #[v,()])/\w'.ownsRow w 197 4 v l (bN fB l)/\Bw w w'
def OO(vm vs vc:bE)(C:bZ)(w:bD)(hc:dM w vm vs vc C)(hv:dz C):bG 100 #[eT vm vs vc C] w (OM (eP C.bU) w):=by
 let⟨G,N,M⟩:=Jh3 (hc.alloc (bH (cU vm vs vc C) 26)) (bI.new w 26 (cU vm vs vc C)) hv;have h4:=hv.c2;obtain⟨a,U,rfl,_,ab,d,F⟩:=hc.c;unfold maxLen at d;have I:=aa F;clear F hc hv;let⟨J,hi,S,X,q⟩:=wm xS;go_enter func100,ntmps100;go_wp2_with fail;refine(sw vm vs _ C _ G.o M.o).bC ?_;rintro e T⟨rfl,L⟩;have z:Bw w T:=aI.bu (L.bC au);have Y:=(N.o.keep L).c 2;have V:Co C.bU w T 0 bd:=⟨⟨rfl,bS ⟨rfl,rfl⟩⟩,z⟩;clear L N G;go_wp2;go_loopw[5,16] (fun va i wr=>∃k:Nat,k<=C.bU.length/\i=k/\Co C.bU w wr k va) (fun _ i _=>C.bU.length-(intOf i).toNat);exact⟨0,cH _,rfl,V⟩;obtain⟨k,hk,rfl,h,g⟩:=hrel;by_cases K:k<C.bU
 ·obtain⟨b,m,rfl,W,n⟩:=I.o af;let⟨A,E,H,B⟩:=yX (n k K);let⟨r0,s,P,f⟩:=Jt4 ((g.c (p:=(b,m+k*4)) W).bu A) ((g.c (p:=(b,m+k*4+1)) W).bu E) ((g.c (p:=(b,m+k*4+2)) W).bu H) ((g.c (p:=(b,m+k*4+3)) W).bu B);let⟨D,y⟩:=Jh2 (OH C.bU k K) (zp (C.bU.take k));have u:(eP (C.bU.take k)).length<=16:=by rw[y.o,dx];omega
  have O:0<=(k:Int):=af;have Z:k<(C.bU:Int):=af;clear n A E H B;generalize C.bU[k]=x at*;have t:=g.alloc g.size (bH (iy x) 63);have v:=aa (h.alloc (bH (iy x) 63));clear h;go_wp2_with(at_builtin;refine wpList_append_own _ rfl _ _ 148 rfl w 197 J (.agg #[(),(),(),()]) 4 32 underlying148 hi S X q rfl ah _ _ _ rfl (v.o.alloc _) (be (wr.heap.size+1) 0) 4 4 (bN fB (m9 x)) rfl rfl ?L ?c2 ?c3 ?c4 ?c5 ?_)
  case L=>exact OJ _ x _ au
  case c2=>exact lE sq _
  case c3=>unfold maxLen;omega
  case c4=>omega
  case c5=>have:=g.size;simp;omega
  intro j w2 r l _;have R:Co C.bU w w2 (k+1) j:=⟨by rw[D.o,ox,cO];exact r,(t.alloc t.size _).grown l (by have:=g.size;simp;omega) (vB v.o)⟩;clear r l v t;go_wp2;go_roundw;exact⟨k+1,af,aw,R⟩;exact aV
 ·rw[eU af]at h;have Q:=aa h;clear h;go_wp2;go_ret2;exact⟨_,rfl,Q.o,g⟩
end
def nP(x:Tm):List Tm->Nat->Int
 |[],_=>-1
 |y::l,k=>if x=y then(k:Int)else nP x l (k+1)
def OP(x:Tm)(l:bF Tm):∀k,x∉l->nP x l k=-1:=by
 induction l with
 |nil=>intro k _;rfl
 |cons y l ih=>intro k h;rw[nP,ya (fun e=>h (by simp[e])),ih (k+1) (fun hm=>h (by simp[hm]))]
def OQ(x:Tm)(l:bF Tm):∀(j k:Nat) (h:j<l),(∀i (hi:i<j),x≠l[i]'(by omega))->x=l[j]->nP x l k=(k+j:Nat):=by
 induction l with
 |nil=>intro j k h;simp at h
 |cons y l ih=>
  intro j k h H V;cases j with
  |zero=>rw[nP,yc (by simpa using V)];rfl
  |succ j=>
   have O:=H 0 Qat;rw[nP,ya (by simpa using O),ih j (k+1) (by simpa using h) (fun i hi=>by have:=H (i+1) Qat;simpa using this) (by simpa using V)];congr 1;omega
def GN{c d:Tm}(h:c≠d):c.dh≠d.dh∨(c.dh=d.dh/\c.cq≠d.cq)∨(c.dh=d.dh/\c.cq=d.cq/\c.mem≠d.mem)∨(c.dh=d.dh/\c.cq=d.cq/\c.mem=d.mem/\c.fY≠d.fY):=by obtain⟨i,n,a,D⟩:=c;obtain⟨P,z,t,V⟩:=d;simp only[ne_eq,Tm.mk.injEq]at h⊢;omega
def OR(v:bE)(l:bF Tm)(x:Tm)(w:bD)(hv:Sl fB 4 w v l)(hn:l.length<=1000000):
  bG 180 #[v,kM x] w fun e w'=>e=.returned (nP x l 0)/\Below w w w':=by
 obtain⟨a,U,rfl,_,t,d,F⟩:=hv;unfold maxLen at d;have r:=aa F;clear F;have P:Below w w (w.alloc (bH (dL x) 197)):=aI;have T:=aa (bI.new w 197 (dL x));go_enter func180,ntmps180;go_wp2_with fail;dsimp only[dL]at P T;generalize w.alloc (bH #[x.dh,x.cq,x.mem,x.fY] 197)=W0 at*;go_loopw[8] (fun i wr=>∃k:Nat,k<=l.length/\i=k/\Below W0 W0 wr/\∀j (h:j<k) (h2:j<l.length),x≠l[j]) (fun i _=>l.length-(intOf i).toNat)
 case atStart=>exact⟨0,cH _,rfl,bM _ _,(fun j h=>af)⟩
 case round=>
  obtain⟨k,X,rfl,q,z⟩:=hrel;have Q:=aa z;clear z;have y:=P.trans (q.mono P.size);by_cases G:k<l
  ·obtain⟨b,m,rfl,W,n⟩:=r.o af;let⟨A,E,H,B⟩:=sr (n k G);let⟨M,s,N,f,R,V⟩:=Jt6 ((y.c (p:=⟨b,m+k*4,none⟩) W).trans A) ((y.c (p:=⟨b,m+k*4+1,none⟩) W).trans E) ((y.c (p:=⟨b,m+k*4+2,none⟩) W).trans H) ((y.c (p:=⟨b,m+k*4+3,none⟩) W).trans B) ((T.o.keep q).c 0) ((T.o.keep q).c 1);have g:=(T.o.keep q).c 2;have L:=(T.o.keep q).c 3;have O:(0:Int)<=(k:Int):=af;have C:(k:Int)<(l.length:Int):=af;clear n A E H B;by_cases u:x=l[k]
   ·have I:Hid (nP x l 0=(k:Nat)):=aa (by rw[OQ x l k 0 G (fun i hi=>Q.o i hi af) u,fW]);rw[<-u]at M s N f;clear u;go_wp2;go_quiet(fail);go_wp2;go_ret;exact⟨by rw[I.o];rfl,gM y _⟩
   ·let⟨D,K⟩:=Jh2 (GN u) u;clear u;rcases D.o with h|⟨h1,h⟩|⟨h1,h2,h⟩|⟨h1,h2,h3,h⟩
    all_goals
     have S:=xp.2 h;clear h D;go_wp2;go_quiet(fail);go_wp2;go_roundw
     case rel=>exact⟨k+1,af,aw,gM q _,(fun j h h2=>by
      by_cases e:j=k
      ·subst e;exact K.o
      ·exact Q.o j af h2)⟩
     case measure=>simp[intOf];omega
  ·have I:Hid (nP x l 0=-1):=aa (OP x l 0 (fun hm=>by
    let⟨j,J,e⟩:=eW hm;exact Q.o j af J e.symm))
   go_wp2;go_ret;exact⟨by rw[I.o];rfl,y⟩
def OT(x:Tm)(l:bF Tm):∀k,decide (0<=nP x l k)=decide (x∈l):=by
 induction l with
 |nil=>intro k;simp[nP]
 |cons y l ih=>
  intro k;rw[nP];by_cases h:x=y
  ·rw[yc h];simp[h]
  ·rw[ya h,ih (k+1)];simp[h]
def OU(v:bE)(l:bF Tm)(x:Tm)(w:bD)(hv:Sl fB 4 w v l)(hn:l.length<=1000000):
  bG 142 #[v,kM x] w (bi (.bool (decide (x∈l))) w):=by
 have P:Bw w (aZ w (dL x) 197):=aI;let⟨M,c⟩:=Jh2 (hv.keep P) (OT x l 0);obtain⟨a,U,rfl,_⟩:=hv;go_enter func142,ntmps142;go_wp2_with fail;refine(OR _ l x _ M.o hn).bC ?_;rintro e i⟨rfl,b⟩;have z:=P.bu (b.bC au);clear b;generalize nP x l 0=n at*;go_wp2;go_ret;exact⟨by rw[<-c.o];rfl,z⟩
structure lH{α:Type}(enc:α->List Value)(k:Nat)(E:TypeId)(w w':World)(B g:Nat)(T:TypeId)(cs:Array Value)(off:Nat)(vl:Value)(l:List α)(K:List Nat)(vl':Value):Prop where
 blk:bI w' g T (cs.setIfInBounds off vl')
 own:w'.ownsRow B E k vl' l (bN enc l)
 mod:cg B [T,E] K w w'
 goes:kP w vl vl'
variable{k B g:Nat}{w w2:bD}{T:TypeId}{cs:Array bE}{vl v':bE}{K:bF Nat}
def uw{α:Type}{enc:α->bF bE}{E:TypeId}{off:Nat}{l ev:bF α}(hb:bI w g T cs)(ho:w.ownsRow B E k vl l (bN enc l))(hgrow:w.grownBy w2 vl.ownBlock)(hown:w2.ownsRow B E k v' (l++ev).length (bN enc (l++ev)))(hat:v'.ownBlock=vl.ownBlock∨v'.ownBlock=some w.heap.size)(hT:T≠E)(hB:B<=g)(hKg:g∉K)(hKv:∀k,vl.ownBlock=some k->k∉K):lH enc k E w (w2.setCell (g,off) v') B g T cs off vl (l++ev) K v':=by
 have F:=hb.grown ho hgrow hT;refine⟨F.set off v', ?_,(cg.grown ho hgrow au (bL _) hKv).bu (cg.set F au hB hKg), ?_⟩
 ·have:=fp F hown hT
  exact ed (w:=w2) hown (fun k hk=>fV _ _ _ _ (this k hk))
 ·exact QcB
def Sl.sq(w:bD)(x:Tm):Sl fB 4 (aZ w (dL x) 197) (.slice (some (be w 0)) 1 1) [x]:=by
 refine⟨some (be w 0),1,rfl,(fun h=>by cases h),au,az,fun _=>⟨w,0,rfl,au,fun i hi j u hu=> ?_⟩⟩;have c:i=0:=aG hi;subst c;have:=FW w x w rfl j u hu
 rw[iX]at this;simpa using this
structure En where
 (k m bK bJ:Int)deriving DecidableEq
abbrev nh(x:En):Array Value:=#[x.k,x.m,x.bK,x.bJ]
def lW(x:En):List Value:=[x.k,x.m,x.bK,x.bJ]
def Cp(x:En):(lW x).length=4:=rfl
def OY(x:En):∀u∈lW x,u.oneCell'=true:=by intro u X;simp[lW]at X;rcases X with rfl|rfl|rfl|rfl<;>rfl
def OZ:(prog.info? 231).map (fun i=>(i.zero,i.size,i.bytes))=some (some (.agg #[(),(),(),()]),4,32):=aj
variable{W:bD}{b o:Nat}{x:En}
def Cq(h:∀j u,(lW x)[j]?=some u->W.cell? ⟨b,o+j,none⟩=some u):W.cell? (b,o)=x.k/\W.cell? (b,o+1)=x.m/\W.cell? (b,o+2)=x.bK/\W.cell? (b,o+3)=x.bJ:=by exact⟨h 0 _ rfl,h 1 _ rfl,h 2 _ rfl,h 3 _ rfl⟩
abbrev xZ(x:Sp):Array Value:=#[x.k,x.m,x.bK]
def oI(x:Sp):List Value:=[x.k,x.m,x.bK]
def kSp(x:Sp):(oI x).length=3:=rfl
def O0(x:Sp):∀u∈oI x,u.oneCell'=true:=by intro u X;simp[oI]at X;rcases X with rfl|rfl|rfl<;>rfl
def O8:(prog.info? 369).map (fun i=>(i.zero,i.size,i.bytes))=some (some (.agg #[(),(),()]),3,24):=aj
def O9(W:bD)(x:Sp)(b:Nat)(hb:W.heap.size=b):∀j u,(oI x)[j]?=some u->(W.alloc (bH (xZ x) 369)).cell? (((be b 0):Addr).add j)=some u:=by subst hb;intro j u X;rw[iX,fW,(bI.new W 369 (xZ x)).c j];simpa[oI]using X
def Pa{x:Sp}(h:∀j u,(oI x)[j]?=some u->W.cell? ⟨b,o+j,none⟩=some u):W.cell? (b,o)=x.k/\W.cell? (b,o+1)=x.m/\W.cell? (b,o+2)=x.bK:=by exact⟨h 0 _ rfl,h 1 _ rfl,h 2 _ rfl⟩
def dO(x:En):Sp:=⟨x.k,x.m,x.bK⟩
def di{κ:Type} [DecidableEq κ](k:κ)(x:Int):List (κ×List Int)->List (κ×List Int)
 |[]=>[(k,[x])]
 |p::l=>if k=p.1 then(p.1,p.2++[x])::l else p::di k x l
def dC(l:List En):List (Sp×List Int):=l.foldl (fun G x=>di (dO x) x.bJ G) []
def gj(l:List En):List (List Int):=(List.range 9).map fun(a:Nat)=>(l.filter fun x=>decide (x.bK=(a:Int))).map (·.bJ)
def Pb(l:bF En)(x:En):dC (l++[x])=di (dO x) x.bJ (dC l):=by simp[dC]
def Pc(l:bF En)(x:En)(a:Nat)(ha:a<9)(hx:x.bK=(a:Int)):gj (l++[x])=(gj l).set a ((l.filter fun x=>decide (x.bK=(a:Int))).map (·.bJ)++[x.bJ]):=by
 apply mR;intro i;rw[sd];unfold gj;by_cases p:i<9
 ·simp only[ke,vA p,Option.map_some,cR,rZ,yQ,jf];by_cases D:a=i
  ·subst D;rw[yc rfl,yc p];simp[hx]
  ·rw[ya D];simp[hx];omega
 ·simp only[ke,cR,rZ];have e:(List.range 9)[i]?=none:=aA;rw[e,ya af];rfl
def assets_at?(l:bF En)(a:Nat)(ha:a<9):(gj l)[a]?=some ((l.filter fun x=>decide (x.bK=(a:Int))).map (·.bJ)):=by unfold gj;rw[ke,vA ha];rfl
def Cr(l:bF En)(a:Nat)(ha:a<(gj l).length)(h9:a<9):(gj l)[a]=(l.filter fun x=>decide (x.bK=(a:Int))).map (·.bJ):=(ada.1 (assets_at? l a h9)).2
def pL(l:bF En):(gj l).length=9:=by simp[gj]
def zr{κ:Type} [DecidableEq κ](k:κ):∀(G:bF (κ×bF Int)) (vs:bF bE) (i:Nat),vs.length=G.length->(look k (List.zipWith (fun g v=>(g.1,v)) G vs) i=none/\(∀x,di k x G=G++[(k,[x])]))∨
  ∃n,∃(h:n<G.length) (h2:n<vs.length),look k (List.zipWith (fun g v=>(g.1,v)) G vs) i=some (i+n,vs[n])/\G[n].1=k/\∀x,di k x G=G.set n (k,G[n].2++[x]):=by
 intro G;induction G with
 |nil=>intro vs i h;exact bS ⟨by simp[look],fun x=>rfl⟩
 |cons p G ih=>
  intro vs i h;cases vs with
  |nil=>simp at h
  |cons v vs=>
   simp only[gL,Nat.add_right_cancel_iff]at h;by_cases a:k=p.1
   ·refine ci ⟨0,au,au, ?_,by simp[a],fun x=>by simp[di,a]⟩;simp[look,a]
   ·rcases ih vs (i+1) h with⟨h1,h2⟩|⟨n,hn,hv,h1,h2,h3⟩
    ·refine bS ⟨by simp[look,a,h1],fun x=>by simp[di,a,h2 x]⟩
    ·refine ci ⟨n+1,aA,aA, ?_,aG h2,fun x=>by simp[di,a,h3 x]⟩;simp only[si,look,a,if_false,h1,qj];congr 2;omega
structure ux(l:List En)(w wr:World)(k:Nat)(M A:Nat)(vo:Value)(bv av:List Value):Prop where
 lh:bv.length=(dC (l.take k)).length
 qR:av.length=9
 map:et wr M lq (List.zipWith (fun g v=>(g.1,v)) (dC (l.take k)) bv)
 ib:bI wr A 45 av.toArray
 iw:wr.ownsRow w 369 3 vo (dC (l.take k)).length (bN oI ((dC (l.take k)).map (·.1)))
 rows:Rows wr w (av++bv) (gj (l.take k)++(dC (l.take k)).map (·.2))
 low:Bw w wr
 hM:w.heap.size<=M
 hA:w.heap.size<=A
def Pd(l:List En)(w:World)(e:Ending)(w':World):Prop:=∃M A vo bv av,e=.returned (.tuple #[.map (some M),.slice (some ⟨A,0,none⟩) 9 9,vo])/\ux l w w' l M A vo bv av
def GP{κ:Type} [DecidableEq κ](k:κ)(x:Int)(G:bF (κ×bF Int)):(di k x G).length<=G.length+1/\∀p∈di k x G,∀n,(∀q∈G,q.2.length<=n)->p.2.length<=n+1:=by
 induction G with
 |nil=>refine⟨by simp[di],fun p hp n _=> ?_⟩;simp[di]at hp;subst hp;simp
 |cons q G ih=>
  by_cases a:k=q.1
  ·refine⟨by simp[di,a],fun p hp n hn=> ?_⟩;simp only[di,a,if_true,je]at hp;rcases hp with rfl|hp
   ·have:=hn q au;simp;omega
   ·have:=hn p (by simp[hp]);omega
  ·refine⟨by simp[di,a];exact ih.1,fun p hp n hn=> ?_⟩;simp only[di,a,if_false,je]at hp;rcases hp with rfl|hp
   ·have:=hn p au;omega
   ·exact ih.2 p hp n (fun q hq=>hn q (by simp[hq]))
def Cs{κ α:Type} [DecidableEq κ](f:α->κ)(g:α->Int)(l:bF α):∀(G:bF (κ×bF Int)) (n:Nat),G.length<=n->(∀q∈G,q.2.length<=n)->(l.foldl (fun G x=>di (f x) (g x) G) G).length<=n+l.length/\∀p∈l.foldl (fun G x=>di (f x) (g x) G) G,p.2.length<=n+l.length:=by
 induction l with
 |nil=>intro G n d c;exact⟨d,c⟩
 |cons x l ih=>
  intro G n d c;have:=ih (di (f x) (g x) G) (n+1) (by have:=(GP (f x) (g x) G).1;omega) (fun p hp=>(GP (f x) (g x) G).2 p hp n c)
  simp only[qX,gL];exact⟨af,fun p hp=>by have:=this.2 p hp;omega⟩
def Ct(l:bF En):(dC l).length<=l.length/\∀p∈dC l,p.2.length<=l.length:=by
 have:=Cs dO En.bJ l [] 0 au au
 rw[fW]at this;exact this
def Pf{κ:Type} [DecidableEq κ](k:κ)(x:Int)(G:bF (κ×bF Int))(h:∀q∈G,0<q.2.length):∀p∈di k x G,0<p.2.length:=by
 induction G with
 |nil=>intro p s;simp[di]at s;subst s;simp
 |cons q G ih=>
  intro p s;by_cases a:k=q.1
  ·simp only[di,a,if_true,je]at s;rcases s with rfl|s
   ·simp
   ·exact h p (by simp[s])
  ·simp only[di,a,if_false,je]at s;rcases s with rfl|s
   ·exact h p au
   ·exact ih (fun q hq=>h q (by simp[hq])) p s
def Pg{κ α:Type} [DecidableEq κ](f:α->κ)(g:α->Int)(l:bF α):∀(G:bF (κ×bF Int)),(∀q∈G,0<q.2.length)->∀p∈l.foldl (fun G x=>di (f x) (g x) G) G,0<p.2.length:=by
 induction l with
 |nil=>intro G h;exact h
 |cons x l ih=>intro G h;exact ih _ (Pf (f x) (g x) G h)
def Ph(l:bF En):∀p∈dC l,0<p.2.length:=Pg dO En.bJ l [] au
variable{M n:Nat}{e:TypeId}{xs:bF bE}
def vQ{κ:Type}{enc:κ->bE}{D:bF (κ×bE)}{base:Nat}{sz:Nat}{x:bE}(h:et w M enc D)(ho:w.ownsRow base e sz x n xs):∀k,x.ownBlock=some k->k≠M:=by
 rintro k a rfl;obtain⟨_,W⟩:=ho;rcases W with⟨rfl,_⟩|⟨j,cap,cur,rfl,_,hh,_⟩
 ·simp[Value.ownBlock]at a
 ·simp[Value.ownBlock]at a;subst a;unfold et ew at h;rw[h]at hh;cases hh
def sG{κ:Type}{enc:κ->bE}{D:bF (κ×bE)}(h:et w M enc D)(hb:bI w g T cs):g≠M:=by rintro rfl;unfold et ew at h;unfold bI at hb;rw[h]at hb;cases hb
def ra{base base':Nat}{e':TypeId}{sz sz':Nat}{x x':bE}{n':Nat}{xs':bF bE}(h:w.ownsRow base e sz x n xs)(h':w.ownsRow base' e' sz' x' n' xs')(hT:e≠e'):∀k,x.ownBlock=some k->∀k',x'.ownBlock=some k'->k≠k':=by
 rintro k a k' b rfl;obtain⟨_,W⟩:=h;obtain⟨_,c⟩:=h';rcases W with⟨rfl,_⟩|⟨j,cap,cur,rfl,_,hh,_⟩
 ·simp[Value.ownBlock]at a
 ·rcases c with⟨rfl,_⟩|⟨j',cap',cur',rfl,_,hh',_⟩
  ·simp[Value.ownBlock]at b
  ·simp[Value.ownBlock]at a b;subst a b;rw[hh]at hh';cases hh'
   exact hT rfl
def Rows.Cu{vs:bF bE}{zs:bF (bF Int)}(h:Rows w B vs zs){v:bE}(hv:v∈vs):∃n xs,w.ownsRow B 2 1 v n xs:=by obtain⟨i,p,rfl⟩:=eW hv;exact⟨_,_,h.own i p QcI⟩
variable{w':bD}
def ec.grown{row:Option Nat}(h:w.grownBy w' row):∀k,k<w.heap.size->row≠some k->w'.heap[k]?=w.heap[k]?:=fun k hk hne=>h.block k hk (fun e=>hne e.symm)
def Sl.y8(w:bD)(n:Int):Sl eI 1 (aZ w #[n] 2) (.slice (some (be w 0)) 1 1) [n]:=by refine⟨some (be w 0),1,rfl,(fun h=>by cases h),au,az,fun _=>⟨w,0,rfl,au,fun i hi j u hu=> ?_⟩⟩;have a:i=0:=aG hi;subst a;rw[Nat.zero_mul,fW,(bI.new w 2 #[n]).c j];simpa[eI]using hu
structure iZ(w W:World)(M A X:Nat)(x:En)(vo:Value)(O:List Sp)(D:List (Sp×Value))(av:List Value)(R:List Value)(Z:List (List Int)):Prop where
 map:et W M lq D
 ib:bI W A 45 av.toArray
 iw:W.ownsRow w 369 3 vo O (bN oI O)
 rows:Rows W w R Z
 xb:bI W X 231 (nh x)
 sb:bI W (X+1) 369 (xZ (dO x))
 low:Bw w W
 hM:w.heap.size<=M
 hA:w.heap.size<=A
 hX:w.heap.size<=X
 dY:∀g,vo.ownBlock=some g->g≠X+1
section
variable {w W W':World} {M A X:Nat} {x:En} {vo:Value} {O:List Sp} {D:List (Sp×Value)} {av R:List Value} {Z:List (List Int)}
def iZ.alloc(h:iZ w W M A X x vo O D av R Z)(o:Obj):iZ w (W.alloc o) M A X x vo O D av R Z:=have b:Bw W (W.alloc o):=aI;⟨h.map.keep b,h.ib.keep b,cJ h.iw b,h.rows.keep b,h.xb.keep b,h.sb.keep b,h.low.bu (b.bC h.low.size),h.hM,h.hA,h.hX,h.dY⟩
def iZ.Pj(h:iZ w W M A X x vo O D av R Z){vo':bE}{O':bF Sp}(hg:W.grownBy W' vo.ownBlock)(ho:W'.ownsRow w 369 3 vo' O' (bN oI O'))(hat:vo'.ownBlock=vo.ownBlock∨vo'.ownBlock=some W.heap.size):iZ w W' M A X x vo' O' D av R Z:=by
 have a:∀k,k<W.heap.size->vo.ownBlock≠some k->W'.heap[k]?=W.heap[k]?:=ec.grown hg;refine⟨h.map.heap (a M h.map.lt fun e=>vQ h.map h.iw M e rfl),(a A h.ib.lt fun e=>fp h.ib h.iw ah A e rfl).bu h.ib,ho,h.rows.heap fun v hv g hgv=>a g (h.rows.lt v hv g hgv).2 fun e=> ?_,(a X h.xb.lt fun e=>fp h.xb h.iw ah X e rfl).bu h.xb,(a (X+1) h.sb.lt fun e=>h.dY _ e rfl).bu h.sb,h.low.grown hg h.low.size (vB h.iw),h.hM,h.hA,h.hX,fun g hgo=> ?_⟩
 ·let⟨n,c,b⟩:=h.rows.Cu hv;exact ra b h.iw ah g hgv g e rfl
 ·rcases hat with e|e
  ·exact h.dY g (e▸hgo)
  ·have:=h.sb.lt
   rw[e]at hgo;simp at hgo;omega
def iZ.put(h:iZ w W M A X x vo O D av R Z)(D':bF (Sp×bE)):iZ w (putObj W M (ew lq D')) M A X x vo O D' av R Z:=by
 have a:∀k,k≠M->(putObj W M (ew lq D')).heap[k]?=W.heap[k]?:=fun k hk=>sD W M k _ hk;exact⟨h.map.put,(a A (sG h.map h.ib)).bu h.ib,ed h.iw fun g hg=>a g (vQ h.map h.iw g hg),h.rows.heap fun v hv g hg=>a g (by
  let⟨n,c,b⟩:=h.rows.Cu hv;exact vQ h.map b g hg),(a X (sG h.map h.xb)).bu h.xb,(a (X+1) (sG h.map h.sb)).bu h.sb,⟨h.low.os,h.low.tape,h.low.output,by simpa[putObj]using h.low.size,fun k hk=>(a k (by have:=h.hM;omega)).bu (h.low.block k hk)⟩,h.hM,h.hA,h.hX,h.dY⟩
def iZ.zt(h:iZ w W M A X x vo O D av R Z)(i:Nat)(hi:i<R)(hz:i<Z){zs':bF Int}(hg:W.grownBy W' R[i].ownBlock)(ho:W'.ownsRow w 2 1 v' zs' (bN eI zs'))(hat:v'.ownBlock=R[i].ownBlock∨v'.ownBlock=some W.heap.size):iZ w W' M A X x vo O D av (R.set i v') (Z.set i zs'):=by have b:=h.rows.own i hi hz;have a:∀k,k<W.heap.size->R[i].ownBlock≠some k->W'.heap[k]?=W.heap[k]?:=ec.grown hg;exact⟨h.map.heap (a M h.map.lt fun e=>vQ h.map b M e rfl),(a A h.ib.lt fun e=>fp h.ib b ah A e rfl).bu h.ib,ed h.iw fun g hgo=>a g (h.iw.lt g hgo).2 fun e=>ra b h.iw ah g e g hgo rfl,h.rows.set i hi hz v' zs' hg ho hat,(a X h.xb.lt fun e=>fp h.xb b ah X e rfl).bu h.xb,(a (X+1) h.sb.lt fun e=>fp h.sb b ah (X+1) e rfl).bu h.sb,h.low.grown hg h.low.size (vB b),h.hM,h.hA,h.hX,h.dY⟩
def iZ.push(h:iZ w W M A X x vo O D av R Z):iZ w W M A X x vo O D av (R++[.slice none 0 0]) (Z++[[]]):=⟨h.map,h.ib,h.iw,h.rows.push,h.xb,h.sb,h.low,h.hM,h.hA,h.hX,h.dY⟩
def iZ.Pk(h:iZ w W M A X x vo O D av R Z)(a:Nat)(v:bE):iZ w (W.setCell (A,a) v) M A X x vo O D (av.set a v) R Z:=by
 have b:∀k,k≠A->(W.setCell (A,a) v).heap[k]?=W.heap[k]?:=fun k hk=>fV W (A,a) v k hk;refine⟨h.map.heap (b M (Ne.symm (sG h.map h.ib))), ?_,ed h.iw fun g hg=>b g (fp h.ib h.iw ah g hg),h.rows.heap fun u hu g hg=>b g (by
  let⟨n,d,c⟩:=h.rows.Cu hu;exact fp h.ib c ah g hg),(b X (h.xb.ne h.ib ah)).bu h.xb,(b (X+1) (h.sb.ne h.ib ah)).bu h.sb,⟨h.low.os,h.low.tape,h.low.output,by simpa[World.setCell]using h.low.size,fun k hk=>(b k (by have:=h.hA;omega)).bu (h.low.block k hk)⟩,h.hM,h.hA,h.hX,h.dY⟩
 have:=h.ib.set a v
 simpa using this
end
variable{l:bF En}{w W:bD}{M:Nat}{x:En}{av:bF bE}
def GQ{A X an:Nat}{vo v9:bE}{bv':bF bE}{gz:bF (bF Int)}{zs:bF Int}(h:iZ w W M A X x vo ((di (dO x) x.bJ (dC (l.take k))).map (·.1)) (List.zipWith (fun g v=>(g.1,v)) (di (dO x) x.bJ (dC (l.take k))) bv') av ((av++bv').set an v9) ((gj (l.take k)++gz).set an (zs++[x.bJ])))(htk:l.take (k+1)=l.take k++[x])(hbv:bv'.length=(di (dO x) x.bJ (dC (l.take k))).length)(hgz:(di (dO x) x.bJ (dC (l.take k))).map (fun p:Sp×bF Int=>p.2)=gz)(han:x.bK=(an:Int))(han9:an<9)(hzs:((l.take k).filter fun x=>decide (x.bK=(an:Int))).map (·.bJ)=zs)(hal:av.length=9):
  ux l w (W.setCell (A,an) v9) (k+1) M A vo bv' (av.set an v9):=by
 have c:=h.Pk an v9;have a:dC (l.take (k+1))=di (dO x) x.bJ (dC (l.take k)):=by rw[htk,Pb]
 have j:gj (l.take (k+1))=(gj (l.take k)).set an (zs++[x.bJ]):=by rw[htk,Pc (l.take k) x an han9 han,hzs]
 refine⟨by rw[a];exact hbv,by simp[hal],by rw[a];exact c.map,c.ib, ?_, ?_,c.low,c.hM,c.hA⟩
 ·have:=c.iw
  rw[cR]at this;rw[a];exact this
 ·have D:=c.rows;rw[List.set_append_left _ _ af,List.set_append_left _ _ (by rw[pL];exact han9)]at D;rw[a,j,hgz];exact D
def Pm(v:bE)(l:bF En)(w:bD)(hv:Sl lW 4 w v l)(hn:l.length<=1024)(ha:∀x∈l,0<=x.bK/\x.bK<9):bG 280 #[v] w (Pd l w):=by
 obtain⟨a,b9,rfl,_,cb,bO,F⟩:=hv;unfold maxLen at bO;let⟨a0,HA⟩:=Jh2 F ha;clear F ha;let⟨i0,hi,bB,bZ,bT⟩:=wm O8;let⟨j0,hj,aJ,aK,aG⟩:=wm mW;have b7:∀w:bD,(Instr.makeMap 364 none).run prog w=.ok (.map (some w.heap.size)) (w.alloc (.map #[] 0)):=fun w=>rfl;have b8:∀w:bD,(Instr.makeSlice 313 (.int .i64 9) (.int .i64 9)).run prog w=.ok (.slice (some (be w.heap.size 0)) 9 9) (w.alloc (.cells (List.replicate 9 (.slice none 0 0)).toArray 45)):=fun w=>by kernel_rfl
 have h0:ux l w ((w.alloc (.map #[] 0)).alloc (.cells (List.replicate 9 (.slice none 0 0)).toArray 45)) 0 w.heap.size (w.heap.size+1) (.slice none 0 0) [] (List.replicate 9 (.slice none 0 0)):=by
  have b1:Bw w (w.alloc (.map #[] 0)):=aI;refine⟨by simp[dC],by simp, ?_, ?_,⟨by simp[dC,bN],bS ⟨rfl,by simp[dC]⟩⟩, ?_,b1.alloc b1.size _,bL _,by omega⟩
  ·unfold et;rw[rU _ _ _ (by simp),heap_alloc_new];rfl
  ·have:=bI.new (w.alloc (.map #[] 0)) 45 (List.replicate 9 (.slice none 0 0)).toArray
   simpa using this
  ·have:=Rows.Oa ((w.alloc (.map #[] 0)).alloc (.cells (List.replicate 9 (.slice none 0 0)).toArray 45)) w.heap.size 9
   have e:gj (l.take 0)++(dC (l.take 0)).map (·.2)=List.replicate 9 []:=rfl;rw[e,ix];exact this
 have H0:=aa h0;clear h0;go_enter func280,ntmps280;go_wp2;go_loopw[7,15] (fun vo vi wr=>∃(k:Nat) (bv I:bF bE),k<=l.length/\vi=.int .i64 k/\ux l w wr k w.heap.size (w.heap.size+1) vo bv I) (fun _ vi _=>l.length-(intOf vi).toNat);exact⟨0,[],_,cH _,rfl,H0.o⟩;obtain⟨k,bv,I,hk,rfl,hG⟩:=hrel;have H:=aa hG;clear hG;by_cases aT:k<l.length
 ·obtain⟨b,aH,rfl,W,bs⟩:=a0.o Qat;let⟨q0,q1,q2,q3⟩:=Cq (bs k aT);have aj:=H.o.low;let⟨r0,r1,r2,r3⟩:=Jt4 ((aj.c (p:=(b,aH+k*4)) W).bu q0) ((aj.c (p:=(b,aH+k*4+1)) W).bu q1) ((aj.c (p:=(b,aH+k*4+2)) W).bu q2) ((aj.c (p:=(b,aH+k*4+3)) W).bu q3);clear bs q0 q1 q2 q3 aj;have b6:0<=(k:Int):=by omega
  have b5:k<(l:Int):=by omega
  let⟨x,hx⟩:∃x,l[k]=x:=⟨_,rfl⟩;rw[hx]at r0 r1 r2 r3;have HX:=aa hx;clear hx;have aQ:=bV H.o.iw;obtain⟨n1,k1,rfl⟩:=aQ;have ae:Hid (iZ w ((wr.alloc (bH #[.int .i64 x.k,.int .i64 x.m,.int .i64 x.bK,.int .i64 x.bJ] 231)).alloc (bH #[.int .i64 x.k,.int .i64 x.m,.int .i64 x.bK] 369)) w.heap.size (w.heap.size+1) wr.heap.size x (.slice n1 (dC (l.take k)).length k1) ((dC (l.take k)).map (·.1)) (List.zipWith (fun g v=>(g.1,v)) (dC (l.take k)) bv) I (I++bv) (gj (l.take k)++(dC (l.take k)).map (·.2))):=aa (by
   have G:=H.o;have b1:Bw wr (aZ wr (nh x) 231):=aI;have t:=b1.alloc b1.size (bH (xZ (dO x)) 369);have xb:=bI.new wr 231 (nh x);have sb:=bI.new (aZ wr (nh x) 231) 369 (xZ (dO x));have bx:(wr.alloc (bH (nh x) 231)).heap.size=wr.heap.size+1:=by simp
   rw[bx]at sb;refine⟨G.map.keep t,G.ib.keep t, ?_,G.rows.keep t,xb.alloc _,sb,G.low.bu (t.bC G.low.size),bL _,by omega,G.low.size,fun g hg=> ?_⟩
   ·have:=cJ G.iw t
    rw[cR];exact this
   ·have:=(G.iw.lt g hg).2
    omega)
  obtain⟨bw,ca⟩:=HA.o x (by rw[<-HX.o];exact cZ aT);let⟨y,bc⟩:=yN bw;have aL:y<9:=by omega
  have ak:=aa bc;have a2:=Ct (l.take k);have bz:(dC (l.take k)).length<=1024:=bW a2.1 (by rw[dx];omega);have bQ:=aa a2;clear bc a2;have bk:Hid (l.take (k+1)=l.take k++[x]):=aa (by rw[fj aT,HX.o]);let⟨DD,J⟩:∃DD,List.zipWith (fun g v=>(g.1,v)) (dC (l.take k)) bv=DD:=⟨_,rfl⟩;have br:=aa J;have a1:DD.length=(dC (l.take k)).length:=by rw[<-J,xF,H.o.lh,Nat.min_self]
  rw[J]at ae;let⟨GL,r⟩:∃GL,(dC (l.take k)).length=GL:=⟨_,rfl⟩;rw[r]at a1 bz ae;let⟨bm,ay⟩:=Jh2 r H.o.lh;have bb:=zr (dO x) (dC (l.take k)) bv 0 ay.o;rw[J]at bb;have bM:=aa bb;clear J bb;rw[r];clear r;go_wp2_with fail;generalize(wr.alloc (bH #[.int .i64 x.k,.int .i64 x.m,.int .i64 x.bK,.int .i64 x.bJ] 231)).alloc (bH #[.int .i64 x.k,.int .i64 x.m,.int .i64 x.bK] 369)=W1 at ae⊢
  have E:=uk zi underlying364 (.slice none 0 0) zeroValue45 W1 w.heap.size _ (dO x) ae.o.map;rcases bM.o with⟨hL,hadd⟩|⟨n,hn1,hn2,hL,hkey,hadd⟩
  ·rw[hL]at E;change (Instr.lookup 364 (.map (some w.heap.size)) (.agg #[.int .i64 x.k,.int .i64 x.m,.int .i64 x.bK]) false).run prog W1=.ok (.slice none 0 0) W1 at E
   let⟨af,HL⟩:=Jh2 (hadd x.bJ) hL;let⟨c0,c1,f⟩:=ae.o.sb.k3 0 1 2;simp only[dO]at c0 c1 f;clear hadd hL r0 r1 r2 r3;have aC:=aa (ae.o.alloc (bH #[.int .i64 x.k,.int .i64 x.m,.int .i64 x.bK] 369));rw[E];dsimp only[Result.andThen];rw[Oper.upon_value];clear E;go_wp2_with(at_builtin;refine wpList_append_own_at _ rfl _ _ 365 rfl w.heap.size 369 i0 (.agg #[(),(),()]) 3 24 underlying365 hi bB bZ bT rfl (by decide) _ GL (bN oI ((dC (l.take k)).map (·.1))) rfl (by have:=aC.o.iw;rw[cR,bm.o]at this;exact this) (be W1.heap.size 0) 1 1 (oI (dO x)) rfl rfl ?c1 ?f ?c3 ?c4 ?c5 ?_)
   case c1=>exact O9 W1 (dO x) _ rfl
   case f=>exact O0 _
   case c3=>unfold maxLen;omega
   case c4=>omega
   case c5=>have:=ae.o.low.size;simp;omega
   intro vo' W3 ac ab _ M;have C:=aa (aC.o.Pj (vo':=vo') (O':=(dC (l.take k)).map (·.1)++[dO x]) ab (by rw[cO,cR,ox,bm.o];simpa[bN]using ac) (by simpa using M));have bU:=bV ac;obtain⟨n3,k3,rfl⟩:=bU;let⟨c0,c1,f⟩:=C.o.sb.k3 0 1 2;simp only[dO]at c0 c1 f;have c6:=C.o.xb.c 3;clear ac ab M ae aC;go_wp2_with fail;let⟨Z,ai⟩:=Jh2 (C.o.alloc (bH #[.int .i64 x.bJ] 2)) (bI.new W3 2 #[.int .i64 x.bJ]);have bR:=C.o.low.size;clear C c0 c1 f c6;generalize aB:W3.alloc (bH #[.int .i64 x.bJ] 2)=W4 at Z ai⊢;have N:=Gf zi underlying364 (.slice none 0 0) zeroValue45 W4 w.heap.size DD (dO x) Z.o.map HL.o;change (Instr.mapEntry 364 (.map (some w.heap.size)) (.agg #[.int .i64 x.k,.int .i64 x.m,.int .i64 x.bK])).run prog W4=_ at N
   rw[N];dsimp only[Result.andThen];rw[Oper.upon_value];have al:=aa (Z.o.put (DD++[(dO x,.slice none 0 0)])).push;have q:Hid (bI (putObj W4 w.heap.size (ew lq (DD++[(dO x,.slice none 0 0)]))) W3.heap.size 2 #[.int .i64 x.bJ]):=aa ((sD _ _ _ _ (sG Z.o.map ai.o)).bu ai.o);have a3:w.heap.size<=(putObj W4 w.heap.size (ew lq (DD++[(dO x,.slice none 0 0)]))).heap.size:=al.o.low.size;clear N Z ai aB;generalize putObj W4 w.heap.size (ew lq (DD++[(dO x,.slice none 0 0)]))=W5 at al q a3⊢;go_wp2_with(at_builtin;refine wpList_append_own_at _ rfl _ _ 45 rfl w.heap.size 2 j0 (.int .i64 0) 1 8 underlying45 hj aJ aK aG rfl (by decide) (.slice none 0 0) 0 [] rfl ⟨rfl,bS ⟨rfl,rfl⟩⟩ (be W3.heap.size 0) 1 1 [.int .i64 x.bJ] rfl rfl ?c1 ?f ?c3 ?c4 ?c5 ?_)
   case c1=>intro j u X;rw[iX,fW,q.o.c j];simpa using X
   case f=>intro u X;simp at X;subst X;rfl
   case c3=>unfold maxLen;omega
   case c4=>omega
   case c5=>exact a3
   intro v6 W6 ac ab _ M;have B:=aa (al.o.zt (I++bv).length (by simp) (by rw[<-al.o.rows.len];simp) (v':=v6) (zs':=[x.bJ]) (by simpa using ab) (by simpa[bN,eI]using ac) (by simpa using M));have a7:=bV ac;obtain⟨P,k6,rfl⟩:=a7;clear ac ab M al q a3;go_wp2_with fail;have ap:=zh W6 w.heap.size _ GL (dO x) (.slice none 0 0) (.slice P 1 k6) B.o.map (by rw[<-a1];simp) 364;change (Instr.entryStore 364 (.map (some w.heap.size)) (.int .i64 (GL:Nat)) (.slice P 1 k6)).run prog W6=_ at ap
   rw[ap];dsimp only[Result.andThen];rw[Oper.upon_skip];let⟨d,ag⟩:∃d,bv++[Value.slice P 1 k6]=d:=⟨_,rfl⟩;let⟨K,ar⟩:∃K,(di (dO x) x.bJ (dC (l.take k))).map (fun p:Sp×bF Int=>p.2)=K:=⟨_,rfl⟩;have az:iZ w (putObj W6 w.heap.size (ew lq ((DD++[(dO x,Value.slice none 0 0)]).set GL (dO x,Value.slice P 1 k6)))) w.heap.size (w.heap.size+1) wr.heap.size x (.slice n3 (GL+1) k3) ((di (dO x) x.bJ (dC (l.take k))).map (·.1)) (List.zipWith (fun g v=>(g.1,v)) (di (dO x) x.bJ (dC (l.take k))) d) I (I++d) (gj (l.take k)++K):=by
    have h:=B.o.put ((DD++[(dO x,Value.slice none 0 0)]).set GL (dO x,Value.slice P 1 k6));have e1:(DD++[(dO x,Value.slice none 0 0)]).set GL (dO x,Value.slice P 1 k6)=List.zipWith (fun g v=>(g.1,v)) (di (dO x) x.bJ (dC (l.take k))) d:=by
     rw[<-a1,af.o,<-ag,List.zipWith_append ay.o.symm,br.o];simp
    have e2:(I++bv++[Value.slice none 0 0]).set (I++bv).length (Value.slice P 1 k6)=I++d:=by rw[<-ag];simp
    have hl:=B.o.rows.len;have e3:(gj (l.take k)++(dC (l.take k)).map (fun p:Sp×bF Int=>p.2)++[[]]).set (I++bv).length [x.bJ]=gj (l.take k)++K:=by
     have U:(I++bv).length=(gj (l.take k)++(dC (l.take k)).map (fun p:Sp×bF Int=>p.2)).length:=by
      simp only[cO,cR,pL,H.o.qR,ay.o]
     rw[U,<-ar,af.o];simp
    have e5:(di (dO x) x.bJ (dC (l.take k))).map (·.1)=(dC (l.take k)).map (·.1)++[dO x]:=by rw[af.o];simp
    rw[e1]at h⊢;rw[e2,e3]at h;rw[e5];exact h
   have a9:Hid (d.length=(di (dO x) x.bJ (dC (l.take k))).length):=aa (by rw[<-ag,af.o];simp[ay.o]);have ba:=aa ar;clear ar ag ap B;have L:=aa az;clear az;generalize putObj W6 w.heap.size (ew lq ((DD++[(dO x,Value.slice none 0 0)]).set GL (dO x,Value.slice P 1 k6)))=W7 at L⊢;exact Qab
  ·rw[hL]at E;have Y:(dC (l.take k))[n]∈dC (l.take k):=cZ hn1;have bo:=Ph (l.take k) _ Y;have bn:=(bQ.o.2 _ Y);rw[dx]at bn;have aF:I.length+n<(I++bv).length:=by rw[cO];omega
   have aM:I.length+n<(gj (l.take k)++(dC (l.take k)).map (fun p:Sp×bF Int=>p.2)).length:=by rw[<-ae.o.rows.len];exact aF
   have D:=ae.o.rows.own (I.length+n) aF aM;have R:(I++bv)[I.length+n]=bv[n]:=by rw[pA Qat];simp
   have S:(gj (l.take k)++(dC (l.take k)).map (fun p:Sp×bF Int=>p.2))[I.length+n]=(dC (l.take k))[n].2:=by
    rw[pA (by rw[pL,H.o.qR];omega)];simp only[pL,H.o.qR,Nat.add_sub_cancel_left,lj]
   rw[R,S]at D;let⟨zb,T⟩:∃zb,(dC (l.take k))[n].2=zb:=⟨_,rfl⟩;rw[T]at D bo bn S;let⟨vb,bX⟩:∃vb,bv[n]=vb:=⟨_,rfl⟩;rw[bX]at D E R hL;have bY:=bV D;obtain⟨nb,kb,rfl⟩:=bY;change (Instr.lookup 364 (.map (some w.heap.size)) (.agg #[.int .i64 x.k,.int .i64 x.m,.int .i64 x.bK]) false).run prog W1=.ok (.slice nb zb.length kb) W1 at E
   let⟨af,HL,bq,bA,ax,bl⟩:=Jh6 (hadd x.bJ) hL hkey T R S;have aN:=aa D;let⟨c0,c1,f⟩:=ae.o.sb.k3 0 1 2;simp only[dO]at c0 c1 f;have c6:=ae.o.xb.c 3;clear hadd hL hkey Y T R S D r0 r1 r2 r3;have b4:((zb:Int)==0)=false:=xp.2 Qat;rw[E];dsimp only[Result.andThen];rw[Oper.upon_value];clear E;go_wp2_with fail;let⟨Z,ai⟩:=Jh2 (ae.o.alloc (bH #[.int .i64 x.bJ] 2)) (bI.new W1 2 #[.int .i64 x.bJ]);have bR:=ae.o.low.size;have aA:=aa (aN.o.alloc (bH #[.int .i64 x.bJ] 2));have aP:w.heap.size<=(W1.alloc (bH #[.int .i64 x.bJ] 2)).heap.size:=by simp;omega
   clear ae c0 c1 f c6 aN;generalize aB:W1.alloc (bH #[.int .i64 x.bJ] 2)=W4 at Z ai aA aP⊢;have N:=Ge zi underlying364 W4 w.heap.size DD (dO x) n (.slice nb zb.length kb) Z.o.map (by rw[HL.o,fW]);change (Instr.mapEntry 364 (.map (some w.heap.size)) (.agg #[.int .i64 x.k,.int .i64 x.m,.int .i64 x.bK])).run prog W4=.ok (.tuple #[.slice nb zb.length kb,.int .i64 (n:Nat)]) W4 at N
   rw[N];dsimp only[Result.andThen];rw[Oper.upon_value];clear N aB;go_wp2_with(at_builtin;refine wpList_append_own_at _ rfl _ _ 45 rfl w.heap.size 2 j0 (.int .i64 0) 1 8 underlying45 hj aJ aK aG rfl (by decide) (.slice nb zb.length kb) zb.length (bN eI zb) rfl aA.o (be W1.heap.size 0) 1 1 [.int .i64 x.bJ] rfl rfl ?c1 ?f ?c3 ?c4 ?c5 ?_)
   case c1=>intro j u X;rw[iX,fW,ai.o.c j];simpa using X
   case f=>intro u X;simp at X;subst X;rfl
   case c3=>unfold maxLen;omega
   case c4=>omega
   case c5=>exact aP
   intro v6 W6 ac ab _ M;have B:=aa (Z.o.zt (I.length+n) aF aM (v':=v6) (zs':=zb++[x.bJ]) (by rw[ax.o];exact ab) (by rw[cO,ox];exact ac) (by rw[ax.o];exact M));have a7:=bV ac;obtain⟨P,k6,rfl⟩:=a7;clear ac ab M Z ai aP aA;go_wp2_with fail;have bh:DD[n]?=some (dO x,.slice nb zb.length kb):=by
    let⟨m,hm,hD⟩:=xV HL.o;obtain rfl:n=m:=by omega
    exact hD
   have ap:=zh W6 w.heap.size _ n (dO x) (.slice nb zb.length kb) (.slice P (zb.length+1) k6) B.o.map bh 364;change (Instr.entryStore 364 (.map (some w.heap.size)) (.int .i64 (n:Nat)) (.slice P (zb.length+1) k6)).run prog W6=_ at ap
   rw[ap];dsimp only[Result.andThen];rw[Oper.upon_skip];let⟨d,ag⟩:∃d,bv.set n (Value.slice P (zb.length+1) k6)=d:=⟨_,rfl⟩;let⟨K,ar⟩:∃K,(di (dO x) x.bJ (dC (l.take k))).map (fun p:Sp×bF Int=>p.2)=K:=⟨_,rfl⟩;have az:iZ w (putObj W6 w.heap.size (ew lq (DD.set n (dO x,Value.slice P (zb.length+1) k6)))) w.heap.size (w.heap.size+1) wr.heap.size x (.slice n1 GL k1) ((di (dO x) x.bJ (dC (l.take k))).map (·.1)) (List.zipWith (fun g v=>(g.1,v)) (di (dO x) x.bJ (dC (l.take k))) d) I (I++d) (gj (l.take k)++K):=by
    have h:=B.o.put (DD.set n (dO x,Value.slice P (zb.length+1) k6));have e1:DD.set n (dO x,Value.slice P (zb.length+1) k6)=List.zipWith (fun g v=>(g.1,v)) (di (dO x) x.bJ (dC (l.take k))) d:=by
     rw[af.o,<-ag,<-br.o];apply mR;intro i;simp only[sd,List.getElem?_zipWith,xF];by_cases hi:n=i
     ·subst hi;simp[hn1,hn2,Nat.lt_min]
     ·simp[hi]
    have e2:(I++bv).set (I.length+n) (Value.slice P (zb.length+1) k6)=I++d:=by rw[<-ag,uS _ _ Qat];simp
    have e3:(gj (l.take k)++(dC (l.take k)).map (fun p:Sp×bF Int=>p.2)).set (I.length+n) (zb++[x.bJ])=gj (l.take k)++K:=by
     rw[uS _ _ (by rw[pL,H.o.qR];omega),pL,H.o.qR,Nat.add_sub_cancel_left,<-ar,af.o,List.map_set,bA.o]
    have e5:(di (dO x) x.bJ (dC (l.take k))).map (·.1)=(dC (l.take k)).map (·.1):=by
     rw[af.o,List.map_set];apply mR;intro i;rw[sd];by_cases hi:n=i
     ·subst hi;rw[yc rfl,yc (by simpa using hn1),ke,dG hn1];simp[bq.o]
     ·rw[ya hi]
    rw[e1]at h⊢;rw[e2,e3]at h;rw[e5];exact h
   have a9:Hid (d.length=(di (dO x) x.bJ (dC (l.take k))).length):=aa (by rw[<-ag,af.o];simp[ay.o]);have ba:=aa ar;clear ar ag ap B bh ax bl;have L:=aa az;clear az;generalize putObj W6 w.heap.size (ew lq (DD.set n (dO x,Value.slice P (zb.length+1) k6)))=W7 at L⊢;exact Qab
 ·obtain rfl:k=l.length:=by omega
  have hf:=bV H.o.iw;obtain⟨n1,k1,rfl⟩:=hf;go_wp2;go_ret3;exact⟨_,_,_,bv,I,rfl,H.o⟩
structure Ch where
 place:Int
 free:Bool
 (yK now:Int)deriving DecidableEq
abbrev zu(x:Ch):Array Value:=#[x.place,.bool x.free,x.yK,x.now]
def nQ(x:Ch):List Value:=[x.place,.bool x.free,x.yK,x.now]
def kCh(x:Ch):(nQ x).length=4:=rfl
def Pn(x:Ch):∀u∈nQ x,u.oneCell'=true:=by intro u X;simp[nQ]at X;rcases X with rfl|rfl|rfl|rfl<;>rfl
def Po:(prog.info? 300).map (fun i=>(i.zero,i.size,i.bytes))=some (some (.agg #[(),.bool false,(),()]),4,32):=aj
def Pp(W:bD)(x:Ch)(b:Nat)(hb:W.heap.size=b):∀j u,(nQ x)[j]?=some u->(W.alloc (bH (zu x) 300)).cell? (((be b 0):Addr).add j)=some u:=by subst hb;intro j u X;rw[iX,fW,(bI.new W 300 (zu x)).c j];simpa[nQ]using X
def GR{x:Ch}(h:∀j u,(nQ x)[j]?=some u->W.cell? ⟨b,o+j,none⟩=some u):W.cell? (b,o)=x.place/\W.cell? (b,o+1)=some (.bool x.free)/\W.cell? (b,o+2)=x.yK/\W.cell? (b,o+3)=x.now:=by exact⟨h 0 _ rfl,h 1 _ rfl,h 2 _ rfl,h 3 _ rfl⟩
def ux.keep{wr wr':bD}{A:Nat}{vo:bE}{bv:bF bE}(h:ux l w wr k M A vo bv av)(hb:Bw wr wr'):ux l w wr' k M A vo bv av:=⟨h.lh,h.qR,h.map.keep hb,h.ib.keep hb,cJ h.iw hb,h.rows.keep hb,h.low.bu (hb.bC h.low.size),h.hM,h.hA⟩
def Pq{κ:Type} [DecidableEq κ](k:κ)(x:Int)(G:bF (κ×bF Int)):(di k x G).map (·.1)=if k∈G.map (·.1)then G.map (·.1)else G.map (·.1)++[k]:=by
 induction G with
 |nil=>simp[di]
 |cons q G ih=>
  by_cases a:k=q.1
  ·simp[di,a]
  ·simp only[di,a,if_false,eu,ih,je,false_or];split<;>simp
def Pr{κ α:Type} [DecidableEq κ](f:α->κ)(g:α->Int)(l:bF α):∀(G:bF (κ×bF Int)),(G.map (·.1)).Nodup->((l.foldl (fun G x=>di (f x) (g x) G) G).map (·.1)).Nodup:=by
 induction l with
 |nil=>intro G h;exact h
 |cons x l ih=>
  intro G h;refine ih _ ?_;rw[Pq];split
  ·exact h
  ·rename_i H;rw[xB];exact⟨h,au,fun a ha b hb=>by simp at hb;subst hb;rintro rfl;exact H ha⟩
def Ps(l:bF En):((dC l).map (·.1)).Nodup:=Pr dO En.bJ l [] au
def Pt{κ:Type} [DecidableEq κ]:∀(G:bF (κ×bF Int)) (vs:bF bE) (j i:Nat) (h1:i<G) (h2:i<vs),(G.map (·.1)).Nodup->look G[i].1 (List.zipWith (fun g v=>(g.1,v)) G vs) j=some (j+i,vs[i]):=by
 intro G;induction G with
 |nil=>intro vs j i h1;simp at h1
 |cons p G ih=>
  intro vs j i h1 h2 H;cases vs with
  |nil=>simp at h2
  |cons v vs=>
   cases i with
   |zero=>simp[look]
   |succ i=>
    simp only[eu,List.nodup_cons]at H;have a:i<G:=aG h1;have b:G[i].1≠p.1:=by
     intro e;exact H.1 (by rw[<-e];exact Fy.2 ⟨G[i],cZ _,rfl⟩)
    simp only[qj,si,look,b,if_false];rw[ih vs (j+1) i (aG h1) (aG h2) H.2];congr 2;omega
def oJ(s:Sp):Ac:=⟨s.k,s.m⟩
def jV(ms na:Nat)(bl:List Int)(p:Sp×List Int):Int×Ch:=
 if(du p.2).2=0 then
  if(dK (bl.getD (gF ms na (oJ p.1) p.1.bK).1.toNat 0+(du p.2).1)).2=0 then(0,⟨(gF ms na (oJ p.1) p.1.bK).1,nL (oJ p.1),(du p.2).1,(dK (bl.getD (gF ms na (oJ p.1) p.1.bK).1.toNat 0+(du p.2).1)).1⟩)
  else((dK (bl.getD (gF ms na (oJ p.1) p.1.bK).1.toNat 0+(du p.2).1)).2,⟨0,false,0,0⟩)
 else((du p.2).2,⟨0,false,0,0⟩)
def lX{α β:Type}(f:α->Int×β):List α->Int×List β
 |[]=>(0,[])
 |x::l=>if(f x).1=0 then((lX f l).1,if(lX f l).1=0 then(f x).2::(lX f l).2 else[])else((f x).1,[])
def Pu{α β:Type}(f:α->Int×β)(l:bF α)(h:∀x∈l,(f x).1=0):lX f l=(0,l.map fun x=>(f x).2):=by
 induction l with
 |nil=>rfl
 |cons x l ih=>
  have e:=ih (fun y hy=>h y (by simp[hy]));simp[lX,e,h x au]
def GU{α β:Type}(f:α->Int×β)(l:bF α):∀k (h:k<l.length),(∀j (hj:j<k),(f (l[j]'(by omega))).1=0)->(f l[k]).1≠0->lX f l=((f l[k]).1,[]):=by
 induction l with
 |nil=>intro k h;simp at h
 |cons x l ih=>
  intro k h d c;cases k with
  |zero=>simp only[jr]at c;simp[lX,c]
  |succ k=>
   have a:=d 0 (by omega);simp only[jr]at a;have e:=ih k (by simpa using h) (fun j hj=>by have:=d (j+1) (by omega);simpa using this) (by simpa using c);simp only[qj]at c;simp[lX,a,e,c]
def kp(ms na:Nat)(bl:List Int)(l:List En):Int×List Ch:=
 if 1024<l.length then(6,[])
 else if l.any (fun x=>decide ((gF ms na ⟨x.k,x.m⟩ x.bK).2≠0))then(8,[])
 else if(gj l).any (fun z=>decide (du z≠(0,0)))then(17,[])
 else lX (jV ms na bl) (dC l)
def Pv(E:Int)(out:List Ch)(w:World)(e:Ending)(w':World):Prop:=∃vo,e=.returned (.tuple #[vo,E])/\w'.ownsRow w 300 4 vo out (bN nQ out)/\Bw w w'
variable{ms:Nat}
def Pw{na:Nat}{a:Ac}{bK:Int}(hna:na<=9)(h:(gF ms na a bK).2=0):0<=bK/\bK<9:=by
 unfold gF at h;split at h
 ·rename_i c;omega
 ·simp at h
def GV(l:bF En):∀p∈dC l,(∃x∈l,dO x=p.1)/\∀n∈p.2,∃x∈l,x.bJ=n:=by
 have f:∀(l:bF En) (G:bF (Sp×bF Int)) (L:bF En),(∀p∈G,(∃x∈L,dO x=p.1)/\∀n∈p.2,∃x∈L,x.bJ=n)->(∀x∈l,x∈L)->∀p∈l.foldl (fun G x=>di (dO x) x.bJ G) G,(∃x∈L,dO x=p.1)/\∀n∈p.2,∃x∈L,x.bJ=n:=by
  intro l;induction l with
  |nil=>intro G L h _;exact h
  |cons x l ih=>
   intro G L h S;refine ih _ L ?_ (fun y hy=>S y (by simp[hy]));have j:=S x au;clear ih;induction G with
   |nil=>intro p s;simp[di]at s;subst s;exact⟨⟨x,j,rfl⟩,fun n hn=>by simp at hn;exact⟨x,j,hn.symm⟩⟩
   |cons q G ih2=>
    intro p s;by_cases a:dO x=q.1
    ·simp only[di,a,if_true,je]at s;rcases s with rfl|s
     ·have:=h q au
      refine⟨this.1,fun n hn=> ?_⟩;simp only[xq,List.mem_singleton]at hn;rcases hn with hn|hn
      ·exact this.2 n hn
      ·exact⟨x,j,hn.symm⟩
     ·exact h p (by simp[s])
    ·simp only[di,a,if_false,je]at s;rcases s with rfl|s
     ·exact h p au
     ·exact ih2 (fun p s=>h p (by simp[s])) p s
 exact f l [] l au (fun x j=>j)
def Px(B g:Nat)(vb v:bE)(ms na:Nat)(bl:bF Int)(dd:Int)(hms:ms<=16)(hna:na<=9)(hl:bl.length=na*(6+3*ms))(hbl:ep bl)(l:bF En)(w:bD)(hb:ju w B g vb ms na bl dd)(hv:Sl lW 4 w v l)(hn:l.length<=1000000)(h64:∀x∈l,bO x.bJ):
  bG 226 #[ptr g,v] w (Pv (kp ms na bl l).1 (kp ms na bl l).2 w):=by
 have HV:=aa hv;obtain⟨a,cv,rfl,_,cq,b0,F⟩:=hv;unfold maxLen at b0;let⟨aU,HB,bc,bZ⟩:=Jh4 F hb h64 hbl;clear F hb h64 hbl;by_cases aw:1024<l.length
 ·have HC:Hid (kp ms na bl l=(6,[])):=aa (by unfold kp;rw[yc aw]);go_enter func226,ntmps226;go_wp2;go_ret2;exact⟨_,by rw[HC.o];rfl,by rw[HC.o];exact⟨rfl,bS ⟨rfl,rfl⟩⟩,bM _ _⟩
 ·go_enter func226,ntmps226;go_wp2;go_loopw[30] (fun vi wr=>∃k:Nat,k<=l.length/\vi=.int .i64 k/\Bw w wr/\∀j (h:j<k) (h2:j<l.length),(gF ms na ⟨l[j].k,l[j].m⟩ l[j].bK).2=0) (aW l.length);exact⟨0,cH _,rfl,bM _ _,fun j h=>by omega⟩;obtain⟨k,hk,rfl,ab,E⟩:=hrel;have aM:=aa E;clear E;by_cases az:k<l.length
  ·obtain⟨b,aL,rfl,ap,bR⟩:=aU.o (by omega);let⟨q0,q1,q2,q3⟩:=Cq (bR k az);let⟨r0,r1,r2,r3⟩:=Jt4 ((ab.c (p:=(b,aL+k*4)) ap).bu q0) ((ab.c (p:=(b,aL+k*4+1)) ap).bu q1) ((ab.c (p:=(b,aL+k*4+2)) ap).bu q2) ((ab.c (p:=(b,aL+k*4+3)) ap).bu q3);have O:0<=(k:Int):=by omega
   have a5:k<(l:Int):=by omega
   let⟨x,hx⟩:∃x,l[k]=x:=⟨_,rfl⟩;rw[hx]at r0 r1 r2 r3;have HX:=aa hx;clear bR q0 q1 q2 q3 hx;have b1:=ab.alloc ab.size (bH (nh x) 231);have bw:=aa ((HB.o.keep (ab.bC (bL _))).keep ((bM wr wr).alloc (bL _) (.cells (nh x) 231)));by_cases hp:(gF ms na ⟨x.k,x.m⟩ x.bK).2=0
   ·have u:=aa hp;clear hp;go_wp2_with(go_at_call 175;refine(xY g vb ms na dd hms hna ⟨x.k,x.m⟩ x.bK _ bw.o.blk).bC ?_;rintro e w1⟨rfl,c1⟩;rw[u.o];have b2:=b1.bu (c1.bC b1.size));go_roundw
    case rel=>exact⟨k+1,by omega,by go_num,b2,fun j h h2=>by
     by_cases e:j=k
     ·subst e;rw[HX.o];exact u.o
     ·exact aM.o j (by omega) h2⟩
    case measure=>exact aV
   ·have HE:=aa (Gx hp);have HC:Hid (kp ms na bl l=(8,[])):=aa (by
     unfold kp;rw[ya aw,yc];rw[jT];exact⟨x,by rw[<-HX.o];exact cZ az,decide_eq_true hp⟩)
    clear hp;go_wp2_with(go_at_call 175;refine(xY g vb ms na dd hms hna ⟨x.k,x.m⟩ x.bK _ bw.o.blk).bC ?_;rintro e w1⟨rfl,c1⟩;rw[HE.o];have b2:=b1.bu (c1.bC b1.size));go_ret2;exact⟨_,by rw[HC.o];rfl,by rw[HC.o];exact⟨rfl,bS ⟨rfl,rfl⟩⟩,b2⟩
  ·obtain rfl:k=l.length:=by omega
   have aO:¬(l.any (fun x=>decide ((gF ms na ⟨x.k,x.m⟩ x.bK).2≠0))=true):=by
    rw[jT];rintro⟨x,hx,hd⟩
    obtain⟨j,J,rfl⟩:=eW hx;exact of_decide_eq_true hd (aM.o j J J)
   let⟨aN,cb⟩:=Jh2 aO (HV.o.keep (ab.bC (bL _)));have G:∀x∈l,0<=x.bK/\x.bK<9:=fun x hx=>by
    obtain⟨j,J,rfl⟩:=eW hx;exact Pw hna (aM.o j J J)
   have br:=aa G;clear aO G;go_wp2_with(go_at_call 280;refine(Pm _ l _ cb.o (by omega) br.o).bC ?_;rintro e w1⟨M,A,vo,bv,av,rfl,hG⟩);have b1:Bw w w1:=ab.bu (hG.low.bC ab.size);have T:l.take l.length=l:=ic;have U:=aa ((HB.o.keep (ab.bC (bL _))).keep (hG.low.bC (bL _)));have bY:=bV hG.iw;obtain⟨no,ko,rfl⟩:=bY;have HG:=aa hG;let⟨GL,aH⟩:∃GL,(dC l).length=GL:=⟨_,rfl⟩;have ay:=aa aH;have i:=Ct l;rw[aH]at i;have cm:GL<=1024:=by omega
   have b6:=aa i;rw[T,aH];clear hG i aH;go_wp2;go_loopw[55] (fun vi wr2=>∃k:Nat,k<=9/\vi=.int .i64 k/\Bw w1 wr2/\∀j (h:j<k) (h2:j<(gj l).length),du (gj l)[j]=(0,0)) (aW 9);exact⟨0,cH _,rfl,bM _ _,fun j h=>by omega⟩;obtain⟨k,co,rfl,ad,E⟩:=hrel;have aS:=aa E;clear E;have a2:=aa (HG.o.keep ad);by_cases az:k<9
   ·let⟨a6,aP,L⟩:=Jt3 a2.o.qR (pL l) a2.o.rows;rw[T]at L;have ac:=L.own k (by rw[cO];omega) (by rw[cO];omega);have e1:(av++bv)[k]'(by rw[cO];omega)=av[k]'(by omega):=lC (by omega);have e2:(gj l++(dC l).map (·.2))[k]'(by rw[cO];omega)=(gj l)[k]'(by omega):=lC (by omega);rw[e1,e2]at ac;let⟨zs,aK⟩:∃zs,(gj l)[k]'(by omega)=zs:=⟨_,rfl⟩;let⟨va,al⟩:∃va,av[k]'(by omega)=va:=⟨_,rfl⟩;rw[aK,al]at ac;have r0:wr.cell? (A,k)=some va:=by rw[a2.o.ib.c k,li,dG (by omega),al]
    have ea:=aK.symm.bu (Cr l k (by omega) az);have bm:∀n∈zs,∃x∈l,x.bJ=n:=fun n hn=>by
     rw[ea]at hn;obtain⟨x,hx,rfl⟩:=Fy.1 hn;exact⟨x,(tU.1 hx).1,rfl⟩
    have ai:ep zs:=fun n hn=>by obtain⟨x,hx,rfl⟩:=bm n hn;exact bc.o x hx
    have ax:zs.length<=1000000:=by
     rw[ea,cR];exact bW (mO _ _) (by omega)
    let⟨bP,S,Y⟩:=Jh3 aK ai (Sl.own kI ac);have hf:=bV ac;obtain⟨n2,k2,rfl⟩:=hf;clear ac L al e1 e2 aK ai bm ea;have O:0<=(k:Int):=by omega
    have a5:(k:Int)<9:=by omega
    by_cases hs:du zs=(0,0)
    ·have HS:=aa hs;clear hs;go_wp2_with(go_at_call 230;refine(mT _ zs _ Y.o S.o ax).bC ?_;rintro e w2⟨rfl,c2⟩;rw[HS.o];have V:=ad.bu (c2.bC ad.size));go_roundw
     case rel=>exact⟨k+1,by omega,by go_num,V,fun j h h2=>by
      by_cases e:j=k
      ·subst e;rw[bP.o];exact HS.o
      ·exact aS.o j (by omega) h2⟩
     case measure=>exact aV
    ·have HC:Hid (kp ms na bl l=(17,[])):=aa (by
      unfold kp;rw[ya aw,ya aN.o,yc];rw[jT];exact⟨zs,by rw[<-bP.o];exact cZ _,decide_eq_true hs⟩)
     have aT:((du zs).2 !=0)=true∨(((du zs).2 !=0)=false/\((du zs).1 !=0)=true):=by
      by_cases h1:(du zs).2=0
      ·refine ci ⟨by simpa using h1, ?_⟩;have h2:(du zs).1≠0:=fun e=>hs (Prod.ext e h1);simpa using h2
      ·exact bS (by simpa using h1)
     clear hs;rcases aT with aT|⟨aT,hs3⟩
     all_goals
      go_wp2_with(go_at_call 230;refine(mT _ zs _ Y.o S.o ax).bC ?_;rintro e w2⟨rfl,c2⟩;have V:=ad.bu (c2.bC ad.size));go_ret2;exact⟨_,by rw[HC.o];rfl,by rw[HC.o];exact⟨rfl,bS ⟨rfl,rfl⟩⟩,b1.bu (V.bC b1.size)⟩
   ·have cu:¬((k:Int)<9):=by omega
    have a8:¬((gj l).any (fun z=>decide (du z≠(0,0)))=true):=by
     rw[jT];rintro⟨z,hz,hd⟩
     obtain⟨j,J,rfl⟩:=eW hz;exact of_decide_eq_true hd (aS.o j (by rw[pL]at J;omega) J)
    have K:Hid (kp ms na bl l=lX (jV ms na bl) (dC l)):=aa (by unfold kp;rw[ya aw,ya aN.o,ya a8]);clear a8;have V:=b1.bu (ad.bC b1.size);let⟨P,bk⟩:=Jh2 (HG.o.keep ad) (U.o.keep ad);have ar:=P.o.iw;rw[T]at ar;have R:=aa (show Sl oI 3 wr (.slice no GL ko) ((dC l).map (·.1))from Sl.own kSp (by rw[cR];rw[ay.o]at ar⊢;exact ar));clear ar;let⟨i0,hi,bX,cd,b7⟩:=wm Po;let⟨B3,a7⟩:∃n,wr.heap.size=n:=⟨_,rfl⟩;have h0:wr.ownsRow B3 300 4 bd 0 []:=⟨rfl,bS ⟨rfl,rfl⟩⟩;have bq:=aa a7;have ce:w.heap.size<=B3:=by have:=V.size;omega
    clear a7;go_wp2;go_loopw[17,73] (fun vo vi wr3=>∃k:Nat,k<=GL/\vi=.int .i64 k/\Bw wr wr3/\(∀j (h:j<k) (h2:j<(dC l).length),(jV ms na bl (dC l)[j]).1=0)/\wr3.ownsRow B3 300 4 vo k (bN nQ (((dC l).take k).map fun p=>(jV ms na bl p).2))) (fun _ vi _=>GL-(intOf vi).toNat);exact⟨0,cH _,rfl,bM _ _,(fun j h=>by omega),h0⟩;obtain⟨k,ct,rfl,Q,E,aD⟩:=hrel;let⟨au,aB⟩:=Jh2 E aD;have cc:=bV aD;obtain⟨nv,kv,rfl⟩:=cc;clear E aD;by_cases az:k<GL
    ·have D:k<(dC l).length:=by rw[ay.o];exact az
     let⟨p,hp⟩:∃p,(dC l)[k]=p:=⟨_,rfl⟩;have u:=aa hp;have cf:=R.o.keep (Q.bC (bL _));obtain⟨ao,bQ,bs,_,cs,cr,bx⟩:=cf;obtain⟨e1,e2,e3⟩:no=ao/\GL=((dC l).map (·.1)).length/\ko=bQ:=by simpa using bs
     subst e1 e3;obtain⟨bo,cl,rfl,cp,t⟩:=bx (by rw[cR];omega);obtain⟨q0,q1,q2⟩:=Pa (t k (by rw[cR];exact D));rw[lj,hp]at q0 q1 q2;obtain⟨⟨sk,Z,sa⟩,zs⟩:=p;dsimp only at q0 q1 q2;have O:0<=(k:Int):=by omega
     have a5:k<(GL:Int):=by omega
     have f:=GV l _ (cZ D);rw[hp]at f;have a1:(gF ms na ⟨sk,Z⟩ sa).2=0:=by
      let⟨x,hx,a9⟩:=f.1;obtain⟨j,J,rfl⟩:=eW hx;have h:=aM.o j J J;simp only[dO,Sp.mk.injEq]at a9;obtain⟨rfl,rfl,rfl⟩:=a9;exact h
     have ai:ep zs:=fun n hn=>by obtain⟨x,hx,rfl⟩:=f.2 n hn;exact bc.o x hx
     have ax:zs.length<=1000000:=by
      have h:=b6.o.2 _ (cZ D);rw[hp]at h;dsimp only at h;omega
     let⟨⟨pl,pe⟩,ak⟩:∃r,gF ms na ⟨sk,Z⟩ sa=r:=⟨_,rfl⟩;rw[ak]at a1;dsimp only at a1;subst a1;have a3:=zk (ms:=ms) (na:=na) (a:=⟨sk,Z⟩) (bK:=sa) (by rw[ak]);rw[ak]at a3;dsimp only at a3;obtain⟨N,rfl⟩:=yN a3.1;have hN:N<bl:=by rw[hl];omega
     have cn:na*(6+3*ms)<=9*54:=qm hna (by omega);let⟨H,S⟩:=Jh2 ak ai;clear t f ak ai bs bx e2;have L:=(P.o.keep Q).rows;rw[T]at L;have a6:=P.o.qR;have ch:bv.length=GL:=by have:=P.o.lh;rw[T,ay.o]at this;exact this
     have aP:=pL l;have ac:=L.own (9+k) (by rw[cO];omega) (by rw[cO,cR];omega);have e4:(av++bv)[9+k]'(by rw[cO];omega)=bv[k]'(by omega):=by rw[pA (by omega)];simp[a6]
     have e5:(gj l++(dC l).map (·.2))[9+k]'(by rw[cO,cR];omega)=zs:=by rw[pA (by omega)];simp[aP,hp]
     rw[e4,e5]at ac;let⟨va,al⟩:∃va,bv[k]'(by omega)=va:=⟨_,rfl⟩;rw[al]at ac;have am:=Pt (dC l) bv 0 k D (by omega) (Ps l);rw[hp,al]at am;let⟨a0,bp⟩:=Jh2 am ac;have hf:=bV ac;obtain⟨n2,k2,rfl⟩:=hf;clear ac al e4 e5 am L;let⟨⟨I,se⟩,aQ⟩:∃r,du zs=r:=⟨_,rfl⟩;have C:=aa aQ;have X:(bl.getD N 0)=bl[N]:=by rw[dy,dG hN];rfl
     let⟨ah,b5⟩:=Jh2 (bk.o.keep Q) (P.o.keep Q);have b4:=V.bu (Q.bC V.size);clear aQ;let⟨a',cg,ca,cw,b9,bh⟩:=(Sl.own kI ah.o.own).oy;subst ca;obtain⟨bb,oo,rfl,y,bz⟩:=bh (by omega);have rN:=bz N hN;unfold maxLen at b9;clear bz bh;have bA:Bw wr (aZ wr #[aY sk,aY Z,aY sa] 369):=aI;go_wp2_with(go_at_call 175;refine(xY g _ ms na dd hms hna ⟨sk,Z⟩ sa _ (ah.o.keep bA).blk).bC ?_;rintro e w4⟨rfl,c4⟩;rw[H.o];have SB:=aa ((bI.new wr 369 #[aY sk,aY Z,aY sa]).keep c4);have s0:=SB.o.c 0;have s1:=SB.o.c 1;have s2:=SB.o.c 2;have d4:Bw wr w4:=bA.bu (c4.bC bA.size);clear c4);have aA:=((b5.o.keep d4).map);rw[T]at aA;have aJ:=uk zi underlying364 bd zeroValue45 w4 M _ ⟨sk,Z,sa⟩ aA;rw[a0.o]at aJ;change (Instr.lookup 364 (.map (some M)) (.agg #[aY sk,aY Z,aY sa]) false).run prog w4=.ok (.slice n2 zs.length k2) w4 at aJ
     rw[aJ];dsimp only[Result.andThen];rw[Oper.upon_value];clear aJ aA;have W:=aa (Sl.own kI (cJ bp.o d4));by_cases aE:se=0
     ·subst aE;let⟨⟨an,ae⟩,aR⟩:∃r,dK (bl[N]+I)=r:=⟨_,rfl⟩;have ba:bO I:=by
       have:=C.o
       unfold du dK at this;split at this
       ·cases this;assumption
       ·cases this
      have ag:=aa aR;clear aR;have q:bO bl[N]:=bZ.o _ (cZ hN);let⟨bn,aG⟩:∃bn,bl[N]=bn:=⟨_,rfl⟩;rw[aG]at ag q;by_cases aF:ae=0
      ·subst aF;rw[aG]at rN;have s:Hid (jV ms na bl (⟨sk,Z,sa⟩,zs)=(0,⟨N,nL ⟨sk,Z⟩,I,an⟩)):=aa (by
        unfold jV oJ;dsimp only;rw[C.o,H.o,yc rfl];dsimp only;rw[xD,X,aG,ag.o,yc rfl])
       go_wp2_with(first|(go_at_call 230;refine(mT _ zs _ W.o S.o ax).bC ?_;rintro e w5⟨rfl,d⟩;rw[C.o];have af:=aa (SB.o.keep d);have t0:=af.o.c 0;have t1:=af.o.c 1;have t2:=af.o.c 2;have d5:Bw wr w5:=d4.bu (d.bC d4.size);clear d;have aj:=aa (ah.o.keep d5);have p2:=aj.o.blk.c 2;have bB:=(d5.c (p:=(bb,oo+N)) y).bu rN)|(go_at_call 281;refine(Be _ _ q ba _).bC ?_;rintro e w6⟨rfl,rfl⟩;rw[ag.o])|(go_at_call 227;refine(pI ⟨sk,Z⟩ _).bC ?_;rintro e w7⟨rfl,rfl⟩;have d6:=d5.alloc d5.size (bH (cT ⟨sk,Z⟩) 81))|(at_builtin;refine wpList_append_own _ rfl _ _ 296 rfl B3 300 i0 (.agg #[(),.bool false,(),()]) 4 32 underlying296 hi bX cd b7 rfl (by decide) _ k (bN nQ (((dC l).take k).map fun p=>(jV ms na bl p).2)) rfl ?c0 ⟨_,0,none⟩ 1 1 (nQ ⟨N,nL ⟨sk,Z⟩,I,an⟩) rfl rfl ?c1 ?c2 ?c3 ?c4 ?d ?_))
       case c0=>exact(cJ aB.o d6).alloc _
       case c1=>exact Pp _ ⟨N,nL ⟨sk,Z⟩,I,an⟩ _ (by simp)
       case c2=>exact Pn _
       case c3=>unfold maxLen;omega
       case c4=>omega
       case d=>have h:=(Q.bu (d6.bC Q.size)).size;rw[bq.o]at h;simp at h⊢;omega
       intro v8 w8 aC aq _;have d7:=d6.alloc d6.size (bH (zu ⟨N,nL ⟨sk,Z⟩,I,an⟩) 300);have bT:Hid (((dC l).take (k+1)).map (fun p=>(jV ms na bl p).2)=((dC l).take k).map (fun p=>(jV ms na bl p).2)++[⟨N,nL ⟨sk,Z⟩,I,an⟩]):=aa (by rw[fj D,jf,u.o];simp[s.o]);have a4:=Q.bu (d7.bC Q.size);have b8:=a4.grown aq a4.size (by rw[bq.o];exact vB aB.o);have bU:w8.ownsRow B3 300 4 v8 (k+1) (bN nQ (((dC l).take (k+1)).map fun p=>(jV ms na bl p).2)):=by rw[bT.o,ox];simpa[bN]using aC
       clear aC aq a4 d7;go_wp2;go_roundw
       case rel=>exact⟨k+1,by omega,by go_num,b8,(fun j h h2=>by
        by_cases e:j=k
        ·subst e;rw[u.o,s.o]
        ·exact au.o j (by omega) h2),bU⟩
       case measure=>exact aV
      ·have s:Hid (jV ms na bl (⟨sk,Z,sa⟩,zs)=(ae,⟨0,false,0,0⟩)):=aa (by
        unfold jV oJ;dsimp only;rw[C.o,H.o,yc rfl];dsimp only;rw[xD,X,aG,ag.o,ya aF])
       rw[aG]at rN;have cj:(ae !=0)=true:=by simpa using aF
       have HF:=aa (GU (jV ms na bl) (dC l) k D (fun j J=>au.o j J _) (by rw[u.o,s.o];exact aF));clear aF;go_wp2_with(first|(go_at_call 230;refine(mT _ zs _ W.o S.o ax).bC ?_;rintro e w5⟨rfl,d⟩;rw[C.o];have af:=aa (SB.o.keep d);have t0:=af.o.c 0;have t1:=af.o.c 1;have t2:=af.o.c 2;have d5:Bw wr w5:=d4.bu (d.bC d4.size);clear d;have aj:=aa (ah.o.keep d5);have p2:=aj.o.blk.c 2;have bB:=(d5.c (p:=(bb,oo+N)) y).bu rN)|(go_at_call 281;refine(Be _ _ q ba _).bC ?_;rintro e w6⟨rfl,rfl⟩;rw[ag.o]));go_ret2;exact⟨_,by rw[K.o,HF.o,u.o,s.o];rfl,by rw[K.o,HF.o];exact⟨rfl,bS ⟨rfl,rfl⟩⟩,b4.bu (d5.bC b4.size)⟩
     ·have s:Hid (jV ms na bl (⟨sk,Z,sa⟩,zs)=(se,⟨0,false,0,0⟩)):=aa (by
       unfold jV oJ;dsimp only;rw[C.o,ya aE])
      have ck:(se !=0)=true:=by simpa using aE
      have HF:=aa (GU (jV ms na bl) (dC l) k D (fun j J=>au.o j J _) (by rw[u.o,s.o];exact aE));clear aE;go_wp2_with(first|(go_at_call 230;refine(mT _ zs _ W.o S.o ax).bC ?_;rintro e w5⟨rfl,d⟩;rw[C.o];have af:=aa (SB.o.keep d);have t0:=af.o.c 0;have t1:=af.o.c 1;have t2:=af.o.c 2;have d5:Bw wr w5:=d4.bu (d.bC d4.size);clear d;have aj:=aa (ah.o.keep d5);have p2:=aj.o.blk.c 2;have bB:=(d5.c (p:=(bb,oo+N)) y).bu rN));go_ret2;exact⟨_,by rw[K.o,HF.o,u.o,s.o];rfl,by rw[K.o,HF.o];exact⟨rfl,bS ⟨rfl,rfl⟩⟩,b4.bu (d5.bC b4.size)⟩
    ·obtain rfl:k=GL:=by omega
     have HF:=aa (Pu (jV ms na bl) (dC l) (fun x hx=>by
      obtain⟨j,J,rfl⟩:=eW hx;exact au.o j (by rw[<-ay.o];exact J) J))
     go_wp2;go_ret2;refine⟨_,by rw[K.o,HF.o];rfl, ?_,V.bu (Q.bC V.size)⟩;have h:=aB.o;rw[eU (by rw[ay.o];exact bL _)]at h;rw[K.o,HF.o,cR,ay.o];exact d8 h ce
def sH(x:Ch):Bool:= !x.free&&decide (x.yK<0)&&decide (x.now<0)
def rb(bl:List Int)(cs:List Ch):List Int:=cs.foldl (fun b x=>b.set x.place.toNat x.now) bl
def mm(ms na:Nat)(bl:List Int)(l:List En):Int×List Int:=
 if(kp ms na bl l).1≠0 then((kp ms na bl l).1,bl)
 else if(kp ms na bl l).2.any sH then(13,bl)else(0,rb bl (kp ms na bl l).2)
def GW{α β:Type}(f:α->Int×β)(l:bF α):∀y∈(lX f l).2,∃x∈l,(f x).1=0/\(f x).2=y:=by
 induction l with
 |nil=>intro y B;simp[lX]at B
 |cons x l ih=>
  intro y B;unfold lX at B;split at B
  ·rename_i O;dsimp only at B;split at B
   ·rcases je.1 B with rfl|B
    ·exact⟨x,au,O,rfl⟩
    ·let⟨z,a,h⟩:=ih y B;exact⟨z,by simp[a],h⟩
   ·simp at B
  ·simp at B
def GX{n b:Int}(h:dK n=(a,b)):bO a:=by
 unfold dK at h;split at h
 ·cases h;assumption
 ·cases h;decide
variable{bl:bF Int}
def Py{na:Nat}:∀x∈(kp ms na bl l).2,0<=x.place/\x.place<((na*(6+3*ms):Nat):Int)/\bO x.yK/\bO x.now:=by
 unfold kp;split
 ·intro x j;simp at j
 ·split
  ·intro x j;simp at j
  ·rename_i A;split
   ·intro x j;simp at j
   ·intro x j;obtain⟨p,s,O,rfl⟩:=GW _ _ x j;let⟨y,B,f⟩:=(GV l p s).1;have N:(gF ms na (oJ p.1) p.1.bK).2=0:=by
     rw[jT]at A;have:¬(gF ms na ⟨y.k,y.m⟩ y.bK).2≠0:=fun h=>A ⟨y,B,decide_eq_true h⟩
     rw[<-f];simpa[oJ,dO]using this
    have K:=zk N;unfold jV at O⊢;by_cases d:(du p.2).2=0
    ·rw[yc d]at O⊢;by_cases c:(dK (bl.getD (gF ms na (oJ p.1) p.1.bK).1.toNat 0+(du p.2).1)).2=0
     ·rw[yc c];exact⟨K.1,K.2,GX (n:=cd p.2) (a:=(du p.2).1) (b:=(du p.2).2) rfl,GX (b:=(dK (bl.getD (gF ms na (oJ p.1) p.1.bK).1.toNat 0+(du p.2).1)).2) rfl⟩
     ·rw[ya c]at O;exact xl O c
    ·rw[ya d]at O;exact xl O d
def Pz{na:Nat}:(kp ms na bl l).2.length<=1024:=by
 unfold kp;split
 ·simp
 ·split
  ·simp
  ·split
   ·simp
   ·have:∀(G:bF (Sp×bF Int)),(lX (jV ms na bl) G).2.length<=G:=by
     intro G;induction G with
     |nil=>simp[lX]
     |cons x G ih=>unfold lX;split<;>(try split)<;>simp<;>omega
    have:=this (dC l)
    have c:=(Ct l).1;omega
def PA(B g:Nat)(vb:Value)(ms na:Nat)(bl:List Int)(dd:Int)(r:Int×List Int)(w:World)(e:Ending)(w':World):Prop:=e=.returned r.1/\Below B w w'/\ju w' B g vb ms na r.2 (if r.1=0 then wrap64 (dd+1)else dd)
def GY{off cap j:Nat}{l:bF Int}{x:Int}(h:w.ownsRow B 2 1 (.slice (some (b,off)) l cap) l (bN eI l))(hj:j<l):off=0/\B<=b/\(w.setCell (b,j) x).ownsRow B 2 1 (.slice (some (b,off)) l cap) (l.set j x).length (bN eI (l.set j x)):=by
 obtain⟨d,c⟩:=h;rcases c with⟨h,_⟩|⟨g,cap',cur,hv,hg,hh,h3,h4,h5,h6⟩
 ·cases h
 ·simp only[Value.slice.injEq,Option.some.injEq,Addr.mk.injEq]at hv;obtain⟨⟨rfl,rfl,_⟩,_,rfl⟩:=hv;refine⟨rfl,hg,⟨by rw[ik eI 1 kI,js,gD],ci ⟨b,cap,cur.setIfInBounds j x,by rw[js],hg,heap_setCell_same w b j cur 2 _ hh,by rw[js];exact h3,h4,aG h5, ?_⟩⟩⟩;rw[js];rw[nN]at h6⊢;rw[Array.toList_setIfInBounds,List.take_set,h6,List.map_set]
def Cv(B g:Nat)(vb v:bE)(ms na:Nat)(bl:bF Int)(dd:Int)(hms:ms<=16)(hna:na<=9)(hl:bl.length=na*(6+3*ms))(hbl:ep bl)(l:bF En)(w:bD)(hb:ju w B g vb ms na bl dd)(hB:B<=g)(hBw:B<=w)(hv:Sl lW 4 w v l)(hn:l.length<=1000000)(h64:∀x∈l,bO x.bJ):
  bG 178 #[ptr g,v] w (PA B g vb ms na bl dd (mm ms na bl l) w):=by
 let⟨HC,HB,L⟩:=Jh3 (Px B g vb v ms na bl dd hms hna hl hbl l w hb hv hn h64) hb (Py (ms:=ms) (na:=na) (bl:=bl) (l:=l));have av:=Pz (ms:=ms) (na:=na) (bl:=bl) (l:=l);let⟨⟨m,ab⟩,D⟩:∃r,kp ms na bl l=r:=⟨_,rfl⟩;have HP:Hid (mm ms na bl l=if m≠0 then(m,bl)else if ab.any sH then(13,bl)else(0,rb bl ab)):=aa (by unfold mm;rw[D]);rw[D]at HC L av;dsimp only at av;obtain⟨a,a9,rfl,_⟩:=hv;clear D h64 hbl;by_cases aj:m=0
 ·subst aj;go_enter func178,ntmps178;go_wp2_with(go_at_call 226;refine HC.o.bC ?_;rintro e w1⟨vo,rfl,ag,c1⟩;have hf:=bV ag;obtain⟨no,ko,rfl⟩:=hf;have HO:=aa ag;clear ag);have aU:=aa (Sl.own kCh HO.o);go_loopw[24] (fun vi wr=>∃k:Nat,k<=ab.length/\vi=k/\Bw w1 wr/\∀j (h:j<k) (h2:j<ab.length),sH ab[j]=false) (aW ab);exact⟨0,cH _,rfl,bM _ _,fun j h=>af⟩;obtain⟨k,hk,rfl,ac,E⟩:=hrel;have ao:=aa E;clear E;by_cases ai:k<ab
  ·obtain⟨aT,an,b,aB,rfl,_,n⟩:=(aU.o.keep ac).hd;let⟨r0,s,P,f⟩:=GR (n k ai);have aQ:0<=(k:Int):=af;have aL:k<(ab:Int):=af;unfold maxLen at an;let⟨x,hx⟩:=aH (ab[k]);rw[hx]at r0 s P f;have T:=aa hx;clear n hx;obtain⟨M,xf,u,O⟩:=x;dsimp only at r0 s P f;have t:=ac.alloc ac.size (bH (zu ⟨M,xf,u,O⟩) 300);by_cases ad:sH ⟨M,xf,u,O⟩=true
   ·have ak:=ad;simp only[sH,qW,Bool.not_eq_true',decide_eq_true_eq]at ak;obtain⟨⟨rfl,g2⟩,g3⟩:=ak;have HE:Hid (mm ms na bl l=(13,bl)):=aa (by
     rw[HP.o,ya au,yc];rw[jT];exact⟨_,by rw[<-T.o];exact cZ ai,ad⟩)
    clear ad;go_wp2;go_ret;refine⟨by rw[HE.o];rfl,(c1.bu (t.bC c1.size)).bC hBw, ?_⟩;rw[HE.o,ya (show¬((13:Int)=0) by decide)];exact(HB.o.keep c1).keep t
   ·have aO:Hid (sH ⟨M,xf,u,O⟩=false):=aa (aG ad);have aP:xf=true∨(xf=false/\0<=u)∨(xf=false/\u<0/\0<=O):=by
     cases xf with
     |true=>exact bS rfl
     |false=>
      rcases kH u 0 with d|d
      ·refine ci (ci ⟨rfl,d, ?_⟩);rcases kH O 0 with h2|h2
       ·exact xl (by simp[sH,d,h2]) ad
       ·exact h2
      ·exact ci (bS ⟨rfl,d⟩)
    clear ad;rcases aP with rfl|⟨rfl,g2⟩|⟨rfl,g2,g3⟩
    all_goals
     go_wp2;go_roundw
     case rel=>exact⟨k+1,af,aw,t,fun j h h2=>by
      by_cases e:j=k
      ·subst e;rw[T.o];exact aO.o
      ·exact ao.o j af h2⟩
     case measure=>exact aV
  ·have a8:¬(k<(ab:Int)):=af;go_wp2_with fail;have aq:¬(ab.any sH=true):=by
    rw[jT];rintro⟨x,hx,hd⟩
    obtain⟨j,J,rfl⟩:=eW hx;rw[ao.o j af J]at hd;cases hd
   have HE:Hid (mm ms na bl l=(0,rb bl ab)):=aa (by rw[HP.o,ya au,ya aq]);clear aq;have R:=(HB.o.keep c1).keep ac;have ap:=cJ HO.o ac;have b1:Below B w wr:=(c1.bu (ac.bC c1.size)).bC hBw;have H:w.heap.size<=wr:=bW c1.size ac.size;have ax:∃l':bF Int,l'=rb bl (ab.take 0)/\l'.length=bl.length/\ju wr B g vb ms na l' dd:=⟨bl,rfl,rfl,R⟩;let⟨X,aR⟩:=Jh2 ax ap;clear ax R ap;go_loopw[44] (fun vi wr2=>∃k:Nat,k<=ab.length/\vi=k/\Below B w wr2/\wr2.ownsRow w 300 4 (.slice no ab ko) ab (bN nQ ab)/\∃l':bF Int,l'=rb bl (ab.take k)/\l'.length=bl.length/\ju wr2 B g vb ms na l' dd) (aW ab);exact⟨0,cH _,rfl,b1,aR.o,X.o⟩;obtain⟨k,a6,rfl,Q,G,l',aC,Z,aD⟩:=hrel;let⟨q,aE,W⟩:=Jh3 G aC aD;clear G aC aD;by_cases ai:k<ab
   ·let⟨a',z,ay,_,aT,an,az⟩:=Sl.own kCh q.o;let⟨e1,e2⟩:no=a'/\ko=z:=aG ay;subst e1 e2;obtain⟨b,aB,rfl,y,n⟩:=az af;let⟨r0,s,P,f⟩:=GR (n k ai);have aQ:0<=(k:Int):=af;have aL:k<(ab:Int):=af;unfold maxLen at an;let⟨x,hx⟩:=aH (ab[k]);rw[hx]at r0 s P f;have am:=L.o x (by rw[<-hx];exact cZ ai);have T:=aa hx;clear n hx az ay;obtain⟨M,xf,u,O⟩:=x;dsimp only at r0 s P f am;obtain⟨N,rfl⟩:=yN am.1;have hN:N<l':=by rw[Z,hl];omega
    let⟨a2,aA,aK,a5,aN,A⟩:=(Sl.own kI W.o.own).oy;subst aK;obtain⟨t,a3,rfl,F,aS⟩:=A af;obtain⟨rfl,a7,_⟩:=GY (x:=O) W.o.own hN;have c2:=aS N hN;rw[fW]at c2;unfold maxLen at aN;have f2:wr.frozen? (t,N)=false:=by
     let⟨_,h⟩:=W.o.own;rcases h with⟨h,_⟩|⟨g',c',cur,hv,_,hh,_⟩
     ·cases h
     ·simp only[Value.slice.injEq,Option.some.injEq,Addr.mk.injEq]at hv;obtain⟨⟨rfl,_⟩,_⟩:=hv;simp[World.frozen?,hh]
    have Y:=W.o.blk.c 2;have bb:0<=(N:Int):=af;have ba:N<(l':Int):=af;have C:Bw wr (aZ wr #[N,.bool xf,u,O] 300):=aI;let⟨XB,ae,U⟩:=Jh3 (bI.new wr 300 #[N,.bool xf,u,O]) (W.o.keep C) (cJ q.o C);have K:=Q.alloc (bW hBw Q.size) (.cells #[N,.bool xf,u,O] 300);have I:=aa (GY (x:=O) ae.o.own hN).2.2;let⟨y0,y3⟩:=XB.o.k2 0 3;have z2:=ae.o.blk.c 2;have a0:=(C.c (p:=(t,N)) F).bu c2;have a1:(wr.alloc (bH #[N,.bool xf,u,O] 300)).frozen? (t,N)=false:=by
     have h:=C.block t F;unfold World.frozen? at f2⊢;rw[h];exact f2
    go_wp2_with fail;clear r0 s P f c2 f2 Y;generalize wr.alloc (bH #[N,.bool xf,u,O] 300)=W1 at*;go_region
    all_goals
     have aF:g≠t:=by
      have h:=fp ae.o.blk ae.o.own ah t Qb2;exact Ne.symm h
     have R1:ju (W1.setCell (t,N) O) B g (.slice (some (be t 0)) l' aA) ms na (l'.set N O) dd:=⟨ae.o.blk.far N _ aF,I.o⟩;have R2:(W1.setCell (t,N) O).ownsRow w 300 4 (.slice (some (b,aB)) ab ko) ab (bN nQ ab):=ed U.o fun k' hk'=>fV _ _ _ _ (fun e=>ra U.o ae.o.own ah k' hk' t Qb2 e);have V:Below B w (W1.setCell (t,N) O):=⟨K.os,K.tape,K.output,by simpa[World.setCell]using K.size,fun k' hk'=>(fV W1 (t,N) O k' (by show k'≠t;omega)).bu (K.block k' hk')⟩;have HR:=aa (ch R1 (ch R2 V));clear R1 R2 V y0 y3 z2 a0 a1 I aF;generalize W1.setCell (t,N) O=W2 at HR⊢;go_wp2;go_roundw
     case rel=>
      have h3:=HR.o.2.2;have d:=HR.o.1;refine⟨k+1,af,aw,⟨h3.os,h3.tape,h3.output,h3.size,h3.block⟩,HR.o.2.1,l'.set N O, ?_,by rw[js];exact Z,⟨d.blk,d.own⟩⟩;rw[fj ai,T.o,aE.o];simp[rb,rX]
     case measure=>exact aV
   ·obtain rfl:k=ab.length:=af;have p3:=W.o.blk.c 3;have f3:=W.o.blk.free 3;have i:l'=rb bl ab:=by rw[aE.o,eU (bL _)]
    have al:ju (wr.setCell (be g 3) (wrap64 (dd+1))) B g vb ms na l' (wrap64 (dd+1)):=⟨W.o.blk.set 3 _,ed W.o.own fun k' hk'=>fV _ _ _ _ (fp W.o.blk W.o.own ah k' hk')⟩;have ar:Below B w (wr.setCell (be g 3) (wrap64 (dd+1))):=⟨Q.os,Q.tape,Q.output,by simpa[World.setCell]using Q.size,fun k' hk'=>(fV wr (be g 3) (wrap64 (dd+1)) k' (by show k'≠g;omega)).bu (Q.block k' hk')⟩;let⟨S,aJ⟩:=Jh2 (ch al ar) i;clear al ar i;go_wp2;go_ret;refine⟨by rw[HE.o];rfl,S.o.2, ?_⟩;rw[HE.o,yc rfl,<-aJ.o];exact S.o.1
 ·have a4:(m !=0)=true:=aG aj;have HE:Hid (mm ms na bl l=(m,bl)):=aa (by rw[HP.o,yc aj]);have aM:=aa aj;clear aj;go_enter func178,ntmps178;go_wp2_with(go_at_call 226;refine HC.o.bC ?_;rintro e w1⟨vo,rfl,ag,c1⟩);go_ret;refine⟨by rw[HE.o];rfl,c1.bC hBw, ?_⟩;rw[HE.o,ya aM.o];exact HB.o.keep c1
def ff(a b:Int):Int:=if a<b then-1 else if b<a then 1 else 0
def Cw(a:Int)(w:bD):bG 287 #[a] w (bj (.bool false) w):=by go_enter func287,ntmps287;go_wp2;go_ret;exact⟨au,rfl⟩
def vR(a b:Int)(w:bD):bG 233 #[a,b] w (bj (ff a b) w):=by
 rcases Int.lt_trichotomy a b with h|h|h
 ·have H:Hid (ff a b=-1):=aa (by unfold ff;rw[yc h]);exact QaC
 ·subst h;have H:Hid (ff a a=0):=aa (by unfold ff;simp);exact QaC
 ·have H:Hid (ff a b=1):=aa (by unfold ff;rw[ya af,yc h]);have c:¬a<b:=af;exact QaC
def dQ{α:Type}(bR:α->Int)(l:List α)(id:Int):Nat:=l.countP fun x=>decide (bR x<id)
def dJ{α:Type}(bR:α->Int)(l:List α)(id:Int):Bool:=l.any fun x=>decide (bR x=id)
def fK{α:Type}(bR:α->Int)(l:List α):Prop:=l.Pairwise fun x y=>bR x<bR y
def PB{α:Type}(p:α->Bool)(l:bF α):∀n,n<=l.length->(∀k (h:k<l.length),k<n->p l[k]=true)->(∀k (h:k<l.length),n<=k->p l[k]=false)->l.countP p=n:=by
 induction l with
 |nil=>intro n H _ _;simp at H;simp[H]
 |cons x l ih=>
  intro n H d c;cases n with
  |zero=>
   have j:=c 0 au (bL _);simp only[jr]at j;rw[List.countP_cons,ih 0 (cH _) (fun k h hk=>af) (fun k h _=>by have:=c (k+1) aA af;simpa using this)];simp[j]
  |succ n=>
   have j:=d 0 au af;simp only[jr]at j;rw[List.countP_cons,ih n (by simp at H;omega) (fun k h hk=>by have:=d (k+1) aA af;simpa using this) (fun k h hk=>by have:=c (k+1) aA af;simpa using this)];simp[j]
def vS{α:Type}(bR:α->Int)(l:bF α)(id:Int)(n:Nat)(hn:n<=l.length)(h1:∀k (h:k<l.length),k<n->bR l[k]<id)(h2:∀k (h:k<l.length),n<=k->id<=bR l[k]):dQ bR l id=n:=PB _ l n hn (fun k h hk=>decide_eq_true (h1 k h hk)) (fun k h hk=>decide_eq_false (by have:=h2 k h hk;omega))
def Cx{α:Type}(bR:α->Int)(l:bF α)(id:Int)(n:Nat)(hn:n<l)(h:bR l[n]=id):dJ bR l id=true:=by unfold dJ;rw[jT];exact⟨l[n],cZ hn,decide_eq_true h⟩
def vT{α:Type}(bR:α->Int)(l:bF α)(id:Int)(n:Nat)(h1:∀k (h:k<l.length),k<n->bR l[k]<id)(h2:∀k (h:k<l.length),n<=k->id<bR l[k]):dJ bR l id=false:=by
 unfold dJ;rw[mP];intro x j;obtain⟨k,a,rfl⟩:=eW j;intro e;have e:=of_decide_eq_true e;rcases fA k n with h|h
 ·have:=h1 k a h;omega
 ·have:=h2 k a h;omega
def mn{α:Type}{bR:α->Int}{l:bF α}(h:fK bR l):∀i j (hi:i<l.length) (hj:j<l.length),i<j->bR l[i]<bR l[j]:=fun i j hi hj hij=>AW.1 h i j hi hj hij
def Cz{b:Int}(h:a<b):ff a b=-1:=by unfold ff;rw[yc h]
def vU(a:Int):ff a a=0:=by unfold ff;simp
def vV{b:Int}(h:b<a):ff a b=1:=by unfold ff;rw[ya af,yc h]
structure RU where
 (bR v:Int)deriving DecidableEq
abbrev vRU(x:RU):Value:=.agg #[x.bR,x.v]
abbrev sI(x:RU):Array Value:=#[x.bR,x.v]
def gn(x:RU):List Value:=[x.bR,x.v]
def vW(x:RU):(gn x).length=2:=rfl
def PC(x:RU):∀u∈gn x,u.oneCell'=true:=by intro u X;simp[gn]at X;rcases X with rfl|rfl<;>rfl
def PD:(prog.info? 268).map (fun i=>(i.zero,i.size,i.bytes))=some (some (.agg #[(),()]),2,16):=aj
def CB{x:RU}(h:∀j u,(gn x)[j]?=some u->W.cell? ⟨b,o+j,none⟩=some u):W.cell? (b,o)=x.bR/\W.cell? (b,o+1)=x.v:=⟨h 0 _ rfl,h 1 _ rfl⟩
def zv(x:RU)(id:Int)(w:bD):bG 232 #[vRU x,id] w (bi (ff x.bR id) w):=by go_enter func232,ntmps232;exact QaR
def PE(v:bE)(l:bF RU)(id:Int)(w:bD)(hv:Sl gn 2 w v l)(hn:l.length<=1000000)(hs:fK RU.bR l):
  bG 231 #[v,id,.func (.func 232) #[] #[]] w (bi (.tuple #[aY (dQ RU.bR l id:Nat),.bool (dJ RU.bR l id)]) w):=by
 obtain⟨a,U,rfl,_,t,d,F⟩:=hv;unfold maxLen at d;let⟨B,D⟩:=Jh2 F hs;clear F hs;go_enter func231,ntmps231;go_wp2;go_loopw[9,10] (fun vi vj wr=>∃i j:Nat,i<=j/\j<=l.length/\vi=i/\vj=j/\Bw w wr/\(∀k (h:k<l.length),k<i->l[k].bR<id)/\(∀k (h:k<l.length),j<=k->id<=l[k].bR)) (fun vi vj _=>(intOf vj).toNat-(intOf vi).toNat);exact⟨0,l.length,cH _,bL _,rfl,rfl,bM _ _,(fun k h h2=>af),(fun k h h2=>af)⟩;obtain⟨i,j,q,J,rfl,rfl,f,g,N⟩:=hrel;let⟨r,M⟩:=Jh2 g N;clear g N;by_cases R:i<j
 ·obtain⟨b,m,rfl,W,n⟩:=B.o af;have Z:(i+j)/2<l.length:=af;have I:i<=(i+j)/2:=af;have S:(i+j)/2<j:=af;let⟨A,E⟩:=CB (n ((i+j)/2) Z);have Q:=(f.c (p:=(b,m+((i+j)/2)*2)) W).bu A;have s:=(f.c (p:=(b,m+((i+j)/2)*2+1)) W).bu E;clear n A E;let⟨x,L⟩:=aH (l[(i+j)/2]);rw[L]at Q s;have T:=aa L;clear L;by_cases P:x.bR<id
  ·have G:=aa (Cz P);go_wp2_with(go_at_call 232;refine(zv x id _).bC ?_;rintro e O⟨rfl,H⟩;rw[G.o]);go_roundw
   case rel=>exact⟨(i+j)/2+1,j,af,J,aw,rfl,f.bu (H.bC f.size),(fun k h hk=>by
    rcases fA k ((i+j)/2)with h3|h3
    ·exact QbD
    ·obtain rfl:k=(i+j)/2:=af;rw[T.o];exact P),M.o⟩
   case measure=>exact aV
  ·have G:Hid (ff x.bR id=0∨ff x.bR id=1):=aa (by
    by_cases e:x.bR=id
    ·rw[e];exact bS (vU _)
    ·exact ci (vV af))
   rcases G.o with HD|HD
   all_goals
    have V:=aa HD;clear HD;go_wp2_with(go_at_call 232;refine(zv x id _).bC ?_;rintro e O⟨rfl,H⟩;rw[V.o]);go_roundw
    case rel=>exact⟨i,(i+j)/2,af,af,rfl,aw,f.bu (H.bC f.size),r.o,(fun k h hk=>by
     rcases fA ((i+j)/2) k with h3|h3
     ·exact Qby
     ·obtain rfl:k=(i+j)/2:=af;rw[T.o];omega)⟩
    case measure=>exact aV
 ·obtain rfl:i=j:=af;have u:=aa (vS RU.bR l id i J r.o M.o);by_cases K:i<l.length
  ·obtain⟨b,m,rfl,W,n⟩:=B.o af;let⟨A,E⟩:=CB (n i K);have Q:=(f.c (p:=(b,m+i*2)) W).bu A;have s:=(f.c (p:=(b,m+i*2+1)) W).bu E;clear n A E;have y:=M.o i K (bL _);let⟨x,L⟩:=aH (l[i]);rw[L]at Q s y;have T:=aa L;clear L;by_cases P:x.bR=id
   ·have z:=aa (Cx RU.bR l id i K Qdi);have G:Hid (ff x.bR id=0):=aa Qda;exact Qa7
   ·have z:=aa (vT RU.bR l id i r.o (fun k h hk=>by
     rcases fA i k with h3|h3
     ·exact QbT
     ·obtain rfl:k=i:=af;rw[T.o];omega))
    have G:Hid (ff x.bR id=1):=aa (vV af);exact Qa7
  ·have z:=aa (vT RU.bR l id i r.o (fun k h hk=>af));have C:¬(i<(l:Int)):=af;go_wp2;go_ret2;exact⟨by rw[u.o,z.o];rfl,f⟩
def GZ(g:Nat)(v:bE)(room:Int)(l:bF RU)(id:Int)(w:bD)(hb:bI w g 191 #[room,v])(hv:Sl gn 2 w v l)(hn:l.length<=1000000)(hs:fK RU.bR l):
  bG 186 #[ptr g,id] w (bi (.tuple #[aY (dQ RU.bR l id:Nat),.bool (dJ RU.bR l id)]) w):=by
 have Z:=hb.c 1;let⟨M,D⟩:=Jh2 hv hs;obtain⟨a,U,rfl,_⟩:=hv;clear hs hb;go_enter func186,ntmps186;go_wp2_with(go_at_call 231;refine(PE _ l id _ M.o hn D.o).bC ?_;rintro e i⟨rfl,b⟩);go_ret2;exact⟨rfl,b⟩
def zw(x:RT)(id:Int)(w:bD):bG 237 #[vRT x,id] w (bi (ff x.bR id) w):=by go_enter func237,ntmps237;exact QaR
def PF(v:bE)(l:bF RT)(id:Int)(w:bD)(hv:Sl eO 7 w v l)(hn:l.length<=1000000)(hs:fK RT.bR l):
  bG 236 #[v,id,.func (.func 237) #[] #[]] w (bi (.tuple #[aY (dQ RT.bR l id:Nat),.bool (dJ RT.bR l id)]) w):=by
 obtain⟨a,U,rfl,_,t,d,F⟩:=hv;unfold maxLen at d;let⟨O,D⟩:=Jh2 F hs;clear F hs;go_enter func236,ntmps236;go_wp2;go_loopw[9,10] (fun vi vj wr=>∃i j:Nat,i<=j/\j<=l.length/\vi=i/\vj=j/\Bw w wr/\(∀k (h:k<l.length),k<i->l[k].bR<id)/\(∀k (h:k<l.length),j<=k->id<=l[k].bR)) (fun vi vj _=>(intOf vj).toNat-(intOf vi).toNat);exact⟨0,l.length,cH _,bL _,rfl,rfl,bM _ _,(fun k h h2=>af),(fun k h h2=>af)⟩;obtain⟨i,j,q,J,rfl,rfl,L,g,X⟩:=hrel;let⟨r,V⟩:=Jh2 g X;clear g X;by_cases ab:i<j
 ·obtain⟨b,m,rfl,W,n⟩:=O.o af;have Z:(i+j)/2<l.length:=af;have I:i<=(i+j)/2:=af;have ac:(i+j)/2<j:=af;let⟨A,E,H,B,N,Y,u⟩:=vF (n ((i+j)/2) Z);let⟨r0,s,r2,f,M,r5⟩:=Jt6 ((L.c (p:=(b,m+((i+j)/2)*7)) W).bu A) ((L.c (p:=(b,m+((i+j)/2)*7+1)) W).bu E) ((L.c (p:=(b,m+((i+j)/2)*7+2)) W).bu H) ((L.c (p:=(b,m+((i+j)/2)*7+3)) W).bu B) ((L.c (p:=(b,m+((i+j)/2)*7+4)) W).bu N) ((L.c (p:=(b,m+((i+j)/2)*7+5)) W).bu Y);have Q:=(L.c (p:=(b,m+((i+j)/2)*7+6)) W).bu u;clear n A E H B N Y u;let⟨x,S⟩:=aH (l[(i+j)/2]);rw[S]at r0 s r2 f M r5 Q;have T:=aa S;clear S;by_cases P:x.bR<id
  ·have G:=aa (Cz P);go_wp2_with(go_at_call 237;refine(zw x id _).bC ?_;rintro e w1⟨rfl,R⟩;rw[G.o]);go_roundw
   case rel=>exact⟨(i+j)/2+1,j,af,J,aw,rfl,L.bu (R.bC L.size),(fun k h hk=>by
    rcases fA k ((i+j)/2)with h3|h3
    ·exact QbD
    ·obtain rfl:k=(i+j)/2:=af;rw[T.o];exact P),V.o⟩
   case measure=>exact aV
  ·have G:Hid (ff x.bR id=0∨ff x.bR id=1):=aa (by
    by_cases e:x.bR=id
    ·rw[e];exact bS (vU _)
    ·exact ci (vV af))
   rcases G.o with HD|HD
   all_goals
    have HE:=aa HD;clear HD;go_wp2_with(go_at_call 237;refine(zw x id _).bC ?_;rintro e w1⟨rfl,R⟩;rw[HE.o]);go_roundw
    case rel=>exact⟨i,(i+j)/2,af,af,rfl,aw,L.bu (R.bC L.size),r.o,(fun k h hk=>by
     rcases fA ((i+j)/2) k with h3|h3
     ·exact Qby
     ·obtain rfl:k=(i+j)/2:=af;rw[T.o];omega)⟩
    case measure=>exact aV
 ·obtain rfl:i=j:=af;have HP:=aa (vS RT.bR l id i J r.o V.o);by_cases K:i<l.length
  ·obtain⟨b,m,rfl,W,n⟩:=O.o af;let⟨A,E,H,B,N,Y,u⟩:=vF (n i K);let⟨r0,s,r2,f,M,r5⟩:=Jt6 ((L.c (p:=(b,m+i*7)) W).bu A) ((L.c (p:=(b,m+i*7+1)) W).bu E) ((L.c (p:=(b,m+i*7+2)) W).bu H) ((L.c (p:=(b,m+i*7+3)) W).bu B) ((L.c (p:=(b,m+i*7+4)) W).bu N) ((L.c (p:=(b,m+i*7+5)) W).bu Y);have Q:=(L.c (p:=(b,m+i*7+6)) W).bu u;clear n A E H B N Y u;have y:=V.o i K (bL _);let⟨x,S⟩:=aH (l[i]);rw[S]at r0 s r2 f M r5 Q y;have T:=aa S;clear S;by_cases P:x.bR=id
   ·have z:=aa (Cx RT.bR l id i K Qdi);have G:Hid (ff x.bR id=0):=aa Qda;exact Qa6
   ·have z:=aa (vT RT.bR l id i r.o (fun k h hk=>by
     rcases fA i k with h3|h3
     ·exact QbT
     ·obtain rfl:k=i:=af;rw[T.o];omega))
    have G:Hid (ff x.bR id=1):=aa (vV af);exact Qa6
  ·have z:=aa (vT RT.bR l id i r.o (fun k h hk=>af));have C:¬(i<(l:Int)):=af;go_wp2;go_ret2;exact⟨by rw[HP.o,z.o];rfl,L⟩
def CC(g:Nat)(v:bE)(room:Int)(l:bF RT)(id:Int)(w:bD)(hb:bI w g 188 #[room,v])(hv:Sl eO 7 w v l)(hn:l.length<=1000000)(hs:fK RT.bR l):
  bG 188 #[ptr g,id] w (bi (.tuple #[aY (dQ RT.bR l id:Nat),.bool (dJ RT.bR l id)]) w):=by
 have Z:=hb.c 1;let⟨M,D⟩:=Jh2 hv hs;obtain⟨a,U,rfl,_⟩:=hv;clear hs hb;go_enter func188,ntmps188;go_wp2_with(go_at_call 236;refine(PF _ l id _ M.o hn D.o).bC ?_;rintro e i⟨rfl,b⟩);go_ret2;exact⟨rfl,b⟩
def zx(x:RH)(id:Int)(w:bD):bG 353 #[vRH x,id] w (bi (ff x.bR id) w):=by go_enter func353,ntmps353;exact QaR
def PG(v:bE)(l:bF RH)(id:Int)(w:bD)(hv:Sl eX 5 w v l)(hn:l.length<=1000000)(hs:fK RH.bR l):
  bG 352 #[v,id,.func (.func 353) #[] #[]] w (bi (.tuple #[aY (dQ RH.bR l id:Nat),.bool (dJ RH.bR l id)]) w):=by
 obtain⟨a,U,rfl,_,t,d,F⟩:=hv;unfold maxLen at d;let⟨O,D⟩:=Jh2 F hs;clear F hs;go_enter func352,ntmps352;go_wp2;go_loopw[9,10] (fun vi vj wr=>∃i j:Nat,i<=j/\j<=l.length/\vi=i/\vj=j/\Bw w wr/\(∀k (h:k<l.length),k<i->l[k].bR<id)/\(∀k (h:k<l.length),j<=k->id<=l[k].bR)) (fun vi vj _=>(intOf vj).toNat-(intOf vi).toNat);exact⟨0,l.length,cH _,bL _,rfl,rfl,bM _ _,(fun k h h2=>af),(fun k h h2=>af)⟩;obtain⟨i,j,q,J,rfl,rfl,L,g,V⟩:=hrel;let⟨r,S⟩:=Jh2 g V;clear g V;by_cases ab:i<j
 ·obtain⟨b,m,rfl,W,n⟩:=O.o af;have Z:(i+j)/2<l.length:=af;have I:i<=(i+j)/2:=af;have ac:(i+j)/2<j:=af;let⟨A,E,H,B,N⟩:=xR (n ((i+j)/2) Z);let⟨Y,s,r2,f,M⟩:=Jt5 ((L.c (p:=(b,m+((i+j)/2)*5)) W).bu A) ((L.c (p:=(b,m+((i+j)/2)*5+1)) W).bu E) ((L.c (p:=(b,m+((i+j)/2)*5+2)) W).bu H) ((L.c (p:=(b,m+((i+j)/2)*5+3)) W).bu B) ((L.c (p:=(b,m+((i+j)/2)*5+4)) W).bu N);clear n A E H B N;let⟨x,R⟩:=aH (l[(i+j)/2]);rw[R]at Y s r2 f M;have T:=aa R;clear R;by_cases P:x.bR<id
  ·have G:=aa (Cz P);go_wp2_with(go_at_call 353;refine(zx x id _).bC ?_;rintro e X⟨rfl,Q⟩;rw[G.o]);go_roundw
   case rel=>exact⟨(i+j)/2+1,j,af,J,aw,rfl,L.bu (Q.bC L.size),(fun k h hk=>by
    rcases fA k ((i+j)/2)with h3|h3
    ·exact QbD
    ·obtain rfl:k=(i+j)/2:=af;rw[T.o];exact P),S.o⟩
   case measure=>exact aV
  ·have G:Hid (ff x.bR id=0∨ff x.bR id=1):=aa (by
    by_cases e:x.bR=id
    ·rw[e];exact bS (vU _)
    ·exact ci (vV af))
   rcases G.o with HD|HD
   all_goals
    have HE:=aa HD;clear HD;go_wp2_with(go_at_call 353;refine(zx x id _).bC ?_;rintro e X⟨rfl,Q⟩;rw[HE.o]);go_roundw
    case rel=>exact⟨i,(i+j)/2,af,af,rfl,aw,L.bu (Q.bC L.size),r.o,(fun k h hk=>by
     rcases fA ((i+j)/2) k with h3|h3
     ·exact Qby
     ·obtain rfl:k=(i+j)/2:=af;rw[T.o];omega)⟩
    case measure=>exact aV
 ·obtain rfl:i=j:=af;have u:=aa (vS RH.bR l id i J r.o S.o);by_cases K:i<l.length
  ·obtain⟨b,m,rfl,W,n⟩:=O.o af;let⟨A,E,H,B,N⟩:=xR (n i K);let⟨Y,s,r2,f,M⟩:=Jt5 ((L.c (p:=(b,m+i*5)) W).bu A) ((L.c (p:=(b,m+i*5+1)) W).bu E) ((L.c (p:=(b,m+i*5+2)) W).bu H) ((L.c (p:=(b,m+i*5+3)) W).bu B) ((L.c (p:=(b,m+i*5+4)) W).bu N);clear n A E H B N;have y:=S.o i K (bL _);let⟨x,R⟩:=aH (l[i]);rw[R]at Y s r2 f M y;have T:=aa R;clear R;by_cases P:x.bR=id
   ·have z:=aa (Cx RH.bR l id i K Qdi);have G:Hid (ff x.bR id=0):=aa Qda;exact Qa8
   ·have z:=aa (vT RH.bR l id i r.o (fun k h hk=>by
     rcases fA i k with h3|h3
     ·exact QbT
     ·obtain rfl:k=i:=af;rw[T.o];omega))
    have G:Hid (ff x.bR id=1):=aa (vV af);exact Qa8
  ·have z:=aa (vT RH.bR l id i r.o (fun k h hk=>af));have C:¬(i<(l:Int)):=af;go_wp2;go_ret2;exact⟨by rw[u.o,z.o];rfl,L⟩
def CD(g:Nat)(v:bE)(room:Int)(l:bF RH)(id:Int)(w:bD)(hb:bI w g 227 #[room,v])(hv:Sl eX 5 w v l)(hn:l.length<=1000000)(hs:fK RH.bR l):
  bG 320 #[ptr g,id] w (bi (.tuple #[aY (dQ RH.bR l id:Nat),.bool (dJ RH.bR l id)]) w):=by
 have Z:=hb.c 1;let⟨M,D⟩:=Jh2 hv hs;obtain⟨a,U,rfl,_⟩:=hv;clear hs hb;go_enter func320,ntmps320;go_wp2_with(go_at_call 352;refine(PG _ l id _ M.o hn D.o).bC ?_;rintro e i⟨rfl,b⟩);go_ret2;exact⟨rfl,b⟩
def CE(g:Nat)(v:bE)(room:Int)(l:bF RH)(w:bD)(hb:bI w g 227 #[room,v])(hv:Sl eX 5 w v l)(hr:0<=room/\room<=1000000)(hn:l.length<=1000000):
  bG 309 #[ptr g] w (bi (room-l.length:Int) w):=by
 let⟨j,Z⟩:=hb.k2 0 1;obtain⟨a,U,rfl,_⟩:=hv;have T:IntKind.i64.wrap (room-(l:Int))=room-(l:Int):=gI _ af;clear hb;go_enter func309,ntmps309;go_wp2;go_quiet(fail);go_wp2;go_ret;exact⟨rfl,gM (bM _ _) _⟩
def PH(ms na:Nat)(bl:List Int)(dd:Int)(w:World)(e:Ending)(w':World):Prop:=∃g v,e=.returned (ptr g)/\ju w' w g v ms na bl dd/\w.heap.size<=g/\Bw w w'
def CG(B g:Nat)(vb:bE)(ms na:Nat)(bl:bF Int)(dd:Int)(w:bD)(hb:ju w B g vb ms na bl dd)(hn:bl.length<=1000000):bG 177 #[ptr g] w (PH ms na bl dd w):=by
 have N:=aa hb;have n:=bV hb.own;obtain⟨M,r,rfl⟩:=n;let⟨j,Z,Y,y⟩:=hb.blk.k4 0 1 2 3;have C:Bw w (aZ w #[ms,na,.slice M bl r,dd] 224):=aI;have H:=(hb.keep C).blk.c 2;let⟨l,d⟩:=Jh2 (Sl.own kI (hb.keep C).own) (bI.new w 224 #[ms,na,.slice M bl r,dd]);clear hb;go_enter func177,ntmps177;go_wp2_with(go_at_call 225;refine(MT _ bl _ l.o hn).bC ?_;rintro e i⟨p,rfl,a,b⟩;have f:=aa (d.o.keep b);have P:=f.o.c 2;have v:=f.o.free 2;have m:=bV a;obtain⟨W,K,rfl⟩:=m);go_ret;refine⟨w,.slice W bl K,rfl,⟨f.o.set 2 _, ?_⟩,bL _, ?_⟩
 ·exact ed (d8 a au) fun k hk=>fV _ _ _ _ (fp f.o a ah k hk)
 ·have h:=C.bu (b.bC au);exact⟨h.os,h.tape,h.output,by simpa[World.setCell]using h.size,fun k hk=>(fV i (be w 2) _ k (by show k≠w.heap.size;omega)).bu (h.block k hk)⟩
def G9(g:Nat)(v:bE)(room:Int)(l:bF RH)(w:bD)(hb:bI w g 227 #[room,v])(hv:Sl eX 5 w v l)(hn:l.length<=1000000):bG 260 #[ptr g] w (ki eX 333 5 l w):=by have Z:=hb.c 1;have M:=aa hv;obtain⟨a,U,rfl,_⟩:=hv;clear hb;go_enter func260,ntmps260;go_wp2_with(go_at_call 319;refine(MP _ l _ M.o hn).bC ?_;rintro e i⟨f,rfl,h,b⟩);exact QcR
def nR(l:List RH)(a:Ac)(bK:Int):Int:=l.foldl (fun S r=>if r.cq=a.k/\r.mem=a.m/\r.bK=bK then wrap64 (S+r.bJ)else S) 0
def PI(l:bF RH)(r:RH)(a:Ac)(bK:Int):nR (l++[r]) a bK=if r.cq=a.k/\r.mem=a.m/\r.bK=bK then wrap64 (nR l a bK+r.bJ)else nR l a bK:=by unfold nR;rw[rX];rfl
def Ha(n:Int):bO (wrap64 n):=by unfold bO wrap64;omega
def PJ(l:bF RH)(a:Ac)(bK:Int):bO (nR l a bK):=by
 unfold nR;have:∀(l:bF RH) (S:Int),bO S->bO (l.foldl (fun S r=>if r.cq=a.k/\r.mem=a.m/\r.bK=bK then wrap64 (S+r.bJ)else S) S):=by
  intro l;induction l with
  |nil=>intro S h;exact h
  |cons r l ih=>
   intro S h;rw[qX];refine ih _ ?_;split
   ·exact Ha _
   ·exact h
 exact this l 0 ah
def Hb(G gb gh:Nat)(v:bE)(room:Int)(l:bF RH)(a:Ac)(bK:Int)(w:bD)(hg:bI w G 184 #[ptr gb,ptr gh])(hb:bI w gh 227 #[room,v])(hv:Sl eX 5 w v l)(hn:l.length<=1000):
  bG 228 #[ptr G,fo a,bK] w (bi (nR l a bK) w):=by
 obtain⟨A,U⟩:=a;have C:Bw w (aZ w (cT ⟨A,U⟩) 81):=aI;have Z:=(hg.keep C).c 1;let⟨q,V⟩:=Jh2 (G9 gh v room l _ (hb.keep C) (hv.keep C) af) (bI.new w 81 (cT ⟨A,U⟩));clear hg hb hv;go_enter func228,ntmps228;go_wp2_with(go_at_call 260;refine q.o.bC ?_;rintro e i⟨v1,rfl,y,E⟩;have X:=bV y;obtain⟨n1,k1,rfl⟩:=X);let⟨D,p⟩:=Jh2 (Sl.own kK y) (V.o.keep E);have z:=C.bu (E.bC C.size);clear y E V;go_loopw[7,16] (fun vn vi wr=>∃k:Nat,k<=l.length/\vi=k/\vn=.int .i64 (nR (l.take k) ⟨A,U⟩ bK)/\Bw i wr) (fun _ vi _=>l.length-(intOf vi).toNat);exact⟨0,cH _,rfl,rfl,bM _ _⟩;obtain⟨k,hk,rfl,rfl,r⟩:=hrel;by_cases B:k<l
 ·obtain⟨Y,H,b,m,rfl,_,n⟩:=(D.o.keep r).hd;let⟨R,s,r2,f,M⟩:=xR (n k B);have O:0<=(k:Int):=af;have N:k<(l:Int):=af;unfold maxLen at H;have u:=aa (PI (l.take k) l[k] ⟨A,U⟩ bK);rw[<-fj B]at u;clear n;generalize l[k]=x at*;generalize nR (l.take k) ⟨A,U⟩ bK=S at*;obtain⟨j,d,F,T,L⟩:=x;dsimp only at R s r2 f M u;have t:=r.alloc r.size (bH (oC ⟨j,d,F,T,L⟩) 333);have K:=p.o.keep t;let⟨W,I⟩:=K.k2 0 1;by_cases P:d=A/\F=U/\T=bK
  ·obtain⟨rfl,rfl,rfl⟩:=P;rw[yc ⟨rfl,rfl,rfl⟩]at u;exact Qc3
  ·rw[ya P]at u;have J:d≠A∨(d=A/\F≠U)∨(d=A/\F=U/\T≠bK):=af;clear P;rcases J with h|⟨rfl,h⟩|⟨rfl,rfl,h⟩
   all_goals
    have hb:=xp.2 h;clear h;exact Qc3
 ·have Q:¬(k<(l:Int)):=af;have g:l.take k=l:=eU af;rw[g];go_wp2;go_ret;exact⟨rfl,z.bu (r.bC z.size)⟩
structure gY(w:World)(B gv gb gh:Nat)(vb vh:Value)(ms na:Nat)(bal:List Int)(dd room:Int)(holds:List RH):Prop where
 blk:bI w gv 184 #[ptr gb,ptr gh]
 book:ju w B gb vb ms na bal dd
 hblk:bI w gh 227 #[room,vh]
 hown:w.ownsRow B 333 5 vh holds (bN eX holds)
 l1:B<=gv
 l2:B<=gb
 l3:B<=gh
variable{bal:bF Int}{holds:bF RH}
def gY.keep{gv gb gh:Nat}{vb vh:bE}{na:Nat}{dd room:Int}(h:gY w B gv gb gh vb vh ms na bal dd room holds)(hb:Bw w w'):gY w' B gv gb gh vb vh ms na bal dd room holds:=⟨h.blk.keep hb,h.book.keep hb,h.hblk.keep hb,cJ h.hown hb,h.l1,h.l2,h.l3⟩
def gY.keepD{wd:bD}{gv gb gh:Nat}{vb vh:bE}{na:Nat}{dd room:Int}(h:gY w B gv gb gh vb vh ms na bal dd room holds)(hb:Bw wd w')(e:wd.heap=w.heap:=by rfl):gY w' B gv gb gh vb vh ms na bal dd room holds:=⟨h.blk.keepD hb e,⟨h.book.blk.keepD hb e,sx h.book.own hb e⟩,h.hblk.keepD hb e,sx h.hown hb e,h.l1,h.l2,h.l3⟩
def ju.keepD{wd:bD}{v:bE}{ms na:Int}{l:bF Int}{p:Int}(h:ju w B g v ms na l p)(hb:Bw wd w')(e:wd.heap=w.heap:=by rfl):ju w' B g v ms na l p:=⟨h.blk.keepD hb e,sx h.own hb e⟩
def uy(ms na:Nat)(holds:List RH)(bal bal2:List Int)(x:En):Bool:=!nL ⟨x.k,x.m⟩&&decide ((jU ms na bal2 ⟨x.k,x.m⟩ x.bK).1<(jU ms na bal ⟨x.k,x.m⟩ x.bK).1)&&decide ((jU ms na bal2 ⟨x.k,x.m⟩ x.bK).1<nR holds ⟨x.k,x.m⟩ x.bK)
def vX(ms na:Nat)(holds:List RH)(bal bal2:List Int)(l:List En):Bool:=l.any (uy ms na holds bal bal2)
def PK{α:Type}(f:α->Bool)(l:bF α)(k:Nat)(h:k<l)(hf:f l[k]=true):l.any f=true:=by rw[jT];exact⟨l[k],cZ h,hf⟩
def PM{α:Type}(f:α->Bool)(l:bF α)(h:∀j (h:j<l.length),f l[j]=false):l.any f=false:=by rw[mP];intro x a;obtain⟨i,p,rfl⟩:=eW a;simp[h i p]
def Hc(B gv gb gh g2 B2:Nat)(vb vh vb2 v:bE)(ms na:Nat)(hms:ms<=16)(hna:na<=9)(bal bal2:bF Int)(hl:bal.length=na*(6+3*ms))(hl2:bal2.length=na*(6+3*ms))(dd posted2 room:Int)(holds:bF RH)(hn:holds.length<=1000)(l:bF En)(w:bD)(hV:gY w B gv gb gh vb vh ms na bal dd room holds)(hB2:ju w B2 g2 vb2 ms na bal2 posted2)(hv:Sl lW 4 w v l):
  bG 179 #[ptr gv,ptr g2,v] w (bi (.bool (vX ms na holds bal bal2 l)) w):=by
 let⟨M,Z⟩:=Jh2 hV hB2;obtain⟨a,aB,rfl,_,aC,ax,ae⟩:=hv;unfold maxLen at ax;have am:=aa ae;clear ae hV hB2;go_enter func179,ntmps179;go_wp2;go_loopw[15] (fun vi wr=>∃k:Nat,k<=l.length/\vi=k/\Bw w wr/\∀j (h:j<k) (h2:j<l.length),uy ms na holds bal bal2 l[j]=false) (aW l);exact⟨0,cH _,rfl,bM _ _,fun j h=>af⟩;obtain⟨k,hk,rfl,ab,ao⟩:=hrel;have al:=aa ao;clear ao;by_cases ap:k<l
 ·obtain⟨b,m,rfl,y,n⟩:=am.o af;let⟨A,E,H,q3⟩:=Cq (n k ap);let⟨r0,s,r2,r3⟩:=Jt4 ((ab.c (p:=(b,m+k*4)) y).bu A) ((ab.c (p:=(b,m+k*4+1)) y).bu E) ((ab.c (p:=(b,m+k*4+2)) y).bu H) ((ab.c (p:=(b,m+k*4+3)) y).bu q3);have az:0<=(k:Int):=af;have ay:k<(l:Int):=af;let⟨z,hz⟩:=aH (uy ms na holds bal bal2 l[k]);have Y:=aa hz;have ar:=aa (fun(h:z=true)=>PK (uy ms na holds bal bal2) l k ap (by rw[hz,h]));have X:=aa (fun(h:z=false) (j:Nat) (h1:j<k+1) (h2:j<l.length)=>show uy ms na holds bal bal2 l[j]=false from(by
   by_cases e:j=k
   ·subst e;rw[hz,h]
   ·exact al.o j af h2))
  clear n A E H q3 hz al;generalize l[k]=x at*;obtain⟨d,F,T,O⟩:=x;dsimp only at r0 s r2 r3 Y;have t:=ab.alloc ab.size (bH (nh ⟨d,F,T,O⟩) 231);let⟨HX,ad,an⟩:=Jh3 (bI.new wr 231 (nh ⟨d,F,T,O⟩)) (M.o.keep t) (Z.o.keep t);have U:(wr.alloc (bH (nh ⟨d,F,T,O⟩) 231)).cell? (be gv 0)=some (ptr gb)/\(wr.alloc (bH (nh ⟨d,F,T,O⟩) 231)).cell? (be wr 0)=d/\(wr.alloc (bH (nh ⟨d,F,T,O⟩) 231)).cell? (be wr 1)=F/\(wr.alloc (bH (nh ⟨d,F,T,O⟩) 231)).cell? (be wr 2)=T:=⟨ad.o.blk.c 0,HX.o.c 0,HX.o.c 1,HX.o.c 2⟩;let⟨⟨wa,e1⟩,ak⟩:∃r,jU ms na bal ⟨d,F⟩ T=r:=⟨_,rfl⟩;let⟨⟨q,e2⟩,ai⟩:∃r,jU ms na bal2 ⟨d,F⟩ T=r:=⟨_,rfl⟩;let⟨u,Q⟩:∃r,nR holds ⟨d,F⟩ T=r:=⟨_,rfl⟩;let⟨D,aj⟩:∃r,nL ⟨d,F⟩=r:=⟨_,rfl⟩;have i:Hid ((!D&&decide (q<wa)&&decide (q<u))=z):=aa (by
   have h:=Y.o;unfold uy at h;dsimp only at h;rw[ak,ai,Q,aj]at h;exact h)
  let⟨av,P,K,ah⟩:=Jh4 ak ai Q aj;clear Y ak ai Q aj;go_wp2_with fail;dsimp only[nh]at t HX ad an U;generalize aq:wr.alloc (bH #[d,F,T,O] 231)=W0 at*;clear aq;go_region_held3(fun W=>W.cell? (be gv 0)=some (ptr gb)/\W.cell? (be wr 0)=d/\W.cell? (be wr 1)=F/\W.cell? (be wr 2)=T) (first|exact U|assumption|go_keep)
   (first|(go_at_call 122;refine(Ck B gb vb ms na bal dd hms hna hl ⟨d,F⟩ T _ (by exact⟨ad.o.book.blk,ad.o.book.own⟩)).bC ?_;rintro e x1⟨rfl,c1⟩;rw[av.o];have g:=aa (ad.o.keepD c1);have S:=aa (an.o.keepD c1);have X1:=aa (HX.o.keepD c1);have b1:Bw w x1:=(iY t c1 t.size);have au:x1.cell? (be gv 0)=some (ptr gb)/\x1.cell? (be wr 0)=d/\x1.cell? (be wr 1)=F/\x1.cell? (be wr 2)=T:=⟨g.o.blk.c 0,X1.o.c 0,X1.o.c 1,X1.o.c 2⟩))
  rename_i ag;clear ag au U c1;let⟨A,E,H⟩:=X1.o.k3 0 1 2;have C:∀W:bD,Bw W (aZ W (cT ⟨d,F⟩) 81):=fun W=>aI;go_wp2_with(go_at_call 122;refine(Ck B2 g2 vb2 ms na bal2 posted2 hms hna hl2 ⟨d,F⟩ T _ S.o).bC ?_;rintro e x2⟨rfl,f⟩;rw[P.o];have V2:=aa (g.o.keep f);have X2:=aa (X1.o.keep f);have V:=b1.bu (f.bC b1.size);have s0:=X2.o.c 0;have s1:=X2.o.c 1;have s2:=X2.o.c 2);clear f A E H;cases D with
  |true=>
   have ac:z=false:=by rw[<-i.o];rfl
   go_wp2_with(go_at_call 227;refine(pI ⟨d,F⟩ _).bC ?_;rintro e L⟨rfl,rfl⟩;rw[ah.o]);exact QcQ
  |false=>
   let⟨V3,X3⟩:=Jh2 (V2.o.keep (C x2)) (X2.o.keep (C x2));let⟨J,t1,t2⟩:=X3.o.k3 0 1 2;by_cases hw:q<wa
   ·have hd:=dT hw;have HC:=aa (Hb gv gb gh vh room holds ⟨d,F⟩ T _ V3.o.blk V3.o.hblk (Sl.own kK V3.o.hown) hn);by_cases hq:q<u
    ·have ac:z=true:=by rw[<-i.o];simp[hw,hq]
     have N:=dT hq;go_wp2_with(first
      |(go_at_call 227;refine(pI ⟨d,F⟩ _).bC ?_;rintro e L⟨rfl,rfl⟩;rw[ah.o])
      |(go_at_call 228;refine HC.o.bC ?_;rintro e R⟨rfl,c4⟩;rw[K.o];have G:=(V.alloc V.size (bH (cT ⟨d,F⟩) 81)).bu (c4.bC (V.alloc V.size _).size)))
     go_ret;exact⟨by rw[show vX ms na holds bal bal2 l=true from ar.o ac];rfl,G⟩
    ·have ac:z=false:=by rw[<-i.o];simp[hq]
     have N:=dF hq;go_wp2_with(first
      |(go_at_call 227;refine(pI ⟨d,F⟩ _).bC ?_;rintro e L⟨rfl,rfl⟩;rw[ah.o])
      |(go_at_call 228;refine HC.o.bC ?_;rintro e R⟨rfl,c4⟩;rw[K.o];have G:=(V.alloc V.size (bH (cT ⟨d,F⟩) 81)).bu (c4.bC (V.alloc V.size _).size)))
     go_roundw;exact⟨k+1,af,aw,G,X.o ac⟩;exact aV
   ·have hd:=dF hw;have ac:z=false:=by rw[<-i.o];simp[hw]
    go_wp2_with(go_at_call 227;refine(pI ⟨d,F⟩ _).bC ?_;rintro e L⟨rfl,rfl⟩;rw[ah.o]);exact QcQ
 ·have aA:¬(k<(l:Int)):=af;have I:=aa (PM (uy ms na holds bal bal2) l (fun j h=>al.o j af h));go_wp2;go_ret;exact⟨by rw[show vX ms na holds bal bal2 l=false from I.o];rfl,ab⟩
def ni(ms na:Nat)(holds:List RH)(bal:List Int)(l:List En):Int×List Int:=if(mm ms na bal l).1≠0 then((mm ms na bal l).1,bal)else if vX ms na holds bal (mm ms na bal l).2 l then(13,bal)else(0,(mm ms na bal l).2)
def Hd(B gv gb gh:Nat)(vb vh:Value)(ms na:Nat)(bal:List Int)(dd room:Int)(holds:List RH)(K:List Nat)(r:Int×List Int)(w:World)(e:Ending)(w':World):Prop:=∃gb' vb' posted',e=.returned r.1/\gY w' B gv gb' gh vb' vh ms na r.2 posted' room holds/\cg B [184] K w w'
def He{na:Nat}:(mm ms na bal l).2.length=bal.length:=by
 unfold mm;split
 ·rfl
 ·split
  ·rfl
  ·unfold rb;have:∀(A:bF Ch) (b:bF Int),(A.foldl (fun b x=>b.set x.place.toNat x.now) b).length=b.length:=by
    intro A;induction A with
    |nil=>intro b;rfl
    |cons c A ih=>intro b;rw[qX,ih,js]
   exact this _ _
def Hf(B gv gb gh:Nat)(vb vh v:bE)(ms na:Nat)(hms:ms<=16)(hna:na<=9)(bal:bF Int)(hl:bal.length=na*(6+3*ms))(hbl:ep bal)(dd room:Int)(holds:bF RH)(hn:holds.length<=1000)(l:bF En)(K:bF Nat)(w:bD)(hV:gY w B gv gb gh vb vh ms na bal dd room holds)(hv:Sl lW 4 w v l)(hnl:l.length<=1000000)(h64:∀x∈l,bO x.bJ)(hK:gv∉K)(hBw:B<=w):
  bG 141 #[ptr gv,v] w (Hd B gv gb gh vb vh ms na bal dd room holds K (ni ms na holds bal l) w):=by
 have ac:na*(6+3*ms)<=9*54:=qm hna af;let⟨M,g⟩:=Jh2 hV hv;have p0:=hV.blk.c 0;have N:=He (ms:=ms) (na:=na) (bal:=bal) (l:=l);let⟨⟨m,h⟩,D⟩:∃r,mm ms na bal l=r:=⟨_,rfl⟩;have C:Hid (ni ms na holds bal l=if m≠0 then(m,bal)else if vX ms na holds bal h l then(13,bal)else(0,h)):=aa (by unfold ni;rw[D]);rw[D]at N;have q:=aa D;obtain⟨a,U,rfl,_⟩:=hv;clear hV D;by_cases R:m=0
 ·subst R;cases hbe:vX ms na holds bal h l with
  |true=>
   have J:=aa hbe;have n:Hid (ni ms na holds bal l=(13,bal)):=aa (by rw[C.o,hbe];rfl);clear hbe C;go_enter func141,ntmps141;go_wp2_with(first
  |(go_at_call 177;refine(CG B gb vb ms na bal dd _ M.o.book af).bC ?_;rintro e i⟨s,G,rfl,W,y,b⟩;have Z:=aa W;have j:=aa (M.o.keep b);have u:=aa (g.o.keep b);clear W)
  |(go_at_call 178;refine(Cv w s G _ ms na bal dd hms hna hl hbl l _ Z.o y b.size u.o hnl h64).bC ?_;rintro e X⟨rfl,f,V⟩;rw[q.o]at V;have P:=aa V;rw[q.o];have L:=b.bu f;have I:=aa (M.o.keep L);have t:=aa (g.o.keep L);clear V b f Z)
  |(go_at_call 179;refine(Hc B gv gb gh s w vb vh G _ ms na hms hna bal h hl af dd _ room holds hn l _ I.o P.o t.o).bC ?_;rintro e O⟨rfl,F⟩;rw[J.o]))
   go_ret;have Q:=L.bu (F.bC L.size);rw[n.o];exact⟨gb,vb,dd,rfl,M.o.keep Q,cg.below Q⟩
  |false=>
   have J:=aa hbe;have n:Hid (ni ms na holds bal l=(0,h)):=aa (by rw[C.o,hbe];rfl);clear hbe C;go_enter func141,ntmps141;go_wp2_with(first
  |(go_at_call 177;refine(CG B gb vb ms na bal dd _ M.o.book af).bC ?_;rintro e i⟨s,G,rfl,W,y,b⟩;have Z:=aa W;have j:=aa (M.o.keep b);have u:=aa (g.o.keep b);clear W)
  |(go_at_call 178;refine(Cv w s G _ ms na bal dd hms hna hl hbl l _ Z.o y b.size u.o hnl h64).bC ?_;rintro e X⟨rfl,f,V⟩;rw[q.o]at V;have P:=aa V;rw[q.o];have L:=b.bu f;have I:=aa (M.o.keep L);have t:=aa (g.o.keep L);clear V b f Z)
  |(go_at_call 179;refine(Hc B gv gb gh s w vb vh G _ ms na hms hna bal h hl af dd _ room holds hn l _ I.o P.o t.o).bC ?_;rintro e O⟨rfl,F⟩;rw[J.o];have Q:=L.bu (F.bC L.size);have H:=aa (M.o.keep Q);have S:=aa (P.o.keep F);clear F;have A:=H.o.blk.c 0;have z:=H.o.blk.free 0))
   go_ret;rw[n.o];have ab:=M.o.blk.lt;have E:=H.o;have p:gv≠s:=fun e=>by
    have:=S.o.blk
    rw[<-e]at this;have T:=E.blk;unfold bI at this T;rw[this]at T;simp at T
   refine⟨s,G,_,rfl,⟨E.blk.set 0 _,⟨S.o.blk.far 0 _ p.symm, ?_⟩,E.hblk.far 0 _ ?_, ?_,E.l1, ?_,E.l3⟩,(cg.below Q).bu (cg.set E.blk au E.l1 hK)⟩
   ·exact ed (d8 S.o.own hBw) fun k hk=>fV _ _ _ _ (fp E.blk S.o.own ah k hk)
   ·intro e;have d:=E.hblk;have T:=E.blk;rw[e]at d;unfold bI at d T;rw[d]at T;simp at T
   ·exact ed E.hown fun k hk=>fV _ _ _ _ (fp E.blk E.hown ah k hk)
   ·omega
 ·have Y:(m !=0)=true:=aG R;have n:Hid (ni ms na holds bal l=(m,bal)):=aa (by rw[C.o,yc R]);clear C R;go_enter func141,ntmps141;go_wp2_with(first
  |(go_at_call 177;refine(CG B gb vb ms na bal dd _ M.o.book af).bC ?_;rintro e i⟨s,G,rfl,W,y,b⟩;have Z:=aa W;have j:=aa (M.o.keep b);have u:=aa (g.o.keep b);clear W)
  |(go_at_call 178;refine(Cv w s G _ ms na bal dd hms hna hl hbl l _ Z.o y b.size u.o hnl h64).bC ?_;rintro e X⟨rfl,f,V⟩;rw[q.o]at V;have P:=aa V;rw[q.o];have L:=b.bu f;have I:=aa (M.o.keep L);have t:=aa (g.o.keep L);clear V b f Z))
  go_ret;rw[n.o];exact⟨gb,vb,dd,rfl,I.o,cg.below L⟩
def vY(a b:Ac)(bK bJ:Int):List En:=[⟨a.k,a.m,bK,-bJ⟩,⟨b.k,b.m,bK,bJ⟩]
def qp(ms na:Nat)(holds:List RH)(bal:List Int)(a b:Ac)(bK bJ:Int):Int×List Int:=if bJ<0 then(1,bal)else ni ms na holds bal (vY a b bK bJ)
def Sl.two{y:En}(h:bI w g 231 #[x.k,x.m,x.bK,x.bJ,y.k,y.m,y.bK,y.bJ]):Sl lW 4 w (.slice (some (be g 0)) 2 2) [x,y]:=
 ⟨some (be g 0),2,rfl,(fun h=>by cases h),au,az,fun _=>⟨g,0,rfl,h.lt,fun i hi j u hu=>by
  have hj:j<4:=by
   have:=(ada.1 hu).1
   simpa[lW]using this
  have C:i<2:=aG hi;rw[h.c];rcases(show i=0∨i=1 from af)with rfl|rfl
  ·rcases(show j=0∨j=1∨j=2∨j=3 from af)with rfl|rfl|rfl|rfl<;>simpa[lW]using hu
  ·rcases(show j=0∨j=1∨j=2∨j=3 from af)with rfl|rfl|rfl|rfl<;>simpa[lW]using hu⟩⟩
def PN(B gv gb gh:Nat)(vb vh:bE)(ms na:Nat)(hms:ms<=16)(hna:na<=9)(bal:bF Int)(hl:bal.length=na*(6+3*ms))(hbl:ep bal)(dd room:Int)(holds:bF RH)(hn:holds.length<=1000)(K:bF Nat)(w:bD)(hV:gY w B gv gb gh vb vh ms na bal dd room holds)(hK:gv∉K)(hBw:B<=w)(a b:Ac)(bK bJ:Int)(h64:bO bJ):
  bG 167 #[ptr gv,fo a,fo b,bK,bJ] w (Hd B gv gb gh vb vh ms na bal dd room holds K (qp ms na holds bal a b bK bJ) w):=by
 obtain⟨k,U⟩:=a;obtain⟨t,J⟩:=b;let⟨g,v⟩:∃g,g=(w.alloc (bH (cT ⟨k,U⟩) 81)).alloc (bH (cT ⟨t,J⟩) 81):=⟨_,rfl⟩;have z:Bw w g:=by rw[v];exact aI.alloc au _
 by_cases r:bJ<0
 ·have l:=dT r;have D:Hid (qp ms na holds bal ⟨k,U⟩ ⟨t,J⟩ bK bJ=(1,bal)):=aa (by unfold qp;rw[yc r]);let⟨j,s,A⟩:=Jh3 (hV.keep z) z v;clear hV r z v;go_enter func167,ntmps167;go_wp2;go_ret;rw[D.o];have d:=j.o;have c:=s.o;rw[A.o]at d c;exact⟨gb,vb,dd,rfl,d,cg.below c⟩
 ·have l:=dF r;have D:Hid (qp ms na holds bal ⟨k,U⟩ ⟨t,J⟩ bK bJ=ni ms na holds bal (vY ⟨k,U⟩ ⟨t,J⟩ bK bJ)):=aa (by unfold qp;rw[ya r]);have h:∀x∈vY ⟨k,U⟩ ⟨t,J⟩ bK bJ,bO x.bJ:=by
   intro x E;unfold vY at E;unfold bO at*;simp at E;rcases E with rfl|rfl
   ·dsimp only;omega
   ·exact h64
  have C:IntKind.i64.wrap (-bJ)=-bJ:=gI _ (by unfold bO at h64;omega);have F:wrap64 (-bJ)=-bJ:=by unfold bO at h64;unfold wrap64;omega
  have f:Bw w (aZ g #[k,U,bK,(-bJ:Int),t,J,bK,bJ] 231):=z.alloc z.size _;have L:g.heap.size=w.heap.size+1+1:=by rw[v];simp
  have Y:=(Hf B gv gb gh vb vh (.slice (some ⟨g.heap.size,0,none⟩) 2 2) ms na hms hna bal hl hbl dd room holds hn (vY ⟨k,U⟩ ⟨t,J⟩ bK bJ) K _ (hV.keep f) (Sl.two (x:=⟨k,U,bK,-bJ⟩) (y:=⟨t,J,bK,bJ⟩) (bI.new g 231 _)) (by simp[vY]) h hK (bW hBw f.size));rw[L]at Y;have u:=aa Y;clear Y L;have Q:=aa f;subst v;clear hV r z h f;go_enter func167,ntmps167;go_wp2_with(go_at_call 141;refine u.o.bC ?_;rintro e O⟨q,i,m,rfl,p,n⟩);go_ret;rw[D.o];exact⟨q,i,m,rfl,p,(cg.below Q.o).bu n⟩
def PO(l:bF RU)(id:Int)(hs:fK RU.bR l)(h:dJ RU.bR l id=true):∃(hi:dQ RU.bR l id<l),(l[dQ RU.bR l id]).bR=id:=by
 unfold dJ at h;rw[jT]at h;obtain⟨x,a,V⟩:=h;have V:=of_decide_eq_true V;obtain⟨j,J,rfl⟩:=eW a;have s:dQ RU.bR l id=j:=vS RU.bR l id j af (fun k h hk=>by rw[<-V];exact mn hs k j h J hk) (fun k h hk=>by
  rcases fA j k with h1|h1
  ·have:=mn hs j k J h h1;omega
  ·obtain rfl:j=k:=af;omega)
 simp only[s];exact⟨J,V⟩
def PP(l:List RU)(id:Int)(w:World)(e:Ending)(w':World):Prop:=∃x:RU,e=.returned (.tuple #[x.v,aY (if dJ RU.bR l id then 0 else 8)])/\(dJ RU.bR l id=true->x∈l/\x.bR=id)/\Bw w w'
def PR(g:Nat)(room:Int)(v:bE)(l:bF RU)(id:Int)(w:bD)(hb:bI w g 191 #[room,v])(hv:Sl gn 2 w v l)(hn:l.length<=100000)(hs:fK RU.bR l):
  bG 182 #[ptr g,id] w (PP l id w):=by
 have s:Bw w w:=bM _ _;let⟨L,f⟩:=Jh2 (hb.keep s) (hv.keep s);have S:=aa (GZ g v room l id _ L.o f.o af hs);cases hh:dJ RU.bR l id with
 |true=>
  let⟨G,V⟩:=PO l id hs hh;let⟨i,r⟩:=aH (dQ RU.bR l id);have B:=aa r;simp only[r]at G V;have I:=aa (show l[i]∈l/\l[i].bR=id from⟨cZ G,V⟩);have z:=aa hh;obtain⟨a,U,rfl,_,t,d,F⟩:=hv;unfold maxLen at d;obtain⟨b,m,rfl,y,n⟩:=F af;have q:=n i G;generalize l[i]=x at*;have T:Hid (∀j u,(gn x)[j]?=some u->w.cell? ⟨b,m+i*2+j,none⟩=some u):=aa q;have k:0<=(i:Int):=af;have K:i<(l:Int):=af;clear hb hs r hh V n F q;go_enter func182,ntmps182;go_wp2_with(go_at_call 186;refine S.o.bC ?_;rintro e H⟨rfl,C⟩;rw[B.o,z.o];have D:=s.bu (C.bC s.size);have J:=aa (L.o.keep C);have Z:=J.o.c 1;have O:=aa (fun j u hu=>(D.c (p:=⟨b,m+i*2+j,none⟩) y).bu (T.o j u hu));obtain⟨A,E⟩:=CB O.o;clear C);go_ret2;exact⟨x,by rw[z.o];rfl,fun _=>I.o,D⟩
 |false=>
  have z:=aa hh;let⟨i,r⟩:=aH (dQ RU.bR l id);have B:=aa r;clear hb hs hv hh r;go_enter func182,ntmps182;go_wp2_with(go_at_call 186;refine S.o.bC ?_;rintro e H⟨rfl,C⟩;rw[B.o,z.o];have D:=s.bu (C.bC s.size);clear C);go_ret2;refine⟨⟨0,0⟩, ?_, ?_,D⟩
  ·rw[z.o];rfl
  ·intro h;rw[z.o]at h;cases h
def Hg(l:bF RT)(id:Int)(hs:fK RT.bR l)(h:dJ RT.bR l id=true):∃(hi:dQ RT.bR l id<l),(l[dQ RT.bR l id]).bR=id:=by
 unfold dJ at h;rw[jT]at h;obtain⟨x,a,V⟩:=h;have V:=of_decide_eq_true V;obtain⟨j,J,rfl⟩:=eW a;have s:dQ RT.bR l id=j:=vS RT.bR l id j af (fun k h hk=>by rw[<-V];exact mn hs k j h J hk) (fun k h hk=>by
  rcases fA j k with h1|h1
  ·have:=mn hs j k J h h1;omega
  ·obtain rfl:j=k:=af;omega)
 simp only[s];exact⟨J,V⟩
def PS(l:List RT)(id:Int)(w:World)(e:Ending)(w':World):Prop:=∃x:RT,e=.returned (.tuple #[.agg #[x.id,x.dD,x.dE,x.cP,x.cK,x.cF],aY (if dJ RT.bR l id then 0 else 8)])/\(dJ RT.bR l id=true->x∈l/\x.bR=id)/\Bw w w'
def Hh(g:Nat)(room:Int)(v:bE)(l:bF RT)(id:Int)(w:bD)(hb:bI w g 188 #[room,v])(hv:Sl eO 7 w v l)(hn:l.length<=100000)(hs:fK RT.bR l):
  bG 190 #[ptr g,id] w (PS l id w):=by
 have G:Bw w (aZ w #[(),(),(),(),(),()] 58):=aI;let⟨L,f,R⟩:=Jh3 (hb.keep G) (hv.keep G) (bI.new w 58 #[(),(),(),(),(),()]);have HF:=aa (CC g v room l id _ L.o f.o af hs);cases hh:dJ RT.bR l id with
 |true=>
  let⟨Y,V⟩:=Hg l id hs hh;let⟨i,r⟩:=aH (dQ RT.bR l id);have B:=aa r;simp only[r]at Y V;have HM:=aa (show l[i]∈l/\l[i].bR=id from⟨cZ Y,V⟩);have z:=aa hh;obtain⟨a,U,rfl,_,ab,d,F⟩:=hv;unfold maxLen at d;obtain⟨b,m,rfl,y,n⟩:=F af;have D:=n i Y;generalize l[i]=x at*;have T:Hid (∀j u,(eO x)[j]?=some u->w.cell? ⟨b,m+i*7+j,none⟩=some u):=aa D;have k:0<=(i:Int):=af;have ac:i<(l:Int):=af;clear hb hs r hh V n F D;go_enter func190,ntmps190;go_wp2_with(first|(go_at_call 188;refine HF.o.bC ?_;rintro e w1⟨rfl,C⟩;rw[B.o,z.o];have P:=G.bu (C.bC G.size);have J:=aa (L.o.keep C);have Z:=J.o.c 1;have O:=aa (fun j u hu=>(P.c (p:=⟨b,m+i*7+j,none⟩) y).bu (T.o j u hu));obtain⟨A,E,H,q3,N,q5,q6⟩:=vF O.o;have X:=aa (R.o.keep C);clear C)|(refine fQ rfl 58 _ _ rfl rfl w #[x.id,x.dD,x.dE,x.cP,x.cK,x.cF] rfl rfl aj aD _ X.o rfl ?_;intro M s;have q:=aa s;have W:=s.row.c 0;have I:=s.row.c 1;have Q:=s.row.c 2;have K:=s.row.c 3;have t:=s.row.c 4;have S:=s.row.c 5));refine wb (v:=.tuple #[.agg #[x.id,x.dD,x.dE,x.cP,x.cK,x.cF],()]) QcG rfl ?_;exact⟨x,by rw[z.o];rfl,fun _=>HM.o,q.o.low P (bL _)⟩
 |false=>
  have z:=aa hh;let⟨i,r⟩:=aH (dQ RT.bR l id);have B:=aa r;clear hb hs hv hh r;go_enter func190,ntmps190;go_wp2_with(first|(go_at_call 188;refine HF.o.bC ?_;rintro e w1⟨rfl,C⟩;rw[B.o,z.o];have P:=G.bu (C.bC G.size);have X:=aa (R.o.keep C);clear C)|(refine fQ rfl 58 _ _ rfl rfl w #[(),(),(),(),(),()] rfl rfl aj aD _ (X.o.alloc _) rfl ?_;intro M s;have q:=aa s;have W:=s.row.c 0;have I:=s.row.c 1;have Q:=s.row.c 2;have K:=s.row.c 3;have t:=s.row.c 4;have S:=s.row.c 5));refine wb (v:=.tuple #[.agg #[(),(),(),(),(),()],(8:Int)]) QcG rfl ?_;refine⟨⟨0,0,0,0,0,0,0⟩, ?_, ?_,q.o.low (P.alloc P.size _) (bL _)⟩
  ·rw[z.o];rfl
  ·intro h;rw[z.o]at h;cases h
def Hi(l:bF RH)(id:Int)(hs:fK RH.bR l)(h:dJ RH.bR l id=true):∃(hi:dQ RH.bR l id<l),(l[dQ RH.bR l id]).bR=id:=by
 unfold dJ at h;rw[jT]at h;obtain⟨x,a,V⟩:=h;have V:=of_decide_eq_true V;obtain⟨j,J,rfl⟩:=eW a;have s:dQ RH.bR l id=j:=vS RH.bR l id j af (fun k h hk=>by rw[<-V];exact mn hs k j h J hk) (fun k h hk=>by
  rcases fA j k with h1|h1
  ·have:=mn hs j k J h h1;omega
  ·obtain rfl:j=k:=af;omega)
 simp only[s];exact⟨J,V⟩
def PT(l:List RH)(id:Int)(w:World)(e:Ending)(w':World):Prop:=∃x:RH,e=.returned (.tuple #[.agg #[x.cq,x.mem,x.bK,x.bJ],aY (if dJ RH.bR l id then 0 else 8)])/\(dJ RH.bR l id=true->x∈l/\x.bR=id)/\Bw w w'
def vZ(g:Nat)(room:Int)(v:bE)(l:bF RH)(id:Int)(w:bD)(hb:bI w g 227 #[room,v])(hv:Sl eX 5 w v l)(hn:l.length<=100000)(hs:fK RH.bR l):
  bG 308 #[ptr g,id] w (PT l id w):=by
 have G:Bw w (aZ w #[(),(),(),()] 182):=aI;let⟨L,f,R⟩:=Jh3 (hb.keep G) (hv.keep G) (bI.new w 182 #[(),(),(),()]);have S:=aa (CD g v room l id _ L.o f.o af hs);cases hh:dJ RH.bR l id with
 |true=>
  let⟨Y,V⟩:=Hi l id hs hh;let⟨i,r⟩:=aH (dQ RH.bR l id);have B:=aa r;simp only[r]at Y V;have HM:=aa (show l[i]∈l/\l[i].bR=id from⟨cZ Y,V⟩);have z:=aa hh;obtain⟨a,U,rfl,_,t,d,F⟩:=hv;unfold maxLen at d;obtain⟨b,m,rfl,y,n⟩:=F af;have D:=n i Y;generalize l[i]=x at*;have T:Hid (∀j u,(eX x)[j]?=some u->w.cell? ⟨b,m+i*5+j,none⟩=some u):=aa D;have k:0<=(i:Int):=af;have ab:i<(l:Int):=af;clear hb hs r hh V n F D;go_enter func308,ntmps308;go_wp2_with(first|(go_at_call 320;refine S.o.bC ?_;rintro e w1⟨rfl,C⟩;rw[B.o,z.o];have P:=G.bu (C.bC G.size);have J:=aa (L.o.keep C);have Z:=J.o.c 1;have O:=aa (fun j u hu=>(P.c (p:=⟨b,m+i*5+j,none⟩) y).bu (T.o j u hu));obtain⟨A,E,H,q3,N⟩:=xR O.o;have X:=aa (R.o.keep C);clear C)|(refine fQ rfl 182 _ _ rfl rfl w #[x.cq,x.mem,x.bK,x.bJ] rfl rfl aj aD _ X.o rfl ?_;intro M s;have q:=aa s;have W:=s.row.c 0;have I:=s.row.c 1;have Q:=s.row.c 2;have K:=s.row.c 3));refine wb (v:=.tuple #[.agg #[x.cq,x.mem,x.bK,x.bJ],()]) QcO rfl ?_;exact⟨x,by rw[z.o];rfl,fun _=>HM.o,q.o.low P (bL _)⟩
 |false=>
  have z:=aa hh;let⟨i,r⟩:=aH (dQ RH.bR l id);have B:=aa r;clear hb hs hv hh r;go_enter func308,ntmps308;go_wp2_with(first|(go_at_call 320;refine S.o.bC ?_;rintro e w1⟨rfl,C⟩;rw[B.o,z.o];have P:=G.bu (C.bC G.size);have X:=aa (R.o.keep C);clear C)|(refine fQ rfl 182 _ _ rfl rfl w #[(),(),(),()] rfl rfl aj aD _ (X.o.alloc _) rfl ?_;intro M s;have q:=aa s;have W:=s.row.c 0;have I:=s.row.c 1;have Q:=s.row.c 2;have K:=s.row.c 3));refine wb (v:=.tuple #[.agg #[(),(),(),()],(8:Int)]) QcO rfl ?_;refine⟨⟨0,0,0,0,0⟩, ?_, ?_,q.o.low (P.alloc P.size _) (bL _)⟩
  ·rw[z.o];rfl
  ·intro h;rw[z.o]at h;cases h
variable {P:Program}
def zy(w:bD)(dT sT ty elem:TypeId)(g o dLen dCap:Nat)(a:Addr)(sLen sCap:Nat)(cur:Array bE)(t:TypeId)(cs:bF bE)(k n:Nat)(hu:P.underlying dT=some (.slice elem))(hs:(P.info? elem).map (·.size)=some k)(hg:w.heap[g]?=some (.cells cur t (0,0)))(hn:n=Nat.min sLen dLen)(hl:cs.length=n*k)(hsrc:∀j v,cs[j]?=some v->w.cell? (a.add j)=some v)(hfit:o+cs.length<=cur.size)(h1:∀v∈cs,v.oneCell'=true):
  (Builtin.copy_ #[dT,sT] ty #[.slice (some (g,o)) dLen dCap,.slice (some a) sLen sCap]).run P w=
   .ok (goInt n) (w.setRow g (cur.toList.take o++cs++cur.toList.drop (o+cs.length)).toArray):=by
 have c:=run_loadCells_list (P:=P) w a cs hsrc;have b:=run_storeCells_at P g o t cs 0 cur w hg (aG hfit) h1;cases hq:P.info? elem with
 |none=>simp[hq]at hs
 |some i=>
  have p:i.size=k:=by simpa[hq]using hs
  simp[Builtin.copy_,run_underlying hu,Builtin.lenOf,Builtin.firstCells,sizeOf,typeInfo,hq,p,<-hn,<-hl,c,b]
structure jv(w w':World)(B:Nat)(T:TypeId)(k:Nat)(v v':Value)(n:Nat)(xs:List Value):Prop where
 own:w'.ownsRow B T k v' n xs
 grown:w.grownBy w' v.ownBlock
 xj:v'.ownBlock=v.ownBlock∨∃g,w.heap.size<=g/\v'.ownBlock=some g
def zA(w:bD)(g:Nat)(cs:Array bE):w.grownBy (w.setRow g cs) (some g):=⟨rfl,rfl,rfl,by simp[World.setRow],fun k _ hne=>setRow_other w g k cs (fun e=>hne (by rw[e]))⟩
def ef{α:Type}(l:List α)(i:Nat)(x:α):List α:=l.take i++x::l.drop i
def qq{α:Type}(l:bF α)(i:Nat)(x:α)(h:i<=l):(ef l i x).length=l.length+1:=by unfold ef;simp;omega
def PU{α:Type}(l:bF α)(x:α):ef l l x=l++[x]:=by unfold ef;simp
def Hm{α:Type}(enc:α->bF bE)(k:Nat)(hk:∀x,(enc x).length=k)(l:bF α):∀i,(bN enc l).take (i*k)=bN enc (l.take i):=by
 induction l with
 |nil=>intro i;simp[bN]
 |cons c l ih=>
  intro i;cases i with
  |zero=>simp[bN]
  |succ i=>
   have P:bN enc (c::l)=enc c++bN enc l:=aK;rw[P,List.take_append,eU (by rw[hk,pD];omega),hk,show(i+1)*k-k=i*k by rw[pD];omega,ih i];simp[bN]
def Hn{α:Type}(enc:α->bF bE)(k:Nat)(hk:∀x,(enc x).length=k)(l:bF α)(i:Nat):(bN enc l).drop (i*k)=bN enc (l.drop i):=by
 have d:bN enc l=bN enc (l.take i)++bN enc (l.drop i):=by rw[<-ox,rV]
 rw[d];by_cases p:i<=l
 ·rw[List.drop_append,xw (by rw[ik enc k hk,dx,ll p];exact bL _),ik enc k hk,dx,ll p,ue];rfl
 ·have c:l.drop i=[]:=xw af;have a:l.take i=l:=eU af;rw[c,a,xw]
  ·rfl
  ·simp only[bN,nH,List.flatten_nil,ix];have:=ik enc k hk l
   unfold bN at this;rw[this];exact lT k af
def Ho{α:Type}(enc:α->bF bE)(k:Nat)(hk:∀x,(enc x).length=k)(l:bF α)(i:Nat)(x:α):bN enc (ef l i x)=(bN enc l).take (i*k)++enc x++(bN enc l).drop (i*k):=by rw[Hm enc k hk,Hn enc k hk];unfold ef;simp[bN]
variable{cur ex A1 A2:bF bE}{i:Nat}
def PV(hx:cur.take (n*k)=xs)(hxl:xs.length=n*k)(hi:i<=n)(he:ex.length=k)(hroom:(n+1)*k<=cur)(h1:A1=cur.take ((i+1)*k)++xs.drop (i*k)++cur.drop ((i+1)*k+(xs.drop (i*k)).length))(h2:A2=A1.take (i*k)++ex++A1.drop (i*k+ex.length)):
  A1.length=cur.length/\A2.length=cur.length/\A2.take ((n+1)*k)=xs.take (i*k)++ex++xs.drop (i*k):=by
 have Z:i*k<=n*k:=lT k hi;have o:(i+1)*k=i*k+k:=pD i k;have r:(n+1)*k=n*k+k:=pD n k;have l:(xs.drop (i*k)).length=n*k-i*k:=by rw[fc,hxl]
 have y:A1.length=cur.length:=by
  rw[h1];simp only[cO,dx,fc,hxl];omega
 have Y:A2.length=cur.length:=by
  rw[h2];simp only[cO,dx,fc,y,he];omega
 refine⟨y,Y, ?_⟩;apply mR;intro j;rw[pz];by_cases J:j<(n+1)*k
 ·rw[yc J,h2];by_cases G:j<i*k
  ·rw[fz,om Qb3,pz,yc G,fz,om Qbh,pz,yc G,h1,
    fz,om aM,pz,yc af,<-hx,pz,yc af]
  ·by_cases g:j<i*k+k
   ·rw[fz,qU Qb3,dx,y,ll af,om af,
     fz,qU Qbh,dx,hxl,ll af,om af]
   ·rw[qU (by simp only[cO,dx,y,he];omega),qU (by simp only[cO,dx,hxl,he];omega)];simp only[cO,dx,y,hxl,he,ll Z,ll (show i*k<=cur.length from af)];rw[AY,h1,fz,qU aM,dx,ll af,om (by rw[l];omega)];congr 1;omega
 ·rw[ya J,pC];simp only[cO,dx,fc,hxl,he];omega
def PW{R:bF bE}(hx:R.take (i*k)=xs.take (i*k))(hxl:xs.length=n*k)(hi:i<=n)(he:ex.length=k)(hroom:(n+1)*k<=R)(h1:A1=R.take (i*k)++ex++R.drop (i*k+ex.length))(h2:A2=A1.take ((i+1)*k)++xs.drop (i*k)++A1.drop ((i+1)*k+(xs.drop (i*k)).length)):
  A1.length=R.length/\A2.length=R.length/\A2.take ((n+1)*k)=xs.take (i*k)++ex++xs.drop (i*k):=by
 have Z:i*k<=n*k:=lT k hi;have o:(i+1)*k=i*k+k:=pD i k;have r:(n+1)*k=n*k+k:=pD n k;have l:(xs.drop (i*k)).length=n*k-i*k:=by rw[fc,hxl]
 have y:A1.length=R.length:=by
  rw[h1];simp only[cO,dx,fc,he];omega
 have Y:A2.length=R.length:=by
  rw[h2];simp only[cO,dx,fc,y,hxl];omega
 refine⟨y,Y, ?_⟩;apply mR;intro j;rw[pz];by_cases J:j<(n+1)*k
 ·rw[yc J,h2];by_cases G:j<i*k+k
  ·rw[fz,om Qb3,pz,yc af,h1];by_cases a:j<i*k
   ·rw[fz,om aM,hx,fz,om Qbh]
   ·rw[fz,qU aM,dx,ll af,om af,
     fz,qU Qbh,dx,hxl,ll af,om af]
  ·rw[fz,qU Qb3,dx,y,ll af,om (by rw[l];omega),
    qU (by simp only[cO,dx,hxl,he];omega)]
   simp only[cO,dx,hxl,he,ll Z];congr 1;omega
 ·rw[ya J,pC];simp only[cO,dx,fc,hxl,he];omega
def PY(w:bD)(t ty elem:TypeId)(g sLen sCap:Nat)(a:Addr)(m c:Nat)(cur:Array bE)(T:TypeId)(cs:bF bE)(i:TypeInfo)(hu:P.underlying t=some (.slice elem))(hi:P.info? elem=some i)(hg:w.heap[g]?=some (.cells cur T (0,0)))(hl:cs.length=m*i.size)(hsrc:∀j v,cs[j]?=some v->w.cell? (a.add j)=some v)(hroom:sLen+m<=sCap)(hfit:sLen*i.size+cs.length<=cur.size)(h1:∀v∈cs,v.oneCell'=true):
  (Builtin.append_ #[t,t] ty #[.slice (some (be g 0)) sLen sCap,.slice (some a) m c]).run P w=
   .ok (.slice (some (be g 0)) (sLen+m) sCap) (w.setRow g (cur.toList.take (sLen*i.size)++cs++cur.toList.drop (sLen*i.size+cs.length)).toArray):=by
 have d:=run_firstCells_some (P:=P) w i.size m a m c cs hl hsrc;have b:=run_storeCells_at P g (sLen*i.size) T cs 0 cur w hg (aG hfit) h1;simp only[gg]at b;simp[Builtin.append_,run_underlying hu,sizeOf,typeInfo,hi,Builtin.lenOf,hroom,d,iX,b]
def PZ(w:bD)(t e ty:TypeId)(z:bE)(hu:P.underlying t=some (.slice e))(hv:∀w,(zeroValue e).run P w=.ok z w)(hz1:∀u∈(Builtin.zeroCells z.cells 1).toList,u.oneCell'=true)(g o c:Nat)(cur:Array bE)(T:TypeId)(hg:w.heap[g]?=some (.cells cur T (0,0)))(hfit:o+(Builtin.zeroCells z.cells 1).toList.length<=cur.size):
  (Builtin.clear_ #[t] ty #[.slice (some (g,o)) 1 c]).run P w=.ok (.tuple #[]) (w.setRow g (cur.toList.take o++(Builtin.zeroCells z.cells 1).toList++cur.toList.drop (o+(Builtin.zeroCells z.cells 1).toList.length)).toArray):=by
 have a:=run_storeCells_at P g o T (Builtin.zeroCells z.cells 1).toList 0 cur w hg (aG hfit) hz1;simp only[gg]at a;simp[Builtin.clear_,run_underlying hu,hv,a]
def Qa{zs:bF bE}(hx:cur.take (n*k)=xs)(hxl:xs.length=n*k)(hi:i<n)(hz:zs.length=k)(hcap:n*k<=cur)(h1:A1=cur.take (i*k)++xs.drop ((i+1)*k)++cur.drop (i*k+(xs.drop ((i+1)*k)).length))(h2:A2=A1.take ((n-1)*k)++zs++A1.drop ((n-1)*k+zs.length)):
  A1.length=cur.length/\A2.length=cur.length/\A2.take ((n-1)*k)=xs.take (i*k)++xs.drop ((i+1)*k):=by
 obtain⟨m,rfl⟩:∃m,n=m+1:=⟨n-1,af⟩;rw[yP]at*;have Z:(i+1)*k<=(m+1)*k:=lT k af;have o:(i+1)*k=i*k+k:=pD i k;have r:(m+1)*k=m*k+k:=pD m k;have l:(xs.drop ((i+1)*k)).length=m*k-i*k:=by rw[fc,hxl];omega
 have y:A1.length=cur.length:=by
  rw[h1];simp only[cO,dx,fc,hxl];omega
 have Y:A2.length=cur.length:=by
  rw[h2];simp only[cO,dx,fc,y,hz];omega
 refine⟨y,Y, ?_⟩;rw[h2,fz,FA Qb3,List.take_take,Nat.min_self,h1,<-hx];rw[List.take_take,ll af,FA (by
  simp only[cO,dx,fc];omega),eU (by
  simp only[cO,dx,fc];omega)]
def mq{α:Type}(l:List α)(i:Nat):List α:=l.take i++l.drop (i+1)
def CH{α:Type}(l:bF α)(i:Nat)(h:i<l):(mq l i).length=l.length-1:=by unfold mq;simp;omega
def Qb{α:Type}(enc:α->bF bE)(k:Nat)(hk:∀x,(enc x).length=k)(l:bF α)(i:Nat):bN enc (mq l i)=(bN enc l).take (i*k)++(bN enc l).drop ((i+1)*k):=by rw[Hm enc k hk,Hn enc k hk];unfold mq;rw[ox]
variable{Q:Exit->Act->bD->Prop}
def Qc(w:bD){o:Oper}{a:Act}{K:Act->bD->Prop}(d s:Operand)(t t':TypeId)(ho:o.op=.call {callee:=.builtin .append,args:=#[d,s],argTypes:=#[t,t']})(v u:bE)(hd:a.eval d=v)(hs:a.eval s=u)(hr:(Builtin.append_ #[t,t'] o.type #[v,u]).run P w=.ok v' w')(h:K (a.put o.dst v') w'):o.wp P a w K Q:=by unfold Oper.wp execOp;simp only[ho,resolve,invoke,builtin,Sem.run_bind,Sem.run_pure,Result.andThen_ok,List.map_toArray,eu,nH,hd,hs,hr];exact h
def Qd{ops:Array Oper}{o:Oper}{a:Act}{K:Act->bD->Prop}{E:Prop}(hg:o.guard=none)(d x:Operand)(dT sT:TypeId)(hop:o.op=Op.call {callee:=Callee.builtin Builtin.append,args:=#[d,x],argTypes:=#[dT,sT]})(v u:bE)(hd:a.eval d=v)(hx:a.eval x=u)(hr:(Builtin.append_ #[dT,sT] o.type #[v,u]).run P w=.ok v' w')(hK:K (a.put o.dst v') w'):
  if Region.wanted o (yielded ops a.tmps)=true then Oper.wp P o a w K Q else E:=by
 have T:Region.wanted o (yielded ops a.tmps)=true:=by simp[Region.wanted,hg]
 rw[yc T];exact Qc w d x dT sT hop v u hd hx hr hK
variable{p:Prop}
def CI(h:p:=by kernel_rfl):p:=h
def CL(h:p:=by
 let⟨i0,hi,hz0,hz1,hz2⟩:=wm nn;let⟨HO,HX⟩:=Jh2 ho (sa hvb);have HI:Hid (l++[x]=ef l l x):=aa (by rw[PU]);have HLN:=aa (qq l l x (bL _));have hf:=bV ho;obtain⟨a,cap,rfl⟩:=hf;have hcap:l.length<=cap/\cap<=maxLen/\(a=none->cap=0):=by
  obtain⟨_,h2⟩:=ho;rcases h2 with⟨h2,h0⟩|⟨g,c,cur,h2,_,_,h3,h4,_⟩
  ·simp at h2;unfold maxLen;omega
  ·simp at h2;exact⟨af,af,by simp[h2.1]⟩
 obtain⟨hc1,hc2,hc3⟩:=hcap;have hsl:(Instr.slice (SS:Nat) (.slice a l cap) (some (.int .i64 l)) none none).run prog w=.ok (.slice (oH a cap l (KK:Nat)) 0 (cap-l.length)) w:=by
  cases a with
  |none=>
   obtain rfl:=hc3 rfl;have h0:l.length=0:=af;rw[h0];simp[oH,go_sem,uu]
  |some ad=>
   unfold oH;unfold maxLen at hc2;by_cases hc:cap=l.length
   ·rw[yc hc];simp[go_sem,uu,ss,hc]
   ·rw[ya hc];simp[go_sem,uu,ss,hc,hc1]
 unfold maxLen at hc2;clear ho hvb hc3;go_enter f1,f2;go_wp2_with(at_builtin;refine fG kk ah oo _ rfl _ _ (SS:Nat) rfl B (TT:Nat) i0 (.agg zq) (BY:Nat) uu hi hz0 hz1 hz2 aB (.slice a l cap) l rfl HO.o (some ⟨vb,0,none⟩) 1 [x] rfl HX.o aP aO hB ?_;intro v' w2 hown hgrow hat);rw[HI.o,HLN.o]at hown;have hf2:=bV hown;obtain⟨a2,c2,rfl⟩:=hf2;go_wp2;go_ret;refine⟨_,rfl,hown,hgrow, ?_⟩;rcases hat with h|h
 ·exact bS h
 ·exact ci ⟨_,bL _,h⟩):p:=h
def CM(h:p:=by
 have HFI:=aa (Ho ee (KK:Nat) kk l i x);have hxl:=ik ee (KK:Nat) kk l;let⟨xs,hxs⟩:=aH (bN ee l);have hone:∀u∈xs,u.oneCell'=true:=by rw[<-hxs];exact lE oo l
 rw[hxs]at htake hxl HFI;have hil:=qq l i x af;let⟨n,hnl⟩:=aH l.length;rw[hnl]at htake hxl hi hroom hn hil⊢;have h7:(cur.size=cap*(KK:Nat)):=hcur;have hcl:cur.toList.length=cap*(KK:Nat):=aG hcur;have hm1:(n+1)*(KK:Nat)<=cap*(KK:Nat):=lT (KK:Nat) hroom;let⟨A1,hA1⟩:∃A1,A1=cur.toList.take ((i+1)*(KK:Nat))++xs.drop (i*(KK:Nat))++cur.toList.drop ((i+1)*(KK:Nat)+(xs.drop (i*(KK:Nat))).length):=⟨_,rfl⟩;let⟨A2,hA2⟩:∃A2,A2=A1.take (i*(KK:Nat))++ee x++A1.drop (i*(KK:Nat)+(ee x).length):=⟨_,rfl⟩;obtain⟨hl1,hl2,hfin⟩:=PV (ex:=ee x) htake hxl af (kk x) (by rw[hcl];exact hm1) hA1 hA2;let⟨W1,hW1⟩:∃W1,W1=w.drew.setRow g A1.toArray:=⟨_,rfl⟩;have hg1:W1.heap[g]?=some (.cells A1.toArray (TT:Nat) (0,0)):=by rw[hW1];exact setRow_heap w.drew g cur A1.toArray (TT:Nat) (0,0) hg
 have hsrc1:∀(j:Nat) (u:bE),(xs.drop (i*(KK:Nat)))[j]?=some u->w.drew.cell? ((⟨g,i*(KK:Nat),none⟩:Addr).add j)=some u:=fun j u hu=>by
  rw[iX];rw[AY,<-htake,pz]at hu;split at hu
  ·simp only[World.cell?];rw[show w.drew.heap[g]?=some (.cells cur (TT:Nat) (0,0))from hg];simpa using hu
  ·cases hu
 have hsrc2:∀(j:Nat) (u:bE),(ee x)[j]?=some u->W1.cell? ((⟨vb,0,none⟩:Addr).add j)=some u:=fun j u hu=>by
  rw[iX,fW];have e:W1.cell? ⟨vb,j,none⟩=w.cell? ⟨vb,j,none⟩:=by
   rw[hW1];exact tV (setRow_other w.drew g vb A1.toArray hne)
  rw[e,hvb.c j];simpa[gn,eO,eX]using hu
 have hcp1:∀ty dc sc,(Builtin.copy_ #[(SS:Nat),(SS:Nat)] ty #[.slice (some ⟨g,(i+1)*(KK:Nat),none⟩) (n-i) dc,.slice (some ⟨g,i*(KK:Nat),none⟩) (n+1-i) sc]).run prog w.drew=.ok (goInt (n-i:Nat)) W1:=fun ty dc sc=>by
  have h:=zy (P:=prog) w.drew (SS:Nat) (SS:Nat) ty (TT:Nat) g ((i+1)*(KK:Nat)) (n-i) dc ⟨g,i*(KK:Nat),none⟩ (n+1-i) sc cur (TT:Nat) (xs.drop (i*(KK:Nat))) (KK:Nat) (n-i) uu zz hg aT (by rw[fc,hxl,FD]) hsrc1 (by rw[fc,hxl,<-hcl]at*;simp at*;omega) (fun u hu=>hone u (tW hu));rw[h,hW1,hA1]
 have hcp2:∀ty dc,(Builtin.copy_ #[(SS:Nat),(SS:Nat)] ty #[.slice (some ⟨g,i*(KK:Nat),none⟩) (n+1-i) dc,.slice (some ⟨vb,0,none⟩) 1 1]).run prog W1=.ok (goInt (1:Nat)) (W1.setRow g A2.toArray):=fun ty dc=>by
  have h:=zy (P:=prog) W1 (SS:Nat) (SS:Nat) ty (TT:Nat) g (i*(KK:Nat)) (n+1-i) dc ⟨vb,0,none⟩ 1 1 A1.toArray (TT:Nat) (ee x) (KK:Nat) 1 uu zz hg1 aT (by rw[kk]) hsrc2 (by rw[kk];simp only[mN,hl1,hcl];omega) (oo x);rw[h,hA2]
 have hov:∀lb cb,(callFunc (OV:Nat) #[.slice (some ⟨vb,0,none⟩) 1 1,.slice (some ⟨g,(i+1)*(KK:Nat),none⟩) lb cb]).run prog w=.ok (.value (.bool false)) w:=fun lb cb=>by
  rw[run_callFunc_extern f3 aj aj aj (e:=Extern.SlicesOverlaps.overlaps #[(SS:Nat),(SS:Nat)] #[4]) aj,
   Lib.run_overlaps_apart w (SS:Nat) 4 (TT:Nat) uu (KK:Nat) ss ⟨vb,0,none⟩ ⟨g,(i+1)*(KK:Nat),none⟩ 1 1 lb cb hne (TT:Nat) (TT:Nat) (KK:Nat) cur.size (by unfold bI at hvb;simp[World.shape?,hvb]) (by simp[World.shape?,hg]) af (hvb.free 0) (hvb.free (KK:Nat))]
  rfl
 have HFIN:Hid (jv w (W1.setRow g A2.toArray) B (TT:Nat) (KK:Nat) (.slice (some ⟨g,0,none⟩) n cap) (.slice (some ⟨g,0,none⟩) (n+1) cap) (n+1) (bN ee (ef l i x))):=aa (by
  refine⟨⟨by rw[ik ee (KK:Nat) kk,hil],ci ⟨g,cap,A2.toArray,rfl,hB,setRow_heap W1 g A1.toArray A2.toArray (TT:Nat) (0,0) hg1,hroom,hcm,by simp[hl2,hcur], ?_⟩⟩, ?_,bS rfl⟩
  ·rw[HFI.o];exact hfin
  ·have g1:=zA w.drew g A1.toArray;have g2:=zA W1 g A2.toArray;rw[<-hW1]at g1;exact⟨g2.os.bu g1.os,g2.tape.bu g1.tape,g2.output.bu g1.output,bW g1.size g2.size,fun k hk hne=>(g2.block k (iN hk g1.size) hne).bu (g1.block k hk hne)⟩)
 let⟨W2,hW2⟩:∃W2,W2=W1.setRow g A2.toArray:=⟨_,rfl⟩;rw[<-hW2]at hcp2 HFIN;have hz2:¬(i=(n:Int)):=af;have hw1:IntKind.i64.wrap ((i:Int)+1)=(i:Int)+1:=gI _ af;have htn:((i:Int)+1).toNat=i+1:=af;have hb1:(0:Int)<=(i:Int)+1:=af;have hin:i<=n:=af;have hb2:¬(cap=i+1):=af;have hb3:(i:Int)<=(n:Int)+1:=af;have hb4:¬(cap=i):=af;have hgt:decide ((cap:Int)<(n:Int)+1)=false:=dF af;unfold maxLen at hcm;clear hg hcur htake hone hxs hxl hil hnl hcl hm1 hA1 hA2 hl1 hl2 hfin hW1 hg1 hsrc1 hsrc2 hvb hne h7 HFI hW2;go_enter f1,f2;go_wp2_with(simp only[hov]);go_region_law(refine Hl rfl _ _ (SS:Nat) (SS:Nat) rfl _ _ aS aS (hcp1 _ _ _) ?_);go_wp2_with(at_builtin;refine Hk _ rfl _ _ (SS:Nat) (SS:Nat) rfl _ _ rfl rfl (hcp2 _ _) ?_);go_ret;exact⟨_,rfl,HFIN.o⟩):p:=h
def CO(h:p:=by
 let⟨i0,hi0,hz0,hzs,hzb⟩:=wm nn;have hglt:g<w:=by
  rcases fA g w with h'|h'
  ·exact h'
  ·simp[qT h']at hg
 have hvlt:=hvb.lt;have HFI:=aa (Ho ee (KK:Nat) kk l i x);have hxl:=ik ee (KK:Nat) kk l;let⟨xs,hxs⟩:=aH (bN ee l);have hone:∀u∈xs,u.oneCell'=true:=by rw[<-hxs];exact lE oo l
 rw[hxs]at htake hxl HFI;have hil:=qq l i x af;let⟨n,hnl⟩:=aH l.length;rw[hnl]at htake hxl hi hroom hn hil hnc⊢;have hm:i*(KK:Nat)<=n*(KK:Nat):=lT (KK:Nat) af;have hcell:∀(j:Nat) (u:bE),xs[j]?=some u->w.cell? ⟨g,j,none⟩=some u:=fun j u hu=>by
  rw[<-htake,pz]at hu;split at hu
  ·simp only[World.cell?];rw[hg];simpa using hu
  ·cases hu
 have hkk:(n:Int)+1-i=((n+1-i:Nat):Int):=af;have hik:i+(n+1-i)=n+1:=af;have hold:(Builtin.firstCells i0.size i (.slice (some ⟨g,0,none⟩) i cap)).run prog w.drew=.ok (xs.take (i*(KK:Nat))).toArray w.drew:=by
  rw[hzs];exact run_firstCells_some w.drew (KK:Nat) i ⟨g,0,none⟩ i cap (xs.take (i*(KK:Nat))) Qbh (fun j u hj=>by
   rw[iX,fW];rw[pz]at hj;split at hj
   ·exact hcell j u hj
   ·cases hj)
 have hrz:∀ty,(Builtin.append_ #[(SS:Nat),3] ty #[.slice (some ⟨g,0,none⟩) i cap,aY ((n:Int)+1-(i:Int))]).run prog w=
   .ok (.slice (some ⟨w,0,none⟩) (n+1) (grownCap w (n+1) cap (TT:Nat))) (w.drew.alloc (.cells ((xs.take (i*(KK:Nat))).toArray++Builtin.zeroCells (Value.agg zq).cells (n+1-i)++Builtin.zeroCells (Value.agg zq).cells (grownCap w (n+1) cap (TT:Nat)-(n+1))) (TT:Nat))):=fun ty=>by
  have h:=Lib.run_append_grow_zeros w (SS:Nat) 3 ty (TT:Nat) i0 _ .i64 .i64 uu underlying3 hi0 hz0 (some ⟨g,0,none⟩) i cap (xs.take (i*(KK:Nat))) hold (n+1-i) af af af af (by rw[hzb];omega) (by rw[hzb,hik];exact growslice_fits hroom af);rw[hik]at h;rw[hkk];exact h
 let⟨G,hG⟩:∃G,G=grownCap w (n+1) cap (TT:Nat):=⟨_,rfl⟩;let⟨ROW,hROW⟩:∃ROW:Array bE,ROW=(xs.take (i*(KK:Nat))).toArray++Builtin.zeroCells (Value.agg zq).cells (n+1-i)++Builtin.zeroCells (Value.agg zq).cells (G-(n+1)):=⟨_,rfl⟩;rw[<-hG]at hrz;rw[<-hROW]at hrz;have hGn:n+1<=G:=by rw[hG];exact grownCap_ge w _ _ _
 have hGm:G<=maxLen:=by rw[hG];exact grownCap_le_maxLen w (n+1) cap (TT:Nat) az
 have hRs:ROW.size=G*(KK:Nat):=by
  rw[hROW];simp[Builtin.zeroCells,Value.cells,hxl];omega
 have hRt:ROW.toList.take (i*(KK:Nat))=xs.take (i*(KK:Nat)):=by
  rw[hROW];simp only[Array.toList_append,fz];rw[FA Qbh];rw[eU Qbh]
 let⟨A1,hA1⟩:∃A1,A1=ROW.toList.take (i*(KK:Nat))++ee x++ROW.toList.drop (i*(KK:Nat)+(ee x).length):=⟨_,rfl⟩;let⟨A2,hA2⟩:∃A2,A2=A1.take ((i+1)*(KK:Nat))++xs.drop (i*(KK:Nat))++A1.drop ((i+1)*(KK:Nat)+(xs.drop (i*(KK:Nat))).length):=⟨_,rfl⟩;have hm2:(n+1)*(KK:Nat)<=G*(KK:Nat):=lT (KK:Nat) hGn;have hRl:ROW.toList.length=G*(KK:Nat):=aG hRs;obtain⟨hl1,hl2,hfin⟩:=PW (ex:=ee x) hRt hxl af (kk x) (by rw[hRl];exact hm2) hA1 hA2;let⟨N,hN⟩:=aH w.heap.size;rw[hN]at hrz hglt hvlt hB;let⟨W1,hW1⟩:∃W1,W1=w.drew.alloc (.cells ROW (TT:Nat)):=⟨_,rfl⟩;rw[<-hW1]at hrz;have hb1:W1.heap[N]?=some (.cells ROW (TT:Nat) (0,0)):=by rw[hW1,<-hN];exact heap_alloc_new w.drew _
 have ho1:∀k,k<N->W1.heap[k]?=w.heap[k]?:=fun k hk=>by rw[hW1];exact rU w.drew _ k (by show k<w.heap.size;omega)
 let⟨W2,hW2⟩:∃W2,W2=W1.setRow N A1.toArray:=⟨_,rfl⟩;have hb2:W2.heap[N]?=some (.cells A1.toArray (TT:Nat) (0,0)):=by rw[hW2];exact setRow_heap W1 N ROW A1.toArray (TT:Nat) (0,0) hb1
 have ho2:∀k,k<N->W2.heap[k]?=w.heap[k]?:=fun k hk=>by rw[hW2,setRow_other W1 N k _ af];exact ho1 k hk
 have hcpA:∀ty dc,(Builtin.copy_ #[(SS:Nat),(SS:Nat)] ty #[.slice (some ⟨N,i*(KK:Nat),none⟩) (n+1-i) dc,.slice (some ⟨vb,0,none⟩) 1 1]).run prog W1=.ok (goInt (1:Nat)) W2:=fun ty dc=>by
  have h:=zy (P:=prog) W1 (SS:Nat) (SS:Nat) ty (TT:Nat) N (i*(KK:Nat)) (n+1-i) dc ⟨vb,0,none⟩ 1 1 ROW (TT:Nat) (ee x) (KK:Nat) 1 uu zz hb1 aT (by rw[kk]) (fun j u hu=>by
   rw[iX,fW,tV (ho1 vb hvlt),hvb.c j];simpa[gn,eO,eX]using hu) (by rw[kk,hRs];omega) (oo x)
  rw[h,hW2,hA1]
 have hcpB:∀ty dc sc,(Builtin.copy_ #[(SS:Nat),(SS:Nat)] ty #[.slice (some ⟨N,(i+1)*(KK:Nat),none⟩) (n-i) dc,.slice (some ⟨g,i*(KK:Nat),none⟩) (n-i) sc]).run prog W2.drew=.ok (goInt (n-i:Nat)) (W2.drew.setRow N A2.toArray):=fun ty dc sc=>by
  have h:=zy (P:=prog) W2.drew (SS:Nat) (SS:Nat) ty (TT:Nat) N ((i+1)*(KK:Nat)) (n-i) dc ⟨g,i*(KK:Nat),none⟩ (n-i) sc A1.toArray (TT:Nat) (xs.drop (i*(KK:Nat))) (KK:Nat) (n-i) uu zz hb2 aT (by rw[fc,hxl,FD]) (fun j u hu=>by
   rw[iX,tV (show W2.drew.heap[g]?=w.heap[g]? from ho2 g hglt)];rw[AY]at hu;exact hcell _ u hu) (by rw[fc,hxl];simp only[mN,hl1,hRl];omega) (fun u hu=>hone u (tW hu))
  rw[h,hA2]
 have HFIN:Hid (jv w (W2.drew.setRow N A2.toArray) B (TT:Nat) (KK:Nat) (.slice (some ⟨g,0,none⟩) n cap) (.slice (some ⟨N,0,none⟩) (n+1) G) (n+1) (bN ee (ef l i x))):=aa (by
  refine⟨⟨by rw[ik ee (KK:Nat) kk,hil],ci ⟨N,G,A2.toArray,rfl,hB,setRow_heap W2.drew N A1.toArray A2.toArray (TT:Nat) (0,0) hb2,hGn,hGm,by simp[hl2,hRl], ?_⟩⟩, ?_,ci ⟨N,af,rfl⟩⟩
  ·rw[HFI.o];exact hfin
  ·exact⟨by rw[hW2,hW1];rfl,by rw[hW2,hW1];rfl,by rw[hW2,hW1];rfl,by rw[hW2,hW1];simp[World.setRow],fun k hk _=>(setRow_other W2.drew N k A2.toArray af).bu (ho2 k af)⟩)
 let⟨W3,hW3⟩:∃W3,W3=W2.drew.setRow N A2.toArray:=⟨_,rfl⟩;rw[<-hW3]at hcpB HFIN;have hz2:¬(i=(n:Int)):=af;have hw1:IntKind.i64.wrap ((i:Int)+1)=(i:Int)+1:=gI _ af;have htn:((i:Int)+1).toNat=i+1:=af;have hbb1:(0:Int)<=(i:Int)+1:=af;have hin:i<=n:=af;have hb4:¬(cap=i):=af;have hb5:¬(G=i):=af;have hb6:¬(G=i+1):=af;have hb3:(i:Int)<=(n:Int)+1:=af;have hin3:i<=n+1:=af;have hgt:decide ((cap:Int)<(n:Int)+1)=true:=dT af;unfold maxLen at hGm;clear hg htake hone hxs hxl hil hnl hA1 hA2 hl1 hl2 hfin hW1 hb1 ho1 hb2 ho2 hvb HFI hW2 hW3 hcell hkk hik hold hG hROW hRs hRt hm2 hRl hm;go_enter f1,f2;go_wp2_with(first
  |(at_builtin;refine Lib.wpList_append_run _ rfl _ _ _ _ rfl _ _ rfl rfl _ _ (hrz _) ?_)
  |(at_builtin;refine Hk _ rfl _ _ (SS:Nat) (SS:Nat) rfl _ _ rfl rfl (hcpA _ _) ?_))
 go_region_law(refine Hl rfl _ _ (SS:Nat) (SS:Nat) rfl _ _ aS aS (hcpB _ _ _) ?_);go_wp2;go_ret;exact⟨_,rfl,HFIN.o⟩):p:=h
def CP(h:p:=by
 by_cases hlt:i<l
 ·have ho':=ho;obtain⟨_,ho2⟩:=ho;rcases ho2 with⟨_,h0⟩|⟨g,cap,cur,rfl,hBg,hg,hnc,hcm,hcur,htake⟩
  ·omega
  ·by_cases hroom:l.length+1<=cap
   ·exact ir B g cap i vb cur l x w hg hcur htake hlt hroom hcm hBg hvb (hne g rfl) hn
   ·exact ig B g cap i vb cur l x w hg htake hlt hnc af hB hvb hn
 ·obtain rfl:i=l.length:=af;exact ie B vb v l x w ho hB hn hvb):p:=h
namespace U
section
inductive T1|a
inductive T2|a
inductive T3|a
inductive T4|a
inductive T5|a
end
def TT:T1:=.a
instance:Coe T1 Nat:=⟨fun _=>268⟩
def KK:T2:=.a
instance:Coe T2 Nat:=⟨fun _=>2⟩
def SS:T3:=.a
instance:Coe T3 Nat:=⟨fun _=>189⟩
def OV:T4:=.a
instance:Coe T4 Nat:=⟨fun _=>234⟩
def BY:T5:=.a
instance:Coe T5 Nat:=⟨fun _=>16⟩
abbrev ee:=gn
def kk:=@vW
def oo:=@PC
def nn:=@PD
def uu:=underlying189
def ss:=sizeOf268
def f1:=func187
def f2:=ntmps187
def f3:=func234
abbrev zq:Array Value:=#[(),()]
def zz:(prog.info? 268).map (·.size)=some 2:=CI
variable{vb:Nat}
def sa{x:RU}(h:bI w vb 268 (sI x)):Sl gn 2 w (.slice (some (be vb 0)) 1 1) [x]:=⟨some (be vb 0),1,rfl,(fun h=>by cases h),au,az,fun _=>⟨vb,0,rfl,h.lt,fun i hi j u hu=>by
  obtain rfl:i=0:=by simp at hi;exact hi
  have e:((vb,0+0*(KK:Nat)+j):Addr)=(vb,j):=au;rw[e,h.c j];simpa[gn,eO,eX]using hu⟩⟩
def ie(B vb:Nat)(v:bE)(l:bF RU)(x:RU)(w:bD)(ho:w.ownsRow B 268 2 v l (bN gn l))(hB:B<=w)(hn:l.length<=1000000)(hvb:bI w vb 268 (sI x)):
  bG 187 #[v,l.length,.slice (some (be vb 0)) 1 1] w fun e w'=>∃v',e=.returned v'/\jv w w' B 268 2 v v' (l.length+1) (bN gn (ef l l x)):=CL
def ir(B g cap i vb:Nat)(cur:Array bE)(l:bF RU)(x:RU)(w:bD)(hg:w.heap[g]?=some (.cells cur 268 (0,0)))(hcur:cur.size=cap*2)(htake:cur.toList.take (l.length*2)=bN gn l)(hi:i<l)(hroom:l.length+1<=cap)(hcm:cap<=maxLen)(hB:B<=g)(hvb:bI w vb 268 (sI x))(hne:vb≠g)(hn:l.length<=1000000):
  bG 187 #[.slice (some (be g 0)) l cap,i,.slice (some (be vb 0)) 1 1] w fun e w'=>∃v',e=.returned v'/\jv w w' B 268 2 (.slice (some (be g 0)) l cap) v' (l.length+1) (bN gn (ef l i x)):=CM
def ig(B g cap i vb:Nat)(cur:Array bE)(l:bF RU)(x:RU)(w:bD)(hg:w.heap[g]?=some (.cells cur 268 (0,0)))(htake:cur.toList.take (l.length*2)=bN gn l)(hi:i<l)(hnc:l.length<=cap)(hroom:cap<l.length+1)(hB:B<=w)(hvb:bI w vb 268 (sI x))(hn:l.length<=1000000):
  bG 187 #[.slice (some (be g 0)) l cap,i,.slice (some (be vb 0)) 1 1] w fun e w'=>∃v',e=.returned v'/\jv w w' B 268 2 (.slice (some (be g 0)) l cap) v' (l.length+1) (bN gn (ef l i x)):=CO
def ia(B vb i:Nat)(v:bE)(l:bF RU)(x:RU)(w:bD)(ho:w.ownsRow B 268 2 v l (bN gn l))(hi:i<=l)(hB:B<=w)(hn:l.length<=1000000)(hvb:bI w vb 268 (sI x))(hne:∀k,v.ownBlock=some k->vb≠k):
  bG 187 #[v,i,.slice (some (be vb 0)) 1 1] w fun e w'=>∃v',e=.returned v'/\jv w w' B 268 2 v v' (l.length+1) (bN gn (ef l i x)):=CP
end U
def Qe:=@U.ia
namespace R
section
inductive T1|a
inductive T2|a
inductive T3|a
inductive T4|a
inductive T5|a
end
def TT:T1:=.a
instance:Coe T1 Nat:=⟨fun _=>163⟩
def KK:T2:=.a
instance:Coe T2 Nat:=⟨fun _=>7⟩
def SS:T3:=.a
instance:Coe T3 Nat:=⟨fun _=>160⟩
def OV:T4:=.a
instance:Coe T4 Nat:=⟨fun _=>238⟩
def BY:T5:=.a
instance:Coe T5 Nat:=⟨fun _=>56⟩
abbrev ee:=eO
def kk:=@nK
def oo:=@xr
def nn:=@FT
def uu:=underlying160
def ss:=sizeOf163
def f1:=func189
def f2:=ntmps189
def f3:=func238
abbrev zq:Array Value:=#[(),(),(),(),(),(),()]
def zz:(prog.info? 163).map (·.size)=some 7:=CI
variable{vb:Nat}
def sa{x:RT}(h:bI w vb 163 (lF x)):Sl eO 7 w (.slice (some (be vb 0)) 1 1) [x]:=⟨some (be vb 0),1,rfl,(fun h=>by cases h),au,az,fun _=>⟨vb,0,rfl,h.lt,fun i hi j u hu=>by
  obtain rfl:i=0:=by simp at hi;exact hi
  have e:((vb,0+0*(KK:Nat)+j):Addr)=(vb,j):=au;rw[e,h.c j];simpa[gn,eO,eX]using hu⟩⟩
def ie(B vb:Nat)(v:bE)(l:bF RT)(x:RT)(w:bD)(ho:w.ownsRow B 163 7 v l (bN eO l))(hB:B<=w)(hn:l.length<=1000000)(hvb:bI w vb 163 (lF x)):
  bG 189 #[v,l.length,.slice (some (be vb 0)) 1 1] w fun e w'=>∃v',e=.returned v'/\jv w w' B 163 7 v v' (l.length+1) (bN eO (ef l l x)):=CL
def ir(B g cap i vb:Nat)(cur:Array bE)(l:bF RT)(x:RT)(w:bD)(hg:w.heap[g]?=some (.cells cur 163 (0,0)))(hcur:cur.size=cap*7)(htake:cur.toList.take (l.length*7)=bN eO l)(hi:i<l)(hroom:l.length+1<=cap)(hcm:cap<=maxLen)(hB:B<=g)(hvb:bI w vb 163 (lF x))(hne:vb≠g)(hn:l.length<=1000000):
  bG 189 #[.slice (some (be g 0)) l cap,i,.slice (some (be vb 0)) 1 1] w fun e w'=>∃v',e=.returned v'/\jv w w' B 163 7 (.slice (some (be g 0)) l cap) v' (l.length+1) (bN eO (ef l i x)):=CM
def ig(B g cap i vb:Nat)(cur:Array bE)(l:bF RT)(x:RT)(w:bD)(hg:w.heap[g]?=some (.cells cur 163 (0,0)))(htake:cur.toList.take (l.length*7)=bN eO l)(hi:i<l)(hnc:l.length<=cap)(hroom:cap<l.length+1)(hB:B<=w)(hvb:bI w vb 163 (lF x))(hn:l.length<=1000000):
  bG 189 #[.slice (some (be g 0)) l cap,i,.slice (some (be vb 0)) 1 1] w fun e w'=>∃v',e=.returned v'/\jv w w' B 163 7 (.slice (some (be g 0)) l cap) v' (l.length+1) (bN eO (ef l i x)):=CO
def ia(B vb i:Nat)(v:bE)(l:bF RT)(x:RT)(w:bD)(ho:w.ownsRow B 163 7 v l (bN eO l))(hi:i<=l)(hB:B<=w)(hn:l.length<=1000000)(hvb:bI w vb 163 (lF x))(hne:∀k,v.ownBlock=some k->vb≠k):
  bG 189 #[v,i,.slice (some (be vb 0)) 1 1] w fun e w'=>∃v',e=.returned v'/\jv w w' B 163 7 v v' (l.length+1) (bN eO (ef l i x)):=CP
end R
def Qg:=@R.ia
namespace H
section
inductive T1|a
inductive T2|a
inductive T3|a
inductive T4|a
inductive T5|a
end
def TT:T1:=.a
instance:Coe T1 Nat:=⟨fun _=>333⟩
def KK:T2:=.a
instance:Coe T2 Nat:=⟨fun _=>5⟩
def SS:T3:=.a
instance:Coe T3 Nat:=⟨fun _=>225⟩
def OV:T4:=.a
instance:Coe T4 Nat:=⟨fun _=>368⟩
def BY:T5:=.a
instance:Coe T5 Nat:=⟨fun _=>40⟩
abbrev ee:=eX
def kk:=@kK
def oo:=@FU
def nn:=@FV
def uu:=underlying225
def ss:=sizeOf333
def f1:=func347
def f2:=ntmps347
def f3:=func368
abbrev zq:Array Value:=#[(),(),(),(),()]
def zz:(prog.info? 333).map (·.size)=some 5:=CI
variable{vb:Nat}
def sa{x:RH}(h:bI w vb 333 (oC x)):Sl eX 5 w (.slice (some (be vb 0)) 1 1) [x]:=⟨some (be vb 0),1,rfl,(fun h=>by cases h),au,az,fun _=>⟨vb,0,rfl,h.lt,fun i hi j u hu=>by
  obtain rfl:i=0:=by simp at hi;exact hi
  have e:((vb,0+0*(KK:Nat)+j):Addr)=(vb,j):=au;rw[e,h.c j];simpa[gn,eO,eX]using hu⟩⟩
def ie(B vb:Nat)(v:bE)(l:bF RH)(x:RH)(w:bD)(ho:w.ownsRow B 333 5 v l (bN eX l))(hB:B<=w)(hn:l.length<=1000000)(hvb:bI w vb 333 (oC x)):
  bG 347 #[v,l.length,.slice (some (be vb 0)) 1 1] w fun e w'=>∃v',e=.returned v'/\jv w w' B 333 5 v v' (l.length+1) (bN eX (ef l l x)):=CL
def ir(B g cap i vb:Nat)(cur:Array bE)(l:bF RH)(x:RH)(w:bD)(hg:w.heap[g]?=some (.cells cur 333 (0,0)))(hcur:cur.size=cap*5)(htake:cur.toList.take (l.length*5)=bN eX l)(hi:i<l)(hroom:l.length+1<=cap)(hcm:cap<=maxLen)(hB:B<=g)(hvb:bI w vb 333 (oC x))(hne:vb≠g)(hn:l.length<=1000000):
  bG 347 #[.slice (some (be g 0)) l cap,i,.slice (some (be vb 0)) 1 1] w fun e w'=>∃v',e=.returned v'/\jv w w' B 333 5 (.slice (some (be g 0)) l cap) v' (l.length+1) (bN eX (ef l i x)):=CM
def ig(B g cap i vb:Nat)(cur:Array bE)(l:bF RH)(x:RH)(w:bD)(hg:w.heap[g]?=some (.cells cur 333 (0,0)))(htake:cur.toList.take (l.length*5)=bN eX l)(hi:i<l)(hnc:l.length<=cap)(hroom:cap<l.length+1)(hB:B<=w)(hvb:bI w vb 333 (oC x))(hn:l.length<=1000000):
  bG 347 #[.slice (some (be g 0)) l cap,i,.slice (some (be vb 0)) 1 1] w fun e w'=>∃v',e=.returned v'/\jv w w' B 333 5 (.slice (some (be g 0)) l cap) v' (l.length+1) (bN eX (ef l i x)):=CO
def ia(B vb i:Nat)(v:bE)(l:bF RH)(x:RH)(w:bD)(ho:w.ownsRow B 333 5 v l (bN eX l))(hi:i<=l)(hB:B<=w)(hn:l.length<=1000000)(hvb:bI w vb 333 (oC x))(hne:∀k,v.ownBlock=some k->vb≠k):
  bG 347 #[v,i,.slice (some (be vb 0)) 1 1] w fun e w'=>∃v',e=.returned v'/\jv w w' B 333 5 v v' (l.length+1) (bN eX (ef l i x)):=CP
end H
def Qh:=@H.ia
def Hp(h:p:=by
 let⟨i0,hi0,hz0,hzs,hzb⟩:=wm nn;have HFI:=aa (Qb ee (KK:Nat) kk l i);have hxl:=ik ee (KK:Nat) kk l;have hdl:=CH l i hi;have hone:∀u∈bN ee l,u.oneCell'=true:=lE oo l;obtain⟨_,ho2⟩:=ho;rcases ho2 with⟨_,h0⟩|⟨g,cap,cur,rfl,hB,hg,hnc,hcm,hcur,htake⟩
 ·omega
 let⟨xs,hxs⟩:=aH (bN ee l);rw[hxs]at htake hxl HFI hone;let⟨n,hnl⟩:=aH l.length;rw[hnl]at htake hxl hi hn hdl hnc⊢;have hcl:cur.toList.length=cap*(KK:Nat):=aG hcur;have hm1:n*(KK:Nat)<=cap*(KK:Nat):=lT (KK:Nat) hnc;have hzz0:(Builtin.zeroCells (Value.agg zq).cells 1).toList=zl:=aj;let⟨zs,hzz⟩:=aH ((Builtin.zeroCells (Value.agg zq).cells 1).toList);have hzl:zs.length=(KK:Nat):=by rw[<-hzz,hzz0];rfl
 have hz1:∀u∈(Builtin.zeroCells (Value.agg zq).cells 1).toList,u.oneCell'=true:=by
  intro u hu;rw[hzz0]at hu;simp at hu;subst hu;rfl
 let⟨A1,hA1⟩:∃A1,A1=cur.toList.take (i*(KK:Nat))++xs.drop ((i+1)*(KK:Nat))++cur.toList.drop (i*(KK:Nat)+(xs.drop ((i+1)*(KK:Nat))).length):=⟨_,rfl⟩;let⟨A2,hA2⟩:∃A2,A2=A1.take ((n-1)*(KK:Nat))++zs++A1.drop ((n-1)*(KK:Nat)+zs.length):=⟨_,rfl⟩;obtain⟨hl1,hl2,hfin⟩:=Qa htake hxl hi hzl (by rw[hcl];exact hm1) hA1 hA2;let⟨W1,hW1⟩:∃W1,W1=w.drew.setRow g A1.toArray:=⟨_,rfl⟩;have hg1:W1.heap[g]?=some (.cells A1.toArray (TT:Nat) (0,0)):=by rw[hW1];exact setRow_heap w.drew g cur A1.toArray (TT:Nat) (0,0) hg
 let⟨ad,had⟩:∃ad,ad=(if cap=i+1 then(⟨g,0,none⟩:Addr)else⟨g,(i+1)*(KK:Nat),none⟩):=⟨_,rfl⟩;have hcp1:∀ty sc,(Builtin.append_ #[(SS:Nat),(SS:Nat)] ty #[.slice (some ⟨g,0,none⟩) i cap,.slice (some ad) (n-(i+1)) sc]).run prog w.drew=.ok (.slice (some ⟨g,0,none⟩) (n-1) cap) W1:=fun ty sc=>by
  have h:=PY (P:=prog) w.drew (SS:Nat) ty (TT:Nat) g i cap ad (n-(i+1)) sc cur (TT:Nat) (xs.drop ((i+1)*(KK:Nat))) i0 uu hi0 hg (by rw[hzs,fc,hxl,FD]) (fun j u hu=>by
   rw[had];split
   ·rename_i hq;have hj:=(ada.1 hu).1;rw[fc,hxl]at hj;omega
   ·rw[iX];rw[AY,<-htake,pz]at hu;split at hu
    ·simp only[World.cell?];rw[show w.drew.heap[g]?=some (.cells cur (TT:Nat) (0,0))from hg];simpa using hu
    ·cases hu) af (by rw[hzs,fc,hxl];omega) (fun u hu=>hone u (tW hu))
  rw[h,hW1,hA1,hzs,show i+(n-(i+1))=n-1 by omega]
 have hclr:∀ty c,(Builtin.clear_ #[(SS:Nat)] ty #[.slice (some ⟨g,(n-1)*(KK:Nat),none⟩) 1 c]).run prog W1=.ok (.tuple #[]) (W1.setRow g A2.toArray):=fun ty c=>by
  have h:=PZ (P:=prog) W1 (SS:Nat) (TT:Nat) ty (.agg zq) uu (fun w=>by simp[zeroValue,typeInfo,hi0,hz0]) hz1 g ((n-1)*(KK:Nat)) c A1.toArray (TT:Nat) hg1 (by rw[hzz,hzl];simp only[mN,hl1,hcl];omega);rw[h,hA2,hzz]
 have HFIN:Hid (jv w (W1.setRow g A2.toArray) B (TT:Nat) (KK:Nat) (.slice (some ⟨g,0,none⟩) n cap) (.slice (some ⟨g,0,none⟩) (n-1) cap) (n-1) (bN ee (mq l i))):=aa (by
  refine⟨⟨by rw[ik ee (KK:Nat) kk,hdl],ci ⟨g,cap,A2.toArray,rfl,hB,setRow_heap W1 g A1.toArray A2.toArray (TT:Nat) (0,0) hg1,af,hcm,by simp[hl2,hcur], ?_⟩⟩, ?_,bS rfl⟩
  ·rw[HFI.o];exact hfin
  ·have g1:=zA w.drew g A1.toArray;have g2:=zA W1 g A2.toArray;rw[<-hW1]at g1;exact⟨g2.os.bu g1.os,g2.tape.bu g1.tape,g2.output.bu g1.output,bW g1.size g2.size,fun k hk hne=>(g2.block k (iN hk g1.size) hne).bu (g1.block k hk hne)⟩)
 let⟨W2,hW2⟩:∃W2,W2=W1.setRow g A2.toArray:=⟨_,rfl⟩;rw[<-hW2]at hclr HFIN;have hz2:¬((i:Int)=(i:Int)+1):=af;have htn:((i:Int)+1).toNat=i+1:=af;have hbb1:(0:Int)<=(i:Int)+1:=af;have hin:i<=n:=af;have hin1:i+1<=n:=af;have hic:i<=cap:=af;have hb1:¬(cap=i):=af;have hb2:¬(cap=n-1):=af;have hb3:i<=(n:Int):=af;have hb4:(i:Int)+1<=(n:Int):=af;have hb5:n<=(cap:Int):=af;have hpn:n-(n-1)=1:=af;have hsl2:∀W,(Instr.slice (SS:Nat) (.slice (some ⟨g,0,none⟩) n cap) (some (.int .i64 ((i:Int)+1))) none none).run prog W=.ok (.slice (some ad) (n-(i+1)) (cap-(i+1))) W:=fun W=>by
  rw[had];unfold maxLen at hcm;by_cases hc:cap=i+1
  ·rw[yc hc];simp[go_sem,uu,ss,htn,hbb1,hb4,hc]
  ·rw[ya hc];simp[go_sem,uu,ss,htn,hbb1,hb4,hc,hin1]
 unfold maxLen at hcm;clear hg hcur htake hone hxs hxl hdl hnl hcl hm1 hA1 hA2 hl1 hl2 hfin hW1 hg1 HFI hW2 hz1 hzz hzz0 hzl had;go_enter f4,f5;go_wp2;go_region_law(refine Qd aB _ _ (SS:Nat) (SS:Nat) aB (.slice (some ⟨g,0,none⟩) i cap) (.slice (some ad) (n-(i+1)) (cap-(i+1))) aB aB (hcp1 _ _) ?_);go_wp2;go_ret;exact⟨_,rfl,HFIN.o⟩):p:=h
namespace R
def f4:=func191
def f5:=ntmps191
abbrev zl:List Value:=[(),(),(),(),(),(),()]
def de(B i:Nat)(v:bE)(l:bF RT)(w:bD)(ho:w.ownsRow B 163 7 v l (bN eO l))(hi:i<l)(hn:l.length<=1000000):
  bG 191 #[v,i,aY ((i:Int)+1)] w fun e w'=>∃v',e=.returned v'/\jv w w' B 163 7 v v' (l.length-1) (bN eO (mq l i)):=Hp
end R
def Qi:=@R.de
namespace H
def f4:=func321
def f5:=ntmps321
abbrev zl:List Value:=[(),(),(),(),()]
def de(B i:Nat)(v:bE)(l:bF RH)(w:bD)(ho:w.ownsRow B 333 5 v l (bN eX l))(hi:i<l)(hn:l.length<=1000000):
  bG 321 #[v,i,aY ((i:Int)+1)] w fun e w'=>∃v',e=.returned v'/\jv w w' B 333 5 v v' (l.length-1) (bN eX (mq l i)):=Hp
end H
def Qj:=@H.de
section
attribute [local go_sem ↓] wp_at_zero wp_at_succ
def Qk{l l':bF RU}(hb:bI w g 191 cs)(ho:w.ownsRow B 268 2 vl l (bN gn l))(hR:jv w w2 B 268 2 vl v' l' (bN gn l'))(hB:B<=g)(hKg:g∉K)(hKv:∀k,vl.ownBlock=some k->k∉K):lH gn 2 268 w (w2.setCell (be g 1) v') B g 191 cs 1 vl l' K v':=by
 have F:=hb.grown ho hR.grown ah;refine⟨F.set 1 v', ?_,(cg.grown ho hR.grown au (bL _) hKv).bu (cg.set F au hB hKg), ?_⟩
 ·have:=fp F hR.own ah
  exact ed (w:=w2) hR.own (fun k hk=>fV _ _ _ _ (this k hk))
 ·rcases hR.xj with hat|⟨k,h1,h2⟩
  ·exact bS hat
  ·exact ci ⟨k,h1,h2⟩
def Ql(B g:Nat)(room:Int)(v:bE)(l:bF RU)(x:RU)(K:bF Nat)(w:bD)(hb:bI w g 191 #[room,v])(hB:B<=g)(hBw:B<=w)(ho:w.ownsRow B 268 2 v l (bN gn l))(hn:l.length<=100000)(hs:fK RU.bR l)(hKg:g∉K)(hKv:∀k,v.ownBlock=some k->k∉K)(hno:dJ RU.bR l x.bR=false)(hroom:(l:Int)<room):
  bG 149 #[ptr g,x.bR,x.v] w fun e w'=>∃v',e=.returned (aY 0)/\lH gn 2 268 w w' B g 191 #[room,v] 1 v (ef l (dQ RU.bR l x.bR) x) K v':=by
 have t:Bw w w:=bM _ _;let⟨L,n,F⟩:=Jh3 (hb.keep t) (cJ ho t) hKv;let⟨S,Q⟩:=Jh2 (GZ g v room l x.bR _ L.o (Sl.own vW n.o) af hs) hno;have a:dQ RU.bR l x.bR<=l:=xA;let⟨i,r⟩:=aH (dQ RU.bR l x.bR);have p:=aa r;rw[r]at a;have hf:=bV ho;obtain⟨W,C,rfl⟩:=hf;let⟨N,f⟩:=aH ((ef l i x).length);let⟨I,D⟩:=Jh2 f (qq l i x a);clear hb ho hKv hs hno r f;go_enter func149,ntmps149;go_wp2_with(go_at_call 186;refine S.o.bC ?_;rintro e G⟨rfl,b⟩;rw[p.o,Q.o];have J:=aa (L.o.keep b);have T:=aa (cJ n.o b);have j:=J.o.c 0;have Z:=J.o.c 1);have O:=t.bu (b.bC t.size);have V:decide (room<=(l:Int))=false:=dF af;clear b;go_quiet(fail);have z:=aa (show bI (G.drewN nq) g 191 #[room,.slice W l C]from J.o);have H:=aa (show(G.drewN nq).ownsRow B 268 2 (.slice W l C) l (bN gn l)from T.o);have P:=gM O nq;clear j Z J T O V L n S Q t;generalize G.drewN nq=X at*;have R:=P.size;have Z:=z.o.c 1;have h:=(z.o.alloc (bH (sI x) 268)).c 1;go_wp2_with(go_at_call 187;refine(Qe B X i _ l x _ (by exact H.o.alloc _) a aA af (by exact bI.new X 268 (sI x)) (fun k hk=>by have:=H.o.lt k hk;omega)).bC ?_;rintro e U⟨v',rfl,d⟩;have M:jv (X.alloc (bH (sI x) 268)) U B 268 2 (.slice W l C) v' (l.length+1) (bN gn (ef l i x)):=⟨d.own,⟨d.grown.os,d.grown.tape,d.grown.output,d.grown.size,d.grown.block⟩,d.xj⟩;clear d;have m:=aa (bI.grown (z.o.alloc _) (H.o.alloc _) M.grown ah);have q:=aa (Qk (z.o.alloc _) (H.o.alloc _) (by rw[D.o];exact M) hB hKg F.o);have E:=bV M.own;obtain⟨A,u,rfl⟩:=E;clear M;have s:=m.o.c 1;have y:=m.o.free 1)
 all_goals
  clear s y m Z h;generalize(U.setCell (be g 1) (.slice A (l.length+1) u))=Y at*
  go_wp2;go_ret;rw[p.o];exact⟨.slice A (l.length+1) u,rfl,q.o.blk,q.o.own,((cg.below P).alloc _).bu q.o.mod,q.o.goes.later aA⟩
def Hq{l l':bF RT}(hb:bI w g 188 cs)(ho:w.ownsRow B 163 7 vl l (bN eO l))(hR:jv w w2 B 163 7 vl v' l' (bN eO l'))(hB:B<=g)(hKg:g∉K)(hKv:∀k,vl.ownBlock=some k->k∉K):lH eO 7 163 w (w2.setCell (be g 1) v') B g 188 cs 1 vl l' K v':=by
 have F:=hb.grown ho hR.grown ah;refine⟨F.set 1 v', ?_,(cg.grown ho hR.grown au (bL _) hKv).bu (cg.set F au hB hKg), ?_⟩
 ·have:=fp F hR.own ah
  exact ed (w:=w2) hR.own (fun k hk=>fV _ _ _ _ (this k hk))
 ·rcases hR.xj with hat|⟨k,h1,h2⟩
  ·exact bS hat
  ·exact ci ⟨k,h1,h2⟩
def Qm(B g:Nat)(room:Int)(v:bE)(l:bF RT)(x:RT)(K:bF Nat)(w:bD)(hb:bI w g 188 #[room,v])(hB:B<=g)(hBw:B<=w)(ho:w.ownsRow B 163 7 v l (bN eO l))(hn:l.length<=100000)(hs:fK RT.bR l)(hKg:g∉K)(hKv:∀k,v.ownBlock=some k->k∉K)(hno:dJ RT.bR l x.bR=false)(hroom:(l:Int)<room):
  bG 150 #[ptr g,x.bR,.agg #[x.id,x.dD,x.dE,x.cP,x.cK,x.cF]] w fun e w'=>∃v',e=.returned (aY 0)/\lH eO 7 163 w w' B g 188 #[room,v] 1 v (ef l (dQ RT.bR l x.bR) x) K v':=by
 have U:Bw w (aZ w #[x.id,x.dD,x.dE,x.cP,x.cK,x.cF] 58):=aI;let⟨L,p,F⟩:=Jh3 (hb.keep U) (cJ ho U) hKv;let⟨S,Q⟩:=Jh2 (CC g v room l x.bR _ L.o (Sl.own nK p.o) af hs) hno;have n:dQ RT.bR l x.bR<=l:=xA;have T:=aa (bI.new w 58 #[x.id,x.dD,x.dE,x.cP,x.cK,x.cF]);let⟨i,r⟩:=aH (dQ RT.bR l x.bR);have C:=aa r;rw[r]at n;have hf:=bV ho;obtain⟨W,k1,rfl⟩:=hf;let⟨N,f⟩:=aH ((ef l i x).length);let⟨HN,D⟩:=Jh2 f (qq l i x n);clear hb ho hKv hs hno r f;go_enter func150,ntmps150;go_wp2_with(go_at_call 188;refine S.o.bC ?_;rintro e w1⟨rfl,b⟩;rw[C.o,Q.o];have J:=aa (L.o.keep b);have O1:=aa (cJ p.o b);have a:=aa (T.o.keep b);have P:=a.o.c 0;have z:=a.o.c 1;have t:=a.o.c 2;have V:=a.o.c 3;have G:=a.o.c 4;have I:=a.o.c 5;have j:=J.o.c 0;have Z:=J.o.c 1);have bw:=U.bu (b.bC U.size);have hd:decide (room<=(l:Int))=false:=dF af;clear b;go_quiet(fail);have BX:=aa (show bI (w1.drewN nq) g 188 #[room,.slice W l k1]from J.o);have H:=aa (show(w1.drewN nq).ownsRow B 163 7 (.slice W l k1) l (bN eO l)from O1.o);have bX:=gM bw nq;have O:=aa (show bI (w1.drewN nq) w 58 #[x.id,x.dD,x.dE,x.cP,x.cK,x.cF]from a.o);clear j Z J O1 bw hd L p S Q U T a P z t V G I;generalize w1.drewN nq=X at*;let⟨R,Z,h,P,z,t⟩:=Jt6 bX.size (BX.o.c 1) ((BX.o.alloc (bH (lF x) 163)).c 1) (O.o.c 0) (O.o.c 1) (O.o.c 2);let⟨V,G,I⟩:=O.o.k3 3 4 5;go_wp2;go_region_with(go_at_call 189;refine(Qg B X i _ l x _ (by exact H.o.alloc _) n aA af (by exact bI.new X 163 (lF x)) (fun k hk=>by have:=H.o.lt k hk;omega)).bC ?_;rintro e w2⟨v',rfl,d⟩;have M:jv (X.alloc (bH (lF x) 163)) w2 B 163 7 (.slice W l k1) v' (l.length+1) (bN eO (ef l i x)):=⟨d.own,⟨d.grown.os,d.grown.tape,d.grown.output,d.grown.size,d.grown.block⟩,d.xj⟩;clear d;have m:=aa (bI.grown (BX.o.alloc _) (H.o.alloc _) M.grown ah);have q:=aa (Hq (BX.o.alloc _) (H.o.alloc _) (by rw[D.o];exact M) hB hKg F.o);have E:=bV M.own;obtain⟨A,u,rfl⟩:=E;clear M;have s:=m.o.c 1;have y:=m.o.free 1)
 all_goals
  clear s y m Z h;generalize(w2.setCell (be g 1) (.slice A (l.length+1) u))=Y at*
  go_wp2;go_ret;rw[C.o];exact⟨.slice A (l.length+1) u,rfl,q.o.blk,q.o.own,((cg.below bX).alloc _).bu q.o.mod,q.o.goes.later aA⟩
def Hr{l l':bF RH}(hb:bI w g 227 cs)(ho:w.ownsRow B 333 5 vl l (bN eX l))(hR:jv w w2 B 333 5 vl v' l' (bN eX l'))(hB:B<=g)(hKg:g∉K)(hKv:∀k,vl.ownBlock=some k->k∉K):lH eX 5 333 w (w2.setCell (be g 1) v') B g 227 cs 1 vl l' K v':=by
 have F:=hb.grown ho hR.grown ah;refine⟨F.set 1 v', ?_,(cg.grown ho hR.grown au (bL _) hKv).bu (cg.set F au hB hKg), ?_⟩
 ·have:=fp F hR.own ah
  exact ed (w:=w2) hR.own (fun k hk=>fV _ _ _ _ (this k hk))
 ·rcases hR.xj with hat|⟨k,h1,h2⟩
  ·exact bS hat
  ·exact ci ⟨k,h1,h2⟩
def Qn(B g:Nat)(room:Int)(v:bE)(l:bF RH)(x:RH)(K:bF Nat)(w:bD)(hb:bI w g 227 #[room,v])(hB:B<=g)(hBw:B<=w)(ho:w.ownsRow B 333 5 v l (bN eX l))(hn:l.length<=100000)(hs:fK RH.bR l)(hKg:g∉K)(hKv:∀k,v.ownBlock=some k->k∉K)(hno:dJ RH.bR l x.bR=false)(hroom:(l:Int)<room):
  bG 310 #[ptr g,x.bR,.agg #[x.cq,x.mem,x.bK,x.bJ]] w fun e w'=>∃v',e=.returned (aY 0)/\lH eX 5 333 w w' B g 227 #[room,v] 1 v (ef l (dQ RH.bR l x.bR) x) K v':=by
 have G:Bw w (aZ w #[x.cq,x.mem,x.bK,x.bJ] 182):=aI;let⟨L,n,F⟩:=Jh3 (hb.keep G) (cJ ho G) hKv;let⟨S,Q⟩:=Jh2 (CD g v room l x.bR _ L.o (Sl.own kK n.o) af hs) hno;have a:dQ RH.bR l x.bR<=l:=xA;have T:=aa (bI.new w 182 #[x.cq,x.mem,x.bK,x.bJ]);let⟨i,r⟩:=aH (dQ RH.bR l x.bR);have C:=aa r;rw[r]at a;have hf:=bV ho;obtain⟨W,k1,rfl⟩:=hf;let⟨N,f⟩:=aH ((ef l i x).length);let⟨I,D⟩:=Jh2 f (qq l i x a);clear hb ho hKv hs hno r f;go_enter func310,ntmps310;go_wp2_with(go_at_call 320;refine S.o.bC ?_;rintro e U⟨rfl,b⟩;rw[C.o,Q.o];have J:=aa (L.o.keep b);have O1:=aa (cJ n.o b);have p:=aa (T.o.keep b);have P:=p.o.c 0;have z:=p.o.c 1;have t:=p.o.c 2;have V:=p.o.c 3;have j:=J.o.c 0;have Z:=J.o.c 1);have bw:=G.bu (b.bC G.size);have hd:decide (room<=(l:Int))=false:=dF af;clear b;go_quiet(fail);have BX:=aa (show bI (U.drewN nq) g 227 #[room,.slice W l k1]from J.o);have H:=aa (show(U.drewN nq).ownsRow B 333 5 (.slice W l k1) l (bN eX l)from O1.o);have bX:=gM bw nq;have O:=aa (show bI (U.drewN nq) w 182 #[x.cq,x.mem,x.bK,x.bJ]from p.o);clear j Z J O1 bw hd L n S Q G T p P z t V;generalize U.drewN nq=X at*;let⟨R,Z,h,P,z,t⟩:=Jt6 bX.size (BX.o.c 1) ((BX.o.alloc (bH (oC x) 333)).c 1) (O.o.c 0) (O.o.c 1) (O.o.c 2);have V:=O.o.c 3;go_wp2;go_region_with(go_at_call 347;refine(Qh B X i _ l x _ (by exact H.o.alloc _) a aA af (by exact bI.new X 333 (oC x)) (fun k hk=>by have:=H.o.lt k hk;omega)).bC ?_;rintro e w2⟨v',rfl,d⟩;have M:jv (X.alloc (bH (oC x) 333)) w2 B 333 5 (.slice W l k1) v' (l.length+1) (bN eX (ef l i x)):=⟨d.own,⟨d.grown.os,d.grown.tape,d.grown.output,d.grown.size,d.grown.block⟩,d.xj⟩;clear d;have m:=aa (bI.grown (BX.o.alloc _) (H.o.alloc _) M.grown ah);have q:=aa (Hr (BX.o.alloc _) (H.o.alloc _) (by rw[D.o];exact M) hB hKg F.o);have E:=bV M.own;obtain⟨A,u,rfl⟩:=E;clear M;have s:=m.o.c 1;have y:=m.o.free 1)
 all_goals
  clear s y m Z h;generalize(w2.setCell (be g 1) (.slice A (l.length+1) u))=Y at*
  go_wp2;go_ret;rw[C.o];exact⟨.slice A (l.length+1) u,rfl,q.o.blk,q.o.own,((cg.below bX).alloc _).bu q.o.mod,q.o.goes.later aA⟩
variable{TS:bF TypeId}
def cg.CQ{X:bD}(h:cg B TS K w X)(p:pJ X g T cs W)(hg:w.heap.size<=g):cg B TS K w W:=⟨p.mod.os.bu h.os,p.mod.tape.bu h.tape,p.mod.output.bu h.output,bW h.size p.mod.size,fun k hk hc=>(p.far k af).bu (h.far k hk hc)⟩
def Qo(g:Nat)(room:Int)(v:bE)(l:bF RT)(id:Int)(w:bD)(hb:bI w g 188 #[room,v])(hv:Sl eO 7 w v l)(hn:l.length<=100000)(hs:fK RT.bR l)(hno:dJ RT.bR l id=false):
  bG 151 #[ptr g,id] w fun e w'=>∃x:RT,e=.returned (.tuple #[.agg #[x.id,x.dD,x.dE,x.cP,x.cK,x.cF],(8:Int)])/\Bw w w':=by
 have d:Bw w (aZ w #[(),(),(),(),(),()] 58):=aI;let⟨H,R,Q⟩:=Jh3 (Hh g room v l id _ (hb.keep d) (hv.keep d) hn hs) (bI.new w 58 #[(),(),(),(),(),()]) hno;clear hb hv hs hno;go_enter func151,ntmps151;go_wp2_with(first
  |(go_at_call 190;refine H.o.bC ?_;rintro e i⟨x,rfl,_,b⟩;rw[Q.o];have f:=d.bu (b.bC d.size);have X:=aa (R.o.keep b);clear b)
  |(refine fQ rfl 58 _ _ rfl rfl w #[x.id,x.dD,x.dE,x.cP,x.cK,x.cF] rfl rfl aj aD _ (X.o.alloc _) rfl ?_;intro M a;have q:=aa a;have W:=a.row.c 0;have I:=a.row.c 1;have h:=a.row.c 2;have K:=a.row.c 3;have t:=a.row.c 4;have S:=a.row.c 5))
 refine wb (v:=.tuple #[.agg #[x.id,x.dD,x.dE,x.cP,x.cK,x.cF],(8:Int)]) (by simp[results,results151,go_sem,W,I,h,K,t,S]) rfl ?_;exact⟨x,rfl,q.o.low (f.alloc f.size _) (bL _)⟩
def Qp(B g:Nat)(room:Int)(v:bE)(l:bF RT)(id:Int)(K:bF Nat)(w:bD)(hb:bI w g 188 #[room,v])(hB:B<=g)(hBw:B<=w)(ho:w.ownsRow B 163 7 v l (bN eO l))(hn:l.length<=100000)(hs:fK RT.bR l)(hKg:g∉K)(hKv:∀k,v.ownBlock=some k->k∉K)(hyes:dJ RT.bR l id=true):
  bG 151 #[ptr g,id] w fun e w'=>∃(x:RT) (v':bE),e=.returned (.tuple #[.agg #[x.id,x.dD,x.dE,x.cP,x.cK,x.cF],()])/\(x∈l/\x.bR=id)/\lH eO 7 163 w w' B g 188 #[room,v] 1 v (mq l (dQ RT.bR l id)) K v':=by
 let⟨p,_⟩:=Hg l id hs hyes;have c0:Bw w (aZ w #[(),(),(),(),(),()] 58):=aI;have HS:=aa hs;have a:g≠w:=mi hb.lt;let⟨L,ad,F⟩:=Jh3 (hb.keep c0) (cJ ho c0) hKv;let⟨H,R,Q⟩:=Jh3 (Hh g room v l id _ L.o (Sl.own nK ad.o) hn hs) (bI.new w 58 #[(),(),(),(),(),()]) hyes;have hf:=bV ho;obtain⟨n1,k1,rfl⟩:=hf;let⟨i,r⟩:=aH (dQ RT.bR l id);have ab:=aa r;rw[r]at p;have ae:=aa (CH l i p);clear hb ho hs hyes hKv r;go_enter func151,ntmps151;go_wp2_with(first
  |(go_at_call 190;refine H.o.bC ?_;rintro e w1⟨x,rfl,j,b⟩;have j:=j Q.o;rw[Q.o];have bw:=(c0.bu (b.bC c0.size)).alloc (c0.bu (b.bC c0.size)).size (.cells #[x.id,x.dD,x.dE,x.cP,x.cK,x.cF] 58);have X:=aa ((R.o.keep b).alloc (bH #[x.id,x.dD,x.dE,x.cP,x.cK,x.cF] 58));have V1:=aa (bI.new w1 58 #[x.id,x.dD,x.dE,x.cP,x.cK,x.cF]);have T:g≠w1:=mi (L.o.keep b).lt;have J:=aa ((L.o.keep b).alloc (bH #[x.id,x.dD,x.dE,x.cP,x.cK,x.cF] 58));have O1:=aa ((cJ ad.o b).alloc (bH #[x.id,x.dD,x.dE,x.cP,x.cK,x.cF] 58));have S:=aa (CC g _ room l id _ J.o (Sl.own nK O1.o) af HS.o);clear b)
  |(go_at_call 188;refine S.o.bC ?_;rintro e w2⟨rfl,f⟩;rw[ab.o,Q.o];have m:=aa (J.o.keep f);have D:=aa (cJ O1.o f);have R2:=aa (X.o.keep f);have V2:=aa (V1.o.keep f);have Z:=m.o.c 1;have ac:=bw.bu (f.bC bw.size);clear f)
  |(go_at_call 191;refine(Qi B i _ l _ D.o p af).bC ?_;rintro e O⟨v',rfl,M⟩;have d:=aa (bI.grown m.o D.o M.grown ah);have P:=aa (Hq (l':=mq l i) (K:=K) m.o D.o (by rw[ae.o];exact M) hB hKg F.o);have V:=aa ((bI.grown R2.o D.o M.grown ah).far (k:=g) 1 v' (by exact fun e=>a e.symm));have z:=aa ((bI.grown V2.o D.o M.grown ah).far (k:=g) 1 v' (by exact fun e=>T e.symm));have E:=bV M.own;obtain⟨A,u,rfl⟩:=E;clear M;have s:=d.o.c 1;have y:=d.o.free 1;have N:=z.o.c 0;have v1:=z.o.c 1;have G:=z.o.c 2;have C:=z.o.c 3;have v4:=z.o.c 4;have v5:=z.o.c 5)
  |(refine fQ rfl 58 _ _ rfl rfl w #[x.id,x.dD,x.dE,x.cP,x.cK,x.cF] rfl rfl aj aD _ V.o rfl ?_;intro W5 P5;have q:=aa P5;have W:=P5.row.c 0;have I:=P5.row.c 1;have h:=P5.row.c 2;have s3:=P5.row.c 3;have t:=P5.row.c 4;have s5:=P5.row.c 5))
 refine wb (v:=.tuple #[.agg #[x.id,x.dD,x.dE,x.cP,x.cK,x.cF],()]) (by simp[results,results151,go_sem,W,I,h,s3,t,s5]) rfl ?_;rw[ab.o];let⟨n,M,Y⟩:=Jt3 P.o V.o q.o;have U:cg B [188,163] K w w2:=cg.below ac;refine⟨x,.slice A (l.length-1) u,rfl,j, ?_, ?_,(U.bu n.mod).CQ Y (bL _),n.goes.later ac.size⟩
 ·exact(Y.far g a).bu n.blk
 ·exact ed n.own fun k hk=>Y.far k (fp M n.own ah k hk)
def Qq(g:Nat)(room:Int)(v:bE)(l:bF RH)(id:Int)(w:bD)(hb:bI w g 227 #[room,v])(hv:Sl eX 5 w v l)(hn:l.length<=100000)(hs:fK RH.bR l)(hno:dJ RH.bR l id=false):
  bG 261 #[ptr g,id] w fun e w'=>∃x:RH,e=.returned (.tuple #[.agg #[x.cq,x.mem,x.bK,x.bJ],(8:Int)])/\Bw w w':=by
 have d:Bw w (aZ w #[(),(),(),()] 182):=aI;let⟨H,R,Q⟩:=Jh3 (vZ g room v l id _ (hb.keep d) (hv.keep d) hn hs) (bI.new w 182 #[(),(),(),()]) hno;clear hb hv hs hno;go_enter func261,ntmps261;go_wp2_with(first
  |(go_at_call 308;refine H.o.bC ?_;rintro e i⟨x,rfl,_,b⟩;rw[Q.o];have f:=d.bu (b.bC d.size);have X:=aa (R.o.keep b);clear b)
  |(refine fQ rfl 182 _ _ rfl rfl w #[x.cq,x.mem,x.bK,x.bJ] rfl rfl aj aD _ (X.o.alloc _) rfl ?_;intro M a;have q:=aa a;have W:=a.row.c 0;have I:=a.row.c 1;have h:=a.row.c 2;have K:=a.row.c 3))
 refine wb (v:=.tuple #[.agg #[x.cq,x.mem,x.bK,x.bJ],(8:Int)]) (by simp[results,results261,go_sem,W,I,h,K]) rfl ?_;exact⟨x,rfl,q.o.low (f.alloc f.size _) (bL _)⟩
def Qr(B g:Nat)(room:Int)(v:bE)(l:bF RH)(id:Int)(K:bF Nat)(w:bD)(hb:bI w g 227 #[room,v])(hB:B<=g)(hBw:B<=w)(ho:w.ownsRow B 333 5 v l (bN eX l))(hn:l.length<=100000)(hs:fK RH.bR l)(hKg:g∉K)(hKv:∀k,v.ownBlock=some k->k∉K)(hyes:dJ RH.bR l id=true):
  bG 261 #[ptr g,id] w fun e w'=>∃(x:RH) (v':bE),e=.returned (.tuple #[.agg #[x.cq,x.mem,x.bK,x.bJ],()])/\(x∈l/\x.bR=id)/\lH eX 5 333 w w' B g 227 #[room,v] 1 v (mq l (dQ RH.bR l id)) K v':=by
 let⟨p,_⟩:=Hi l id hs hyes;have t:Bw w (aZ w #[(),(),(),()] 182):=aI;have HS:=aa hs;have a:g≠w:=mi hb.lt;let⟨L,ad,F⟩:=Jh3 (hb.keep t) (cJ ho t) hKv;let⟨H,R,Q⟩:=Jh3 (vZ g room v l id _ L.o (Sl.own kK ad.o) hn hs) (bI.new w 182 #[(),(),(),()]) hyes;have hf:=bV ho;obtain⟨n1,k1,rfl⟩:=hf;let⟨i,r⟩:=aH (dQ RH.bR l id);have ab:=aa r;rw[r]at p;have ae:=aa (CH l i p);clear hb ho hs hyes hKv r;go_enter func261,ntmps261;go_wp2_with(first
  |(go_at_call 308;refine H.o.bC ?_;rintro e w1⟨x,rfl,j,b⟩;have j:=j Q.o;rw[Q.o];have bw:=(t.bu (b.bC t.size)).alloc (t.bu (b.bC t.size)).size (.cells #[x.cq,x.mem,x.bK,x.bJ] 182);have X:=aa ((R.o.keep b).alloc (bH #[x.cq,x.mem,x.bK,x.bJ] 182));have V1:=aa (bI.new w1 182 #[x.cq,x.mem,x.bK,x.bJ]);have T:g≠w1:=mi (L.o.keep b).lt;have J:=aa ((L.o.keep b).alloc (bH #[x.cq,x.mem,x.bK,x.bJ] 182));have O1:=aa ((cJ ad.o b).alloc (bH #[x.cq,x.mem,x.bK,x.bJ] 182));have S:=aa (CD g _ room l id _ J.o (Sl.own kK O1.o) af HS.o);clear b)
  |(go_at_call 320;refine S.o.bC ?_;rintro e w2⟨rfl,f⟩;rw[ab.o,Q.o];have m:=aa (J.o.keep f);have D:=aa (cJ O1.o f);have R2:=aa (X.o.keep f);have V2:=aa (V1.o.keep f);have Z:=m.o.c 1;have ac:=bw.bu (f.bC bw.size);clear f)
  |(go_at_call 321;refine(Qj B i _ l _ D.o p af).bC ?_;rintro e O⟨v',rfl,M⟩;have d:=aa (bI.grown m.o D.o M.grown ah);have P:=aa (Hr (l':=mq l i) (K:=K) m.o D.o (by rw[ae.o];exact M) hB hKg F.o);have V:=aa ((bI.grown R2.o D.o M.grown ah).far (k:=g) 1 v' (by exact fun e=>a e.symm));have z:=aa ((bI.grown V2.o D.o M.grown ah).far (k:=g) 1 v' (by exact fun e=>T e.symm));have E:=bV M.own;obtain⟨A,u,rfl⟩:=E;clear M;have s:=d.o.c 1;have y:=d.o.free 1;have N:=z.o.c 0;have v1:=z.o.c 1;have G:=z.o.c 2;have C:=z.o.c 3)
  |(refine fQ rfl 182 _ _ rfl rfl w #[x.cq,x.mem,x.bK,x.bJ] rfl rfl aj aD _ V.o rfl ?_;intro W5 P5;have q:=aa P5;have W:=P5.row.c 0;have I:=P5.row.c 1;have h:=P5.row.c 2;have s3:=P5.row.c 3))
 refine wb (v:=.tuple #[.agg #[x.cq,x.mem,x.bK,x.bJ],()]) (by simp[results,results261,go_sem,W,I,h,s3]) rfl ?_;rw[ab.o];let⟨n,M,Y⟩:=Jt3 P.o V.o q.o;have U:cg B [227,333] K w w2:=cg.below ac;refine⟨x,.slice A (l.length-1) u,rfl,j, ?_, ?_,(U.bu n.mod).CQ Y (bL _),n.goes.later ac.size⟩
 ·exact(Y.far g a).bu n.blk
 ·exact ed n.own fun k hk=>Y.far k (fp M n.own ah k hk)
def cg.Qs(n:Nat)(h:cg B TS K (w.drewN n) w'):cg B TS K w w':=⟨h.os,h.tape,h.output,h.size,h.far⟩
def Qt(x:Tm)(B g:Nat)(room:Int)(v:bE)(l:bF Tm)(K:bF Nat)(w:bD)(hb:bI w g 150 #[room,v])(hB:B<=g)(hBw:B<=w)(ho:w.ownsRow B 197 4 v l (bN fB l))(hx:x∉l)(hr:(l:Int)<room)(hn:l.length<=1000)(hKg:g∉K)(hKv:∀k,v.ownBlock=some k->k∉K):
  bG 101 #[ptr g,kM x] w fun e w'=>∃v',e=.returned (aY 0)/\lH fB 4 197 w w' B g 150 #[room,v] 1 v (l++[x]) K v':=by
 let⟨i0,p,S,ac,q⟩:=wm xS;have P:Bw w (aZ w (dL x) 197):=aI;let⟨T,L,j,F⟩:=Jh4 (bI.new w 197 (dL x)) (hb.keep P) (cJ ho P) hKv;have t:Hid (decide (x∈l)=false):=aa (dF hx);obtain⟨Q,I,rfl⟩:=bV ho;have U:(w.alloc (bH (dL x) 197)).cell? (be g 1)=some (.slice Q l I)/\(w.alloc (bH (dL x) 197)).cell? (be w 0)=x.dh/\(w.alloc (bH (dL x) 197)).cell? (be w 1)=x.cq/\(w.alloc (bH (dL x) 197)).cell? (be w 2)=x.mem/\(w.alloc (bH (dL x) 197)).cell? (be w 3)=x.fY:=⟨L.o.c 1,T.o.c 0,T.o.c 1,T.o.c 2,T.o.c 3⟩;clear hb ho hKv hx;go_enter func101,ntmps101;go_wp2_with fail;dsimp only[dL]at P T L j U;generalize ab:w.alloc (bH #[x.dh,x.cq,x.mem,x.fY] 197)=W0 at*;clear ab;go_region_held3(fun W=>W.cell? (be g 1)=some (.slice Q l I)/\W.cell? (be w 0)=x.dh/\W.cell? (be w 1)=x.cq/\W.cell? (be w 2)=x.mem/\W.cell? (be w 3)=x.fY) (first|exact U|assumption|go_keep)
  (first|(go_at_call 142;refine(OU _ l x _ (Sl.own mj j.o).d af).bC ?_;rintro e V⟨rfl,b⟩;rw[t.o];have J:=aa (L.o.keepD b);have O:=aa (T.o.keepD b);have O1:=aa (sx j.o b);have z:Bw w V:=(iY P b P.size);have ad:V.cell? (be g 1)=some (.slice Q l I)/\V.cell? (be w 0)=x.dh/\V.cell? (be w 1)=x.cq/\V.cell? (be w 2)=x.mem/\V.cell? (be w 3)=x.fY:=⟨J.o.c 1,O.o.c 0,O.o.c 1,O.o.c 2,O.o.c 3⟩))
 rename_i r;clear r ad U b;let⟨q0,E⟩:=J.o.k2 0 1;have hd:decide (room<=(l:Int))=false:=dF af;go_wp2_with fail;go_quiet(fail);have Z:=aa (show bI (V.drewN nq) g 150 #[room,.slice Q l I]from J.o);have AX:=aa (show bI (V.drewN nq) w 197 #[x.dh,x.cq,x.mem,x.fY]from O.o);have H:=aa (show(V.drewN nq).ownsRow B 197 4 (.slice Q l I) l (bN fB l)from O1.o);have bX:=gM z nq;clear q0 E J O O1 z hd T L j P;generalize V.drewN nq=X at*;let⟨R,E,i,n,a2,a3⟩:=Jt6 bX.size (Z.o.c 1) (AX.o.c 0) (AX.o.c 1) (AX.o.c 2) (AX.o.c 3);have G:=(Z.o.alloc (bH (dL x) 197)).c 1;let⟨N,f⟩:=aH ((l++[x]).length);have D:=aa f;clear f;go_wp2;go_region_law((refine lV mj ah sq _ aB _ _ 148 aB B 197 i0 (.agg #[(),(),(),()]) 32 underlying148 p S ac q aB (.slice Q l I) l aB (by exact H.o.alloc _) (some (be X 0)) 1 1 [x] aB aB (by exact Sl.sq _ x) aP aO aA ?_;intro v' w2 h a M;have T2:=aa (uw (w:=X.alloc (bH (dL x) 197)) (off:=1) (K:=K) (Z.o.alloc _) (by exact H.o.alloc _) (by exact⟨a.os,a.tape,a.output,a.size,a.block⟩) h (by exact M) ah hB hKg F.o);have m:=aa (bI.grown (w:=X.alloc (bH (dL x) 197)) (Z.o.alloc _) (by exact H.o.alloc _) (by exact⟨a.os,a.tape,a.output,a.size,a.block⟩) ah);have C:=h;rw[D.o]at C;obtain⟨A,u,rfl⟩:=bV C;clear C;have s:=m.o.c 1;have y:=m.o.free 1))
 all_goals
  clear a M h s y m E G i n a2 a3;generalize(w2.setCell (be g 1) (.slice A N u))=Y at*
  go_wp2;go_ret;refine⟨.slice A N u,rfl,T2.o.blk,T2.o.own,((cg.below bX).alloc _).bu T2.o.mod,T2.o.goes.later aA⟩
