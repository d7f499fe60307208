/- Lemmas for TopShares and TopKept; no law is closed here. -/
import Derived.Test.YtmhohaanddglbaaGreatDoorM06
set_option linter.all false
set_option maxRecDepth 100000
set_option maxHeartbeats 16000000
namespace Go.Proofs.YtmhohaanddglbaaGreatDoor
open Go.RowKit Go.Proofs.Tryz ZA ZU ZI ZD ZP ZR ZT ZS ZE ZO
variable{p:Prop}
def Qaf(h:p:=by go_wp2_with fail;refine wb (v:=.string ⟨#[99,121,99,108,101,115]⟩) aR rfl ?_;exact ae.o (fun hv=>by have h:=E.o.1 hv.bU;have h2:a<x.cut/\x.cut<x.cI/\x.cI<x.fJ/\x.fJ<x.close/\x.close<=1000/\jh x.close (C.bU.drop (k+1)):=h;have:=ah.o;omega) _ (by intro h;have:=ym (fun b:ByteArray=>b.data.size) h;simp at this) _ an.o):p:=h
def Qak(h:p:=by intro h;have:=ym (fun b:ByteArray=>b.data.size) h;simp at this):p:=h
def QaI(h:p:=by
  go_wp2_with(first
   |(go_at_call 174;refine I.o.bC ?_;rintro e T⟨rfl,d⟩;have C5:=aa d)
   |(go_at_call 102;refine(G.o _ C5.o).bC ?_;rintro e F⟨rfl,N,L⟩;have j:=aa L))
  go_end0;exact⟨N,l,rfl,K.o,j.o⟩):p:=h
def QaS(h:p:=by clear N R;go_wp2;go_ret2;exact⟨_,_,_,_,rfl,u.o,q.o.1,q.o.2,p.o⟩):p:=h
def Qa9(h:p:=by go_enter func56,ntmps56;go_wp2_with fail;refine wb (v:=.bool false) (by simp[results,results56,go_sem]) rfl ?_;exact⟨_,rfl,K.o,a.o⟩):p:=h
def Qbo(h:p:=by rw[<-J.gd];exact u.o.at'.blk.c 8):p:=h
def Qbq(h:p:=by rw[h.phase];decide):p:=h
def Qbr(h:p:=by rw[g];rfl):p:=h
def Qbs(h:p:=by
  repeat' split
  all_goals first
   |exact hd
   |(intro x j
     rcases rT j with h|h
     ·exact hd x h
     ·subst h;exact yu _)):p:=h
def QbG(h:p:=by have:=(h.ld hv hn).1;omega):p:=h
def QbI(h:p:=by go_enter func58,ntmps58;go_wp2;go_ret;exact⟨rfl,rfl⟩):p:=h
def QbK(h:p:=by simp only[a,gL,jE];unfold maxLen;omega):p:=h
def QbU(h:p:=by have:=h.ld hv hn;omega):p:=h
def QbY(h:p:=by obtain⟨_,_,rfl⟩:=h;exact⟨⟨r,q,u,I.w,b⟩,rfl,rfl,id,fun m hm=>hm,[],au,au,nofun⟩):p:=h
def QbZ(h:p:=by show 2*n+30000*i+dB j Y.phase<=2*(n+1)+30000*i+dB j Y.phase;omega):p:=h
def Qb1(h:p:=by show Y.told<=_;omega):p:=h
def Qcb(h:p:=by show([]:bF Ev).length+2*([]:bF Ev).length<=900000;decide):p:=h
def Qck(h:p:=by clear e h;go_enter func57,ntmps57;go_wp2;go_ret;exact⟨by rw[K.o];rfl,rfl⟩):p:=h
def Qcl(h:p:=by
  show([]++List.drop _ _++[_]).length<=2
  simp[YS.opened,DS.fT,DS.post,Y0,D0]):p:=h
def Qco(h:p:=by simp only[a,gL,jE];omega):p:=h
def Qcq(h:p:=by clear hb h;go_enter func199,ntmps199;go_wp2;go_ret;exact⟨_,rfl,bM _ _⟩):p:=h
def Qcr(h:p:=by go_roundw;exact⟨k+1,_,_,_,af,by first|rfl|go_num|simp,K.o⟩;exact eZ af):p:=h
def Qcx(h:p:=by exact⟨l.os,l.tape,l.output,l.size,l.block⟩):p:=h
def QcE(h:p:=by rw[hk];decide):p:=h
def QcF(h:p:=by simp[results,results108,go_sem,W,I,n,K,t,S]):p:=h
def QcH(h:p:=by rw[List.replicate_succ' (n:=k)];exact P.o):p:=h
def Qde(h:p:=by rw[<-J.gr];exact Y2.o.at'.blk.c 9):p:=h
def Qdh(h:p:=by rw[<-J.gr];exact q.o.at'.blk.c 9):p:=h
def Qdn(h:p:=by simp[results,results25,go_sem]):p:=h
def Qdq(h:p:=by
  show[]++(eP C.bU).take (eP C.bU).length=_
  rw[ic,lU]):p:=h
section
attribute [local go_sem ↓] wp_at_zero wp_at_succ
def jb(B:Nat)(Y:YS)(c:Cm)(Q:Int->Int->YS->Prop):Prop:=∀W A,dp W B A Y->Calls prog 9 #[ptr A.gy,rB c] W fun e w'=>∃er n A' Y',e=.returned (yx er n)/\dr B W w' A A' Y'/\Q er n Y'
variable{B g:Nat}{Y:YS}{Q:Int->Int->YS->Prop}{W:bD}{A:YA}
def jb.at{c:Cm}(h:jb B Y c Q)(hA:dp W B A Y)(e:A.gy=g):bG 9 #[ptr g,rB c] W fun e w'=>∃er n A' Y',e=.returned (yx er n)/\dr B W w' A A' Y'/\Q er n Y':=by subst e;exact h W A hA
def qM(c:Cm)(he:c.kX=0)(hm:qn Y.phase c.kd=true)(f:Nat)(hf:c.kd+70=f)(eg:∀args w,(callFunc f args).run prog w=.ok (.enter f args) w)(Q:Int->Int->YS->Prop)(hh:iF B f Y c Q):jb B Y c fun er n Y'=>∃Y1 n1,Q n1 er Y1/\dv Y1/\Y'=Y1.hear/\n=if er=0 then n1 else 0:=fun W A h=>
 (YM h c he hm f hf eg Q hh).bC fun _ _ ⟨n,er,A',Y',he,hs,hk,hq⟩=>⟨er,_,A',_,he,hs,Y',n,hq,hk,rfl,rfl⟩
def lP:Cm:=⟨10,0,0,0,0,0,0⟩
def yA(B:Nat)(A:YA)(P:YS->Prop)(w:World)(e:Ending)(w':World):Prop:=∃A' Y',e=.returned (.tuple #[])/\dr B w w' A A' Y'/\P Y'
variable{w:bD}
def Zp(h:dp w B A Y)(n:Nat)(hn:n<=100000)(R:Nat->YS->Prop)(h0:R 0 Y)(hd:∀i,i<n->∀Y1,R i Y1->jb B Y1 lP fun _ _ Y2=>R (i+1) Y2):bG 18 #[ptr A.gy,n] w (yA B A (R n) w):=by
 let⟨U,Q,E⟩:=Jh3 h h0 hd;have u:Hid (∀w' A' Y',dr B w w' A A' Y'->R n Y'->yA B A (R n) w (.returned (.tuple #[])) w'):=aa (fun w' A' Y' h1 h2=>⟨A',Y',rfl,h1,h2⟩);clear h h0 hd;go_enter func18,ntmps18;go_wp2;go_loopw[4] (fun vi wr=>∃(k:Nat) (d:YA) (Y1:YS),k<=n/\vi=k/\dr B w wr A d Y1/\R k Y1) (aW n);exact⟨0,A,Y,cH _,rfl,dr.same U.o (bM _ _),Q.o⟩;obtain⟨k,d,Y1,p,rfl,t,D⟩:=hrel;let⟨X,q⟩:=Jh2 t D;clear t D;by_cases c:k<n
 ·have O:0<=(k:Int):=af;have C:k<(n:Int):=af;have b:=aa ((E.o k c Y1 q.o).at X.o.at' X.o.gy);unfold lP at b;go_wp2_with(go_at_call 9;refine b.o.bC ?_;rintro e g⟨l,m,x,Z,rfl,W,a⟩;have j:=aa (X.o.bu W);have y:=aa a;clear W a);go_roundw;exact⟨k+1,x,Z,af,aw,j.o,y.o⟩;exact eZ af
 ·obtain rfl:k=n:=af;have f:¬(k<(k:Int)):=af;go_wp2;go_end0;exact u.o _ _ _ X.o q.o
end
def D0(C:bZ):DS:={C:=C,bal:=List.replicate ((C.secs.length+1)*(6+3*C.mem.length)) 0,holds:=[],bQ:=[],cv:=[],who:=[],dt:=0,state:=0,nE:=false,log:=[]}
def G0(C:bZ):GS:={C:=C,cj:=[],used:=[],dW:=0}
def Y0(C:bZ):YS:={C:=C,D:=D0 C,G:=G0 C,ce:=[],phase:=0,clock:=0,cycle:=0,told:=0,log:=[]}
def rF(w:bD)(B T k:Nat){α:Type}(enc:α->bF bE):w.ownsRow B T k bd ([]:bF α).length (bN enc ([]:bF α)):=⟨aK,bS ⟨rfl,rfl⟩⟩
def Zq(C:bZ)(w:World)(e:Ending)(w':World):Prop:=∃A:YA,e=.returned (.tuple #[ptr A.gy,()])/\dp w' w A (Y0 C)/\Bw w w'
def EP(vm vs vc:bE)(C:bZ)(w:bD)(hc:dM w vm vs vc C)(hv:dz C)(hw:kO w):bG 8 #[eT vm vs vc C] w (Zq C w):=by
 refine(NJ vm vs vc C w hc hv).bC ?_;rintro e y⟨gy,gd,gr,gw,gv,gb,gh,gs,gx,gt,gu,vb,b,i,c,um,us,uc,F,H,v,A,N,d,rfl,h,u⟩;refine⟨{gy:=gy,gw:=gw,D:={gd:=gd,gv:=gv,gb:=gb,gh:=gh,gs:=gs,gx:=gx,vm:=F,vs:=H,vc:=v,vb:=vb,vh:=.slice none 0 0,vo:=.slice none 0 0,um:=um,us:=us,uc:=uc,vx:=.slice none 0 0,vw:=.slice none 0 0,vl:=.slice none 0 0,dd:=0},G:={gr:=gr,gt:=gt,gu:=gu,vm:=A,vs:=N,vc:=d,vt:=.slice none 0 0,vu:=.slice none 0 0},vm:=b,vs:=i,vc:=c,vt:=.slice none 0 0,vl:=.slice none 0 0},rfl, ?_,u⟩;have l:=h.dg;have a:=h.reg;refine⟨h.blk,h.ct, ?_, ?_, ?_,rF _ _ _ _ _,fun k hk=>by simp[Value.ownBlock]at hk,h.l1,hw.keep u,tZ (cH _) hw.lt⟩
 ·exact⟨l.blk,l.ct,⟨l.gC.blk,l.gC.book,l.gC.holds,rF _ _ _ _ _,l.gC.l1,l.gC.l2,l.gC.l3⟩,⟨l.fZ,rF _ _ _ _ _,l.l2⟩,l.box.blk,l.box.ct,rF _ _ _ _ _,rF _ _ _ _ _,rF _ _ _ _ _,l.l1,l.box.l1⟩
 ·exact⟨a.blk,a.ct,a.cj,a.used,rF _ _ _ _ _,rF _ _ _ _ _,a.l1,a.l2,a.l3⟩
 ·exact⟨h.ce,rF _ _ _ _ _,h.l2⟩
variable{C:bZ}
def yB(hv:dz C):dv (Y0 C):=by
 refine⟨rfl,rfl,⟨hv,by show(List.replicate _ _).length=_;rw[oq];rfl, ?_,by simp[Y0,D0], ?_,by simp[Y0,D0],fun x hx=>by simp[Y0,D0]at hx,by simp[Y0,D0]⟩, ?_,cH _, ?_,by simp[Y0],by simp[Y0],by simp[Y0,D0],fun x hx=>by simp[Y0,D0]at hx⟩
 ·intro n H;rw[List.eq_of_mem_replicate H];unfold bO;omega
 ·exact List.Pairwise.nil
 ·have d:=hv.cj;have c:0<=C.cj*(C.bU:Int):=ud af af;exact⟨⟨hv,by simp[Y0,G0],by simp[Y0,G0],List.Pairwise.nil,List.Pairwise.nil⟩,fun x hx=>by simp[Y0,G0]at hx,by simp[Y0,G0],by show(0:Int)<=C.cj;omega,by show((0:Nat):Int)<=C.cj*(C.bU:Int);omega,fun x hx=>by simp[Y0,G0]at hx,fun x hx=>by simp[Y0,G0]at hx⟩
 ·have d:=hv.c1;show((0:Nat):Int)<=4*(C.bU:Int)+2*(C.mem:Int)
  omega
section
attribute [local go_sem ↓] wp_at_zero wp_at_succ
def yC:Cm:=⟨1,0,0,0,0,0,0⟩
def rG(t:Tr):Cm:=⟨2,t.id,t.dD,t.dE,t.cP,t.cK,t.cF⟩
variable{B:Nat}{w W:bD}{A:YA}{Y:YS}
def wP{W2:bD}{A':YA}(s:dr B W W2 A A' Y)(hB:w.heap.size<=B)(h:Bw w W):Bw w W2:=⟨s.mod.os.bu h.os,s.mod.tape.bu h.tape,s.mod.output.bu h.output,bW h.size s.mod.size,fun k hk=>(s.mod.far k (iN hk h.size) (bS (iN hk hB))).bu (h.block k hk)⟩
end
def yD:∀(l:bF Cy) (a:Int),jh a l->(eP l).Pairwise (fun s t=>s.dh<t.dh)/\∀t∈eP l,a<t.dh/\t.dh<=1000/\t.cq≠2:=by
 intro l;induction l with
 |nil=>intro a _;exact⟨List.Pairwise.nil,by simp[eP]⟩
 |cons x l ih=>
  intro a h;have b:a<x.cut/\x.cut<x.cI/\x.cI<x.fJ/\x.fJ<x.close/\x.close<=1000/\jh x.close l:=h;obtain⟨d,c,i,M,V,A⟩:=b;let⟨G,g⟩:=ih _ A;have e:eP (x::l)=m9 x++eP l:=by simp[eP]
  rw[e];constructor
  ·rw[List.pairwise_append];refine⟨?_,G, ?_⟩
   ·simp[m9];omega
   ·intro s L t f;have:=g t f
    simp[m9]at L;rcases L with rfl|rfl|rfl|rfl<;>(dsimp only;omega)
  ·intro t f;rcases xq.1 f with f|f
   ·simp[m9]at f;rcases f with rfl|rfl|rfl|rfl<;>(dsimp only;omega)
   ·have:=g t f;omega
def EQ(h:dz C):(eP C.bU).Nodup:=(yD _ _ h.bU).1.imp fun h e=>by subst e;omega
def Lb(h:dz C):∃x l,C.bU=x::l/\fN C 0=x/\iE C 0/\1<=x.cut/\x.cut<x.cI/\x.cI<=1000/\∀t∈eP C.bU,t=⟨x.cut,1,0,0⟩∨x.cut<t.dh:=by
 have d:=h.c1;have c:=h.bU;cases hc:C.bU with
 |nil=>rw[hc]at d;simp at d
 |cons x l=>
  rw[hc]at c;have b:0<x.cut/\x.cut<x.cI/\x.cI<x.fJ/\x.fJ<x.close/\x.close<=1000/\jh x.close l:=c;obtain⟨d,c,g,M,V,A⟩:=b;have f:iE C 0:=by unfold iE;rw[hc,gL];omega
  refine⟨x,l,rfl,by unfold fN;rw[yc f,hc];rfl,f,af,c,af, ?_⟩;intro t a;have e:eP (x::l)=m9 x++eP l:=by simp[eP]
  rw[e]at a;rcases xq.1 a with a|a
  ·simp[m9]at a;rcases a with rfl|rfl|rfl|rfl
   ·exact bS rfl
   all_goals(right;dsimp only;omega)
  ·have:=(yD l _ A).2 t a
   right;omega
variable{m:Int}
def Lc{i:Int}:∀t∈ky C i m,t.cq=2/\t.mem=m/\(fN C i).cut<t.dh:=by
 intro t a;unfold ky at a;obtain⟨p,s,rfl⟩:=Fy.1 a;unfold iL at s;let⟨j,_,J⟩:=acY.1 s;split at J
 ·rename_i P;injection J with J;subst J;exact⟨rfl,rfl,P.2⟩
 ·exact xl J au
def Zr{i:Int}:(ky C i m).Nodup/\(ky C i m).length<=2:=by
 refine⟨?_,by unfold ky;rw[cR];exact Eh _ _ _⟩;unfold ky;have e:∀x,iL C x 2=(if 0<C.lead/\x.cut<x.cI-(2-(0:Int))*C.lead then[((0:Int)+1,x.cI-(2-(0:Int))*C.lead)]else[])++(if 0<C.lead/\x.cut<x.cI-(2-(1:Int))*C.lead then[((1:Int)+1,x.cI-(2-(1:Int))*C.lead)]else[]):=by
  intro x;rw[Af,Af];rfl
 rw[e];split<;>split<;>simp[lx]
def Ax(Y:YS):∀n:Nat,(∀t∈fb Y n,t.cq=2/\1<=t.mem/\t.mem<=n/\(fN Y.C Y.cycle).cut<t.dh)/\(fb Y n).Nodup/\(fb Y n).length<=2*n:=by
 intro n;induction n with
 |zero=>exact⟨by simp[fb],by simp[fb],by simp[fb]⟩
 |succ n ih=>
  obtain⟨G,b,f⟩:=ih;unfold fb;let⟨Z,g⟩:=Zr (C:=Y.C) (i:=Y.cycle) (m:=(n:Int)+1);split
  ·refine⟨?_, ?_,aN⟩
   ·intro t a;rcases xq.1 a with a|a
    ·have:=G t a;omega
    ·have:=Lc t a;omega
   ·rw[xB];refine⟨b,Z, ?_⟩;intro s L t a e;subst e;have d:=G s L;have c:=Lc s a;omega
  ·refine⟨?_,by rw[ix];exact b,by rw[ix];omega⟩;intro t a;rw[ix]at a;have:=G t a;omega
def Zs:∀(T:bF Tr),(∀t∈T,ny t)->(iV ((T.flatMap eB).map (·.bJ)):Int)<=2*iD T+549755813888*(T:Int):=by
 intro T;induction T with
 |nil=>intro _;simp[iV,iD]
 |cons t T ih=>
  intro h;have d:=ih fun x hx=>h x (jS _ hx);have c:=h t (iG ..);have N:=c.v0;have A:=c.q0;have o:iV (((t::T).flatMap eB).map (·.bJ))=2*(eA t).1.natAbs+2*t.cK.natAbs+iV ((T.flatMap eB).map (·.bJ)):=by
   unfold iV;rw[xC];simp only[eB,rY,lU,eu,ii,Int.natAbs_neg];omega
  have r:iD (t::T)=(eA t).1+iD T:=by simp[iD]
  rw[o,r,gL];omega
variable{T:bF Tr}
def ER(h:kW C T):qF (T.flatMap eB):=by let⟨d,c,x⟩:=Jt3 (Zs T h.good) h.mA h.n;unfold qF;omega
structure j8(C:bZ)(T:List Tr)(c:Int)(k:Nat)(Y:YS):Prop where
 ok:dv Y
 ct:Y.C=C
 dg:Y.D=(D0 C).fT
 rel:nX Y.G T
 ce:Y.ce=eP C.bU
 phase:Y.phase=1
 clock:Y.clock=c
 cycle:Y.cycle=0
 log:Y.log.length<=k
def ES(C:bZ):(D0 C).fT.log=[]:=rfl
variable{c:Int}{k:Nat}{Y:YS}
def j8.hear(h:j8 C T c k Y):j8 C T c k Y.hear:=
 ⟨h.ok.hear,h.ct,h.dg,h.rel,h.ce,h.phase,h.clock,h.cycle,by
  have:Y.D.log=[]:=by rw[h.dg];rfl
  show(Y.log++Y.D.log.drop Y.told).length<=k
  rw[this];simpa using h.log⟩
structure tF(C:bZ)(T:List Tr)(Y:YS):Prop where
 ok:dv Y
 ct:Y.C=C
 phase:Y.phase=2
 list:Y.G.list=T
 bT:∃bT,yp C T bT/\Y.D.bQ=bT.map (jK 1)/\Y.D=(D0 C).fT.me bT
 clock:Y.clock=(fN C 0).cut
 cycle:Y.cycle=0
 ce:Y.ce=((eP C.bU).filter fun u=> !iJ ⟨(fN C 0).cut,1,0,0⟩ u)++fb Y C.mem
 log:Y.log.length<=4000
 kG:Y.D.log.length<=1024
variable{Z:YS}
def Ld(h1:Y.C=Z.C)(h2:Y.cycle=Z.cycle)(h3:Y.D.bQ=Z.D.bQ):∀n,fb Y n=fb Z n:=by
 intro n;induction n with
 |zero=>rfl
 |succ n ih=>
  unfold fb;rw[ih];unfold YS.lacks YS.wL;rw[h1,h2,h3]
def tF.hear(h:tF C T Y)(hl:Y.log.length<=2900):tF C T Y.hear:=⟨h.ok.hear,h.ct,h.phase,h.list,h.bT,h.clock,h.cycle,h.ce.bu (by rw[Ld (Y:=Y) (Z:=Y.hear) rfl rfl rfl]),by
 have:=h.kG
 show(Y.log++Y.D.log.drop Y.told).length<=4000
 rw[cO,fc];omega,h.kG⟩
variable{B:Nat}
def Zt(h:j8 C T c k Y)(hk:k<=1000)(hc:0<=c)(hlt:c+1<(fN C 0).cut):jb B Y lP fun _ _ Y'=>j8 C T (c+1) k Y':=by
 have R:dz C:=by rw[<-h.ct];exact h.ok.ct
 let⟨x,l,z,j,E,d,o,r,M⟩:=Lb R;rw[j]at hlt;have a:dv Y.fq:=⟨h.ok.dc,h.ok.gc,h.ok.ez,h.ok.gH,h.ok.told,h.ok.ce,h.ok.bU,by show 0<=Y.clock+1/\Y.clock+1<=100000;rw[h.clock];omega,h.ok.cn,h.ok.jD⟩;have U:Y.fq.log.length+Y.fq.D.log.length<=999000:=by
  show Y.log.length+Y.D.log.length<=999000;rw[h.dg,ES];have:=h.log
  simp only[jE];omega
 have u:=yz (B:=B) (Y:=Y) lP h.ok (fun f=>f=Y.fq) (fun _=>0) rfl (fun f e=>by subst e;exact⟨a,U,rfl⟩) (fun f t e hf=>by
  subst e;obtain⟨P,g,_,Z⟩:=hf;let⟨v,b⟩:=wK g Z;have v:t∈eP C.bU:=by rw[<-h.ce];exact v
  have b:t.dh<=Y.clock+1:=b;rw[h.clock]at b;rcases M t v with h5|h5
  ·subst h5;simp only at b;omega
  ·omega)
 intro W A i;refine(qM lP ah Qbq 80 rfl (fun _ _=>rfl) _ u W A i).bC ?_;rintro e y⟨m,n,q,Y',V,L,f,s,⟨_,_,p,rfl,_,rfl⟩,_,rfl,_⟩;refine⟨m,n,q,_,V,L, ?_⟩;exact j8.hear (Y:=Y.fq) ⟨a,h.ct,h.dg,h.rel,h.ce,h.phase,by show Y.clock+1=c+1;rw[h.clock],h.cycle,h.log⟩
variable{D':DS}
def Zu{G:GS}(hv:dz C)(hrel:nX G T)(hC:G.C=C){r:Int}(h:iU (D0 C).fT G.fd r D'):∃bT,yp C G.list bT/\D'.bQ=bT.map (jK 1)/\D'=(D0 C).fT.me bT/\D'.log.length<=1024:=by
 have ha:kW C G.list:=by rw[<-hC];exact Ec hrel
 have d:=hv.c1;unfold iU at h;rw[ya (show¬((D0 C).fT.state≠0)from fun h=>h rfl),ya (show¬(((D0 C).fT.C.bU.length:Int)<=(D0 C).fT.dt)from by show¬((C.bU:Int)<=0);omega)]at h;obtain⟨bT,j,f,h⟩:=h;have f:mx C (G.list.flatMap eB) bT j:=f;let⟨t,E⟩:=Jt ha f;have S:=E.len;have a:wrap64 ((D0 C).fT.dt+1)=1:=by show wrap64 (0+1)=1;unfold wrap64;omega
 have L:iA (D0 C).fT.bQ (wrap64 ((D0 C).fT.dt+1)) bT=(0,bT.map (jK 1)):=by
  rw[a];show iA [] 1 bT=_;unfold iA;rw[ya aA,ya (by simp[lw]),ya au,ya (by rw[E.acX];simp)];simp
 rw[ya (by simp[t]),ya (by rw[show pU ((D0 C).fT.C.secs.length+1) bT=0 from E.CX];simp),L]at h;rw[ya au]at h;obtain⟨_,rfl⟩:=h;have h:=EL (((D0 C).fT.opened bT).tell (jn bT)) (D0 C).fT.C.mem.length;refine⟨bT,E, ?_,rfl, ?_⟩
 ·show((D0 C).fT.me bT).bQ=_
  unfold DS.me;rw[h.1];show(iA (D0 C).fT.bQ (wrap64 ((D0 C).fT.dt+1)) bT).2=_
  rw[L]
 ·show((D0 C).fT.me bT).log.length<=_
  unfold DS.me;rw[h.2.1];show([]++jn bT).length<=1024
  unfold jn;simpa using S
def Zv(h:j8 C T c k Y)(hk:k<=1000)(hlt:c+1=(fN C 0).cut):jb B Y lP fun _ _ Y'=>tF C Y.G.list Y':=by
 have R:dz C:=by rw[<-h.ct];exact h.ok.ct
 let⟨x,l,z,j,E,h1,h2,h3,M⟩:=Lb R;rw[j]at hlt;have d:=R.c2;have N:=zp C.bU;have ae:dv Y.fq:=⟨h.ok.dc,h.ok.gc,h.ok.ez,h.ok.gH,h.ok.told,h.ok.ce,h.ok.bU,by show 0<=Y.clock+1/\Y.clock+1<=100000;rw[h.clock];omega,h.ok.cn,h.ok.jD⟩;have U:Y.fq.log.length+Y.fq.D.log.length<=999000:=by
  show Y.log.length+Y.D.log.length<=999000;rw[h.dg,ES];have:=h.log
  simp only[jE];omega
 have ac:Y.G.C=C:=by rw[<-h.ct];exact h.ok.gc
 let⟨J,aa⟩:∃J:Tm,J=⟨x.cut,1,0,0⟩:=⟨_,rfl⟩;have S:J∈eP C.bU:=by rw[aa,z];simp[eP,m9]
 let⟨I,hI⟩:∃I:YS->Prop,I=fun Z=>Z=Y.fq∨(tF C Y.G.list Z/\Z.clock=x.cut/\(∀t∈Z.ce,x.cut<t.dh)/\Z.log.length<=2900):=⟨_,rfl⟩;have hh:=yz (B:=B) (Y:=Y) lP h.ok I (fun Z=>if Z.phase=1 then 1 else 0) (by rw[hI];exact bS rfl) (fun Y1 e=>by
  rw[hI]at e;rcases e with rfl|⟨e1,e2,e3,e4⟩
  ·exact⟨ae,U,rfl⟩
  ·exact⟨e1.ok,by have:=e1.kG;omega,by rw[e2,h.clock,hlt]⟩) (fun Y1 t e hf=>by
  rw[hI]at e;obtain⟨P,hP,_,hm⟩:=hf;let⟨v,m2⟩:=wK hP hm;rcases e with rfl|⟨e1,e2,e3,e4⟩
  ·have v:t∈eP C.bU:=by rw[<-h.ce];exact v
   have m2:t.dh<=Y.clock+1:=m2;rw[h.clock]at m2;have ht:t=J:=by
    rcases M t v with h5|h5
    ·rw[h5,aa]
    ·omega
   subst ht;let⟨Y2,O⟩:=aH (Y.fq.pop (some t));have w2:Y2.ce=(eP C.bU).filter fun x=> !iJ t x:=by rw[<-O,<-h.ce];rfl
   have s2:Y2.ce.Sublist (eP C.bU):=by rw[w2];exact List.filter_sublist
   have Q:∀u∈Y2.ce,x.cut<u.dh/\u.cq≠2:=by
    intro u X;rw[w2,tU]at X;rcases M u X.1 with h5|h5
    ·exfalso;have:=X.2
     rw[h5,<-aa]at this;simp[iJ]at this
    ·exact⟨h5,((yD _ _ R.bU).2 u X.1).2.2⟩
   have o:(C.room:Int)=4*(C.bU:Int)+2*(C.mem:Int):=rfl;have ag:Y2.ce.length<=4*C.bU.length:=by rw[<-N];exact s2.length_le
   have g:Y2.C=C:=by rw[<-O];exact h.ct
   have D2:Y2.D=(D0 C).fT:=by rw[<-O];exact h.dg
   have G2:Y2.G=Y.G:=by rw[<-O];rfl
   have P2:Y2.phase=1:=by rw[<-O];exact h.phase
   have K2:Y2.clock=x.cut:=by rw[<-O];show Y.clock+1=_;rw[h.clock,hlt]
   have ab:Y2.cycle=0:=by rw[<-O];exact h.cycle
   have L2:Y2.log=Y.log:=by rw[<-O];rfl
   have T2:Y2.told=Y.told:=by rw[<-O];rfl
   have am:dv Y2:=⟨by rw[D2,g];rfl,by rw[G2,g];exact ac,by rw[D2,<-h.dg];exact h.ok.ez,by rw[G2];exact h.ok.gH,by rw[D2,<-h.dg,T2];exact h.ok.told,by rw[g];omega,by rw[ab];omega,by rw[K2];omega,by rw[D2,<-h.dg];exact h.ok.cn,by rw[D2,<-h.dg];exact h.ok.jD⟩;have a:kW C Y.G.list:=by rw[<-ac];exact Ec h.rel
   have hW:∀r K,iU Y2.D Y2.G.fd r K->(Y2.fi K).ce.Nodup/\((Y2.fi K).ce.length:Int)<=Y2.C.room/\∀u∈(Y2.fi K).ce,x.cut<u.dh:=by
    intro r K _;have e:(Y2.fi K).ce=Y2.ce++fb ({Y2 with D:=K}:YS) C.mem:=by
     show Y2.ce++fb _ Y2.C.mem.length=_;rw[g]
    have ad:(fN ({Y2 with D:=K}:YS).C ({Y2 with D:=K}:YS).cycle).cut=x.cut:=by
     show(fN Y2.C Y2.cycle).cut=_
     rw[g,ab,j]
    let⟨b,c2,F⟩:=Ax ({Y2 with D:=K}:YS) C.mem;rw[ad]at b;rw[e];refine⟨?_, ?_, ?_⟩
    ·rw[xB];refine⟨s2.nodup (EQ R),c2, ?_⟩;intro s L u X e;subst e;exact(Q s L).2 (b s X).1
    ·have hr:Y2.C.room=4*(C.bU:Int)+2*(C.mem:Int):=by rw[g];exact o
     rw[cO];omega
    ·intro u X;rcases xq.1 X with X|X
     ·exact(Q u X).1
     ·exact(b u X).2.2.2
   have al:Y2.log.length+2*Y2.D.log.length<=800000:=by
    rw[L2,D2,ES];have:=h.log
    simp only[jE];omega
   have m:Y2.G.fd=Y.G.list.flatMap eB:=by rw[G2];rfl
   rw[O];intro W A hA;refine(KZ t (by rw[aa]) hA am (by rw[G2];exact a.good) (by rw[m];exact ER a) (by rw[m,Ab];have:=a.n;omega) (by rw[g,ab];exact E) (by rw[g,ab,j];omega) al (fun r K f=>⟨(hW r K f).1,(hW r K f).2.1⟩)).bC ?_;rintro e y⟨q,r,K,V,f,L,i⟩;refine⟨q,_,V,L, ?_, ?_⟩
   ·rw[hI];right
    have ak:iU (D0 C).fT Y.G.fd r K:=by rw[<-D2,<-G2];exact f
    let⟨bT,n1,n2,n3,n4⟩:=Zu R h.rel ac ak;have ai:((Y2.fi K).come ((Y2.fi K).next 1 false)).log.length<=2900:=by
     show(Y2.log++K.log.drop Y2.told++[_]).length<=2900
     have:=h.log
     rw[cO,cO,fc,L2];simp only[eN];omega
    refine⟨⟨i,g, ?_, ?_,⟨bT,n1,n2,n3⟩,by rw[j];exact K2,ab, ?_,af,n4⟩,K2,(hW r K f).2.2,ai⟩
    ·show(Y2.fi K).next 1 false=2
     show(ml Y2.phase 1 false (decide ((Y2.C.bU:Int)<=Y2.cycle))).1=2
     rw[P2];cases decide ((Y2.C.bU:Int)<=Y2.cycle)<;>decide
    ·show Y2.G.list=_;rw[G2]
    ·rw[j,<-aa,<-w2,<-g];show Y2.ce++fb ({Y2 with D:=K}:YS) Y2.C.mem.length=_;rw[Ld (Y:=({Y2 with D:=K}:YS)) (Z:=(Y2.fi K).come ((Y2.fi K).next 1 false)) rfl rfl rfl]
   ·show(if((Y2.fi K).come ((Y2.fi K).next 1 false)).phase=1 then 1 else 0)<(if Y.fq.phase=1 then 1 else 0)
    rw[yc (show Y.fq.phase=1 from h.phase),ya]
    ·exact Nat.zero_lt_one
    ·show¬(ml Y2.phase 1 false (decide ((Y2.C.bU:Int)<=Y2.cycle))).1=1
     rw[P2];cases decide ((Y2.C.bU:Int)<=Y2.cycle)<;>decide
  ·exfalso;have:=e3 t v
   omega)
 intro W A hA;refine(qM lP ah Qbq 80 rfl (fun _ _=>rfl) _ hh W A hA).bC ?_;rintro e y⟨er,n,q,Y',V,L,Y1,n1,⟨_,_,Y2,p,⟨P,hP,aj,H⟩,rfl⟩,_,rfl,_⟩;refine⟨er,n,q,_,V,L, ?_⟩;rw[hI]at p;rcases p with rfl|p
 ·exfalso;have ag:Y.fq.ce=eP C.bU:=h.ce;obtain⟨t,ht,_⟩:=At hP aj (x:=J) (by rw[ag];exact S) (by show J.dh<=Y.clock+1;rw[aa,h.clock];exact Int.le_of_eq hlt.symm);have ht:mz Y.fq.ce P Y.fq.clock=some t:=ht;rw[H]at ht;exact xl ht au
 ·exact tF.hear p.1 p.2.2.2
def Zw(D:DS):∀k,(D.iB k).who=D.who/\(D.iB k).cv=D.cv:=by
 intro k;induction k with
 |zero=>exact⟨rfl,rfl⟩
 |succ k ih=>exact ih
variable{D:DS}
def Zx{r:Int}(I:iu D)(ha:kW D.C T)(hc:0<=D.dt/\D.dt<=100000)(h:iU D (T.flatMap eB) r D'):iu D'/\D'.C=D.C/\D'.who=D.who/\D'.cv=D.cv/\∃ev,D'.log=D.log++ev/\ev.length<=1024/\eM ev:=by
 have O:iu D/\D.C=D.C/\D.who=D.who/\D.cv=D.cv/\∃ev,D.log=D.log++ev/\ev.length<=1024/\eM ev:=⟨I,rfl,rfl,rfl,[],au,au,nofun⟩;unfold iU at h;split at h
 ·obtain⟨_,rfl⟩:=h;exact O
 split at h
 ·obtain⟨_,rfl⟩:=h;exact O
 obtain⟨b,j,q,h⟩:=h;have H:=ha.n;obtain⟨S,u⟩:=DP q (ER ha) (by rw[Ab];omega);have u:∀x∈b,bO x.bJ:=fun x hx=>by have:=u x hx;unfold bO;omega
 have p:=YJ ha (Jt ha q).2;have a:∀x∈b,fE D.C x.mem x.bK=0:=fun x hx=>by
  have t:=p x hx;unfold fE;rw[yc (by unfold fR;omega)];split
  ·rfl
  ·rw[yc (by unfold fX;omega)]
 split at h
 ·obtain⟨_,rfl⟩:=h;exact O
 split at h
 ·obtain⟨_,rfl⟩:=h;exact O
 let⟨i,l⟩:=Yi I.o I.k (wrap64 (D.dt+1)) b a u;have m:=zZ I.ok u (wrap64 (D.dt+1));split at h
 ·obtain⟨_,rfl⟩:=h;exact⟨⟨I.ok.yo m.1 m.2,i,l,I.w,EM I.d _ b⟩,rfl,rfl,rfl,[],au,au,nofun⟩
 ·obtain⟨_,rfl⟩:=h;let⟨f,s,Q⟩:=EL ((D.opened b).tell (jn b)) D.C.mem;let⟨g,v⟩:=Zw ((D.opened b).tell (jn b)) D.C.mem;have c:=I9 ((D.opened b).tell (jn b)) D.C.mem;refine⟨⟨((I.ok.opened u).tell _).iB _, ?_, ?_, ?_, ?_⟩,c,g,v,jn b,s, ?_,fun x hx=> ?_⟩
  ·show iM (DS.iB _ _).C (DS.iB _ _).bQ;rw[c,f];exact i
  ·show jO (DS.iB _ _).who (DS.iB _ _).bQ;rw[g,f];exact l
  ·show(DS.iB _ _).who.length<=16
   rw[g];exact I.w
  ·show∀x∈(DS.iB _ _).bQ,bO x.done
   rw[f];exact EM I.d _ b
  ·unfold jn;rw[cR];exact S
  ·unfold jn at hx;obtain⟨y,_,rfl⟩:=Fy.1 hx;exact bS (show(4:Int)<13 by decide)
section
attribute [local go_sem ↓] wp_at_zero wp_at_succ
def Le(B:Nat)(Y:YS)(P:Bool->DS->Prop):Prop:=∀W A,dp W B A Y->Calls prog 171 #[ptr A.D.gd] W fun e w'=>∃(b:Bool) (y:Int) (A2:DA) (D2:DS),e=.returned (.tuple #[.bool b,y])/\cL B (oG A.vl) W w' A.D A2 D2/\P b D2
def YS.fires(Y:YS)(cq:Int)(short:Bool):YS:=Y.come (Y.next cq short)
def ET(B:Nat)(A:YA)(P:YS->Prop)(w:World)(e:Ending)(w':World):Prop:=∃A' Y',e=.returned (.tuple #[])/\P Y'/\dr B w w' A A' Y'
variable{A:YA}{w:bD}
def Zy(t:Tm)(ht:t.cq=3)(h:dp w B A Y)(P2:Bool->DS->Prop)(P3:Bool->DS->Prop)(hd:Le B Y P2)(h2:∀D2,P2 true D2->P3 true D2)(hs:∀D2,P2 false D2->tE B {Y with D:=D2} (P3 false))(hok:∀b D3,P3 b D3->dv {Y with D:=D3}/\Y.log.length+D3.log.length<=999000):
  bG 118 #[ptr A.gy,kM t] w (ET B A (fun Y'=>∃b D3,P3 b D3/\Y'=({Y with D:=D3}:YS).fires 3 b) w):=by
 obtain⟨i,S,tm,X⟩:=t;obtain rfl:S=3:=ht;let⟨g,v⟩:=aH (w.alloc (bH (dL ⟨i,3,tm,X⟩) 197));have c1:Bw w g:=by rw[<-v];exact aI
 have R:Hid (bI g w 197 (dL ⟨i,3,tm,X⟩)):=aa QaW;let⟨C,f⟩:=Jh2 h (h.keep c1);let⟨E,HS,H2,HK⟩:=Jh4 (hd g A f.o) hs h2 hok;have q:g.cell? (be w 1)=some (.int .i64 3):=R.o.c 1;have s:g.cell? (be A.gy 8)=some (ptr A.D.gd):=f.o.blk.c 8;have ae:=aa v;have u:(w.alloc (bH #[i,(3:Int),tm,X] 197)).cell? (be A.gy 8)=some (ptr A.D.gd):=by rw[show w.alloc (bH #[i,(3:Int),tm,X] 197)=g from v];exact s
 clear h hd hs h2 hok v;go_enter func118,ntmps118;go_wp2_with fail;clear u;rw[show w.alloc (bH #[i,(3:Int),tm,X] 197)=g from ae.o];refine E.o.bC ?_;rintro e k⟨b,y,U,D2,rfl,J,ac⟩;let⟨P,Z,Q2⟩:=Jh3 ac (f.o.pd J) (R.o.cu J.mod ah);have m:k.cell? (be A.gy 8)=some (ptr U.gd):=Z.o.at'.blk.c 8;have u2:k.cell? (be w 1)=some (.int .i64 3):=Q2.o.c 1;clear q s ac J E;have a:Hid (∀b D3,P3 b D3->∀x O,dr B w O A {A with D:=x} ({Y with D:=D3}:YS)->∃p l,bG 174 #[ptr A.gy,(3:Int),.bool b] O (bi (aY p) O)/\(∀W,Bw O W->bG 102 #[ptr A.gy,aY p] W fun e w'=>e=.returned (.tuple #[])/\∃A',dr B w w' A A' l)/\l=({Y with D:=D3}:YS).fires 3 b):=aa fun b D3 p3 x O n=>by
  let⟨ad,z⟩:=HK.o b D3 p3;refine⟨_,_,Au n.at' 3 b,fun W c=> ?_,rfl⟩;have M:=n.keep c;exact(yt M.at' ad z (({Y with D:=D3}:YS).next 3 b)).bC fun e w' ⟨A',V,st⟩=>⟨V,A',M.bu st⟩
 clear HK;cases b with
 |true=>
  let⟨p,l,H,hc,V⟩:=a.o true D2 (H2.o D2 P.o) U k ((dr.same C.o c1).bu Z.o);let⟨I,G⟩:=Jh2 H hc;have K:=aa (show∃b D3,P3 b D3/\l=({Y with D:=D3}:YS).fires 3 b from⟨true,D2,H2.o D2 P.o,V⟩);clear H hc V HS H2 a;exact QaI
 |false=>
  have ab:=aa (HS.o _ P.o _ _ Z.o.at');clear HS H2;go_wp2_with fail;refine ab.o.bC ?_;rintro e O⟨r,x,D3,rfl,n,Q⟩;have u1:O.cell? (be w 1)=some (.int .i64 3):=(Q2.o.cu n.mod ah).c 1;let⟨p,l,H,hc,V⟩:=a.o false D3 Q x O ((dr.same C.o c1).bu (Z.o.bu (Z.o.at'.pd n)));let⟨I,G⟩:=Jh2 H hc;have K:=aa (show∃b D3,P3 b D3/\l=({Y with D:=D3}:YS).fires 3 b from⟨false,D3,Q,V⟩);clear H hc V a n Q ab u2 m;exact QaI
variable{w2:bD}
def Lf{A2:YA}{Y Y2:YS}(st:dr B w w2 A A2 Y2)(ok:dv Y2)(hl:Y2.log.length+Y2.D.log.length<=999000)(k:Int)(b:Bool):∃p Yc,bG 174 #[ptr A.gy,k,.bool b] w2 (bi (aY p) w2)/\(∀W,Bw w2 W->bG 102 #[ptr A.gy,aY p] W fun e w'=>e=.returned (.tuple #[])/\∃A',dr B w w' A A' Yc)/\Yc=Y2.fires k b:=by refine⟨_,_,by rw[<-st.gy];exact Au st.at' k b,fun W c=> ?_,rfl⟩;have M:=st.keep c;rw[<-st.gy];exact(yt M.at' ok hl (Y2.next k b)).bC fun e w' ⟨A',he,st⟩=>⟨he,A',M.bu st⟩
def Zz(t:Tm)(ht:t.cq=4)(h:dp w B A Y)(P3:DS->Prop)(hs:Y.phase=3->tE B Y P3)(hok:∀D3,P3 D3->dv {Y with D:=D3}/\Y.log.length+D3.log.length<=999000):
  bG 118 #[ptr A.gy,kM t] w (ET B A (fun Y'=>(Y.phase≠3/\Y'=Y)∨(Y.phase=3/\∃D3,P3 D3/\Y'=({Y with D:=D3}:YS).fires 4 false)) w):=by
 obtain⟨i,S,n,a⟩:=t;obtain rfl:S=4:=ht;let⟨g,v⟩:=aH (w.alloc (bH (dL ⟨i,4,n,a⟩) 197));have b:Bw w g:=by rw[<-v];exact aI
 have R:Hid (bI g w 197 (dL ⟨i,4,n,a⟩)):=aa QaW;let⟨C,f,U⟩:=Jh3 h (h.keep b) v;have q:g.cell? (be w 1)=some (.int .i64 4):=R.o.c 1;have s:g.cell? (be A.gy 8)=some (ptr A.D.gd):=f.o.blk.c 8;have J:g.cell? (be A.gy 11)=Y.phase:=f.o.blk.c 11;have m:(w.alloc (bH #[i,(4:Int),n,a] 197)).cell? (be A.gy 11)=Y.phase:=by rw[show w.alloc (bH #[i,(4:Int),n,a] 197)=g from v];exact J
 have u:(w.alloc (bH #[i,(4:Int),n,a] 197)).cell? (be A.gy 8)=some (ptr A.D.gd):=by rw[show w.alloc (bH #[i,(4:Int),n,a] 197)=g from v];exact s
 let⟨k,E⟩:=aH Y.phase;have L:=aa E;rw[E]at J m hs;have M:=aa (dr.same C.o b);by_cases x:k=3
 rotate_left
 ·have ab:(k !=3)=true:=aG x;have Z:=aa x;clear h hs hok v x E;go_enter func118,ntmps118;go_wp2_with fail;refine wb (results_none rfl _ _ _) rfl ?_;rw[show w.alloc (bH #[i,(4:Int),n,a] 197)=g from U.o];exact⟨A,Y,rfl,bS ⟨by rw[L.o];exact Z.o,rfl⟩,M.o⟩
 ·subst x;let⟨HS,HK⟩:=Jh2 (hs rfl _ _ f.o) hok;clear h hs hok v E;go_enter func118,ntmps118;go_wp2_with fail;rw[show w.alloc (bH #[i,(4:Int),n,a] 197)=g from U.o];refine HS.o.bC ?_;rintro e O⟨r,A3,D3,rfl,W,Q⟩;have u1:O.cell? (be w 1)=some (.int .i64 4):=(R.o.cu W.mod ah).c 1;let⟨y,z⟩:=HK.o D3 Q;let⟨p,l,H,P,V⟩:=Lf (Y:=Y) (M.o.bu (f.o.pd W)) y z 4 false;let⟨I,G⟩:=Jh2 H P;have K:=aa (show∃D3,P3 D3/\l=({Y with D:=D3}:YS).fires 4 false from⟨D3,Q,V⟩);clear H P V W Q HS y z q s u J m;go_wp2_with(first
   |(go_at_call 174;refine I.o.bC ?_;rintro e T⟨rfl,d⟩;have C5:=aa d)
   |(go_at_call 102;refine(G.o _ C5.o).bC ?_;rintro e F⟨rfl,N,X⟩;have j:=aa X))
  go_end0;exact⟨N,l,rfl,ci ⟨L.o,K.o⟩,j.o⟩
def YS.qa(Y:YS):YS:={Y with cycle:=Y.cycle+1,G:=Y.G.next}
def ZC(t:Tm)(ht:t.cq=5)(h:dp w B A Y)(ok:dv Y)(hok:dv Y.qa)(hlog:Y.log.length+Y.D.log.length<=999000):
  bG 118 #[ptr A.gy,kM t] w (ET B A (fun Y'=>Y'=Y.qa.fires 5 false) w):=by
 obtain⟨i,S,n,a⟩:=t;obtain rfl:S=5:=ht;let⟨g,v⟩:=aH (w.alloc (bH (dL ⟨i,5,n,a⟩) 197));have b:Bw w g:=by rw[<-v];exact aI
 have R:Hid (bI g w 197 (dL ⟨i,5,n,a⟩)):=aa QaW;let⟨C,f,L⟩:=Jh3 h (h.keep b) v;have q:g.cell? (be w 1)=some (.int .i64 5):=R.o.c 1;have E:=aa (f.o.VT (Y.cycle+1));have y:=h.lt;have z:=ok.bU;have Q:wrap64 (Y.cycle+1)=Y.cycle+1:=aC;have u:IntKind.i64.wrap (Y.cycle+1)=Y.cycle+1:=gI _ af;have m:(w.alloc (bH #[i,(5:Int),n,a] 197)).cell? (be A.gy 13)=Y.cycle:=by rw[show w.alloc (bH #[i,(5:Int),n,a] 197)=g from v];exact f.o.blk.c 13
 have k:(w.alloc (bH #[i,(5:Int),n,a] 197)).frozen? (be A.gy 13)=false:=by rw[show w.alloc (bH #[i,(5:Int),n,a] 197)=g from v];exact f.o.blk.free 13
 have M:(g.setCell (be A.gy 13) (Y.cycle+1:Int)).cell? (be A.gy 9)=some (ptr A.G.gr):=E.o.at'.blk.c 9;have x:(w.alloc (bH #[i,(5:Int),n,a] 197)).cell? (be A.gy 9)=some (ptr A.G.gr):=by rw[show w.alloc (bH #[i,(5:Int),n,a] 197)=g from v];exact f.o.blk.c 9
 let⟨HG,s,HL⟩:=Jh3 (UZ (K:=[]) E.o.at'.reg ok.gH.ok au (bW y (bW b.size E.o.mod.size))) hok hlog;have U:w.heap.size≠A.gy:=Nat.ne_of_gt h.blk.lt;have Z:Hid (bI (g.setCell (be A.gy 13) (Y.cycle+1:Int)) w 197 (dL ⟨i,5,n,a⟩)):=aa (R.o.far 13 _ U);have X:=aa ((dr.same C.o b).bu E.o);clear h ok hok v hlog z U;go_enter func118,ntmps118;go_wp2_with fail;rw[show w.alloc (bH #[i,(5:Int),n,a] 197)=g from L.o];refine HG.o.bC ?_;rintro e O⟨G3,rfl,W⟩;have u1:O.cell? (be w 1)=some (.int .i64 5):=(Z.o.cu W.mod ah).c 1;let⟨p,l,H,P,V⟩:=Lf (Y:=Y) (Y2:=Y.qa) (X.o.bu (E.o.at'.yr W)) s.o HL.o 5 false;let⟨I,HC,HE⟩:=Jh3 H P V;clear H P V W m k M x q;go_wp2_with(first
  |(go_at_call 174;refine I.o.bC ?_;rintro e T⟨rfl,d⟩;have J:=aa d)
  |(go_at_call 102;refine(HC.o _ J.o).bC ?_;rintro e F⟨rfl,N,r⟩;have j:=aa r))
 go_end0;exact⟨N,l,rfl,HE.o,j.o⟩
end
def gq(C:bZ)(i j:Nat):List Tm:=(eP (C.bU.drop i)).drop j
def ZF:∀(l:bF Cy) (a:Int),jh a l->∀i,∃b,jh b (l.drop i):=by
 intro l;induction l with
 |nil=>intro a _ i;exact⟨a,by simp[jh]⟩
 |cons x l ih=>
  intro a h i;cases i with
  |zero=>exact⟨a,h⟩
  |succ i=>exact ih _ h.2.2.2.2.2 i
variable{i:Nat}
def Ay(h:i<C.bU):eP (C.bU.drop i)=m9 C.bU[i]++eP (C.bU.drop (i+1)):=by unfold eP;rw[rR h,xC]
def Az(hv:dz C)(i j:Nat):(gq C i j).Pairwise (fun s t=>s.dh<t.dh)/\∀t∈gq C i j,t.dh<=1000/\t.cq≠2:=by let⟨b,u⟩:=ZF _ _ hv.bU i;let⟨d,c⟩:=yD _ _ u;exact⟨d.sublist (List.drop_sublist _ _),fun t ht=>(c t (tW ht)).2⟩
def ZG(C:bZ)(i j:Nat):(gq C i j).length<=4*(C.bU.length-i)-j:=by unfold gq;rw[fc,zp,fc];omega
def Lh(h:i<C.bU):gq C i 0=⟨C.bU[i].cut,1,0,0⟩::gq C i 1:=by unfold gq;rw[Ay h];rfl
def EU(h:i<C.bU):gq C i 1=⟨C.bU[i].cI,3,0,0⟩::gq C i 2:=by unfold gq;rw[Ay h];rfl
def Li(h:i<C.bU):gq C i 2=⟨C.bU[i].fJ,4,0,0⟩::gq C i 3:=by unfold gq;rw[Ay h];rfl
def Lj(h:i<C.bU):gq C i 3=⟨C.bU[i].close,5,0,0⟩::gq C (i+1) 0:=by unfold gq;rw[Ay h];rfl
def ZH:gq C C.bU 0=[]:=by unfold gq;simp[eP]
def AA(h:i<C.bU):iE C i/\fN C i=C.bU[i]:=by
 have a:iE C i:=by unfold iE;omega
 refine⟨a, ?_⟩;unfold fN;rw[yc a];simp[dy,h]
def ZJ(hv:dz C)(h:i<C.bU.length):0<=C.bU[i].cut/\C.bU[i].cut<C.bU[i].cI/\C.bU[i].cI<C.bU[i].fJ/\C.bU[i].fJ<C.bU[i].close/\C.bU[i].close<=1000:=by
 have f:∀(l:bF Cy) (a:Int),0<=a->jh a l->∀i (h:i<l.length),0<=l[i].cut/\l[i].cut<l[i].cI/\l[i].cI<l[i].fJ/\l[i].fJ<l[i].close/\l[i].close<=1000:=by
  intro l;induction l with
  |nil=>intro a _ _ i h;simp at h
  |cons x l ih=>
   intro a ha P i h;obtain⟨d,c,b,M,V,A⟩:=P;cases i with
   |zero=>exact⟨by show 0<=x.cut;omega,c,b,M,V⟩
   |succ i=>exact ih x.close af A i (aG h)
 exact f _ _ (kh 0) hv.bU i h
def ZK{i:Int}:∀t∈ky C i m,t.dh<(fN C i).cI:=by
 intro t a;unfold ky at a;obtain⟨p,s,rfl⟩:=Fy.1 a;unfold iL at s;let⟨j,g,J⟩:=acY.1 s;have g:=FC.1 g;split at J
 ·rename_i P;injection J with J;subst J;show(fN C i).cI-(2-(j:Int))*C.lead<(fN C i).cI
  obtain rfl|rfl:j=0∨j=1:=af
  ·simp;omega
  ·simp;omega
 ·exact xl J au
def ZL(Y:YS):∀n:Nat,∀t∈fb Y n,t.dh<(fN Y.C Y.cycle).cI:=by
 intro n;induction n with
 |zero=>intro t a;simp[fb]at a
 |succ n ih=>
  intro t a;unfold fb at a;rcases xq.1 a with a|a
  ·exact ih t a
  ·split at a
   ·exact ZK t a
   ·simp at a
structure gA(C:bZ)(i j:Nat)(N:List Tm)(c:Int)(Y:YS):Prop where
 ct:Y.C=C
 ce:Y.ce=gq C i j++N
 ij:(i<C.bU.length/\j<4)∨(i=C.bU.length/\j=0)
 cycle:Y.cycle=(i:Int)
 qf:j=0->Y.phase=if i<C.bU then 1 else 5
 qg:j=1->Y.phase=2
 qh:j=2->Y.phase=3∨Y.phase=4
 qi:j=3->Y.phase=4
 nG:∀t∈N,t.cq=2/\(1<=t.mem/\t.mem<=C.mem)/\t.dh<(fN C i).cI
 nd:N.Nodup
 nl:N.length<=2*C.mem.length
 no:j≠1->N=[]
 dh:∀t∈Y.ce,c<=t.dh
section
variable {C:bZ} {i j:Nat} {N:List Tm} {c:Int} {Y:YS}
def gA.hear(h:gA C i j N c Y):gA C i j N c Y.hear:=⟨h.ct,h.ce,h.ij,h.cycle,h.qf,h.qg,h.qh,h.qi,h.nG,h.nd,h.nl,h.no,h.dh⟩
def gA.tell(h:gA C i j N c Y)(x:Ev):gA C i j N c (Y.tell x):=⟨h.ct,h.ce,h.ij,h.cycle,h.qf,h.qg,h.qh,h.qi,h.nG,h.nd,h.nl,h.no,h.dh⟩
def gA.fq(h:gA C i j N c Y):gA C i j N c Y.fq:=⟨h.ct,h.ce,h.ij,h.cycle,h.qf,h.qg,h.qh,h.qi,h.nG,h.nd,h.nl,h.no,h.dh⟩
def gA.room(hv:dz C)(h:gA C i j N c Y):(Y.ce:Int)<=C.room:=by have d:=ZG C i j;have a:=h.nl;rw[h.ce,cO];unfold bZ.room;omega
def gA.nodup(hv:dz C)(h:gA C i j N c Y):Y.ce.Nodup:=by rw[h.ce,xB];refine⟨(Az hv i j).1.imp fun h e=>by subst e;omega,h.nd,fun s hs t ht e=> ?_⟩;subst e;exact((Az hv i j).2 s hs).2 (h.nG s ht).1
variable{t:Tm}
def gA.first(hv:dz C)(h:gA C i j N Y.clock Y)(hf:wO Y (some t)):t.dh=Y.clock/\
  ((t∈N/\t.cq=2/\j=1/\(Y.pop (some t)).ce=gq C i j++N.filter (fun x=> !iJ t x))∨
   (∃L,gq C i j=t::L/\N=[]/\i<C.bU.length/\(Y.pop (some t)).ce=L/\∀u∈L,Y.clock<u.dh)):=by
 obtain⟨P,r,M,Z⟩:=hf;let⟨v,T⟩:=wK r Z;have k:t.dh=Y.clock:=Int.le_antisymm T (h.dh t v);refine⟨k, ?_⟩;let⟨s,o⟩:=Az hv i j;have b:(Y.pop (some t)).ce=(gq C i j).filter (fun x=> !iJ t x)++N.filter (fun x=> !iJ t x):=by
  show Y.ce.filter _=_;rw[h.ce,yQ]
 have l:t∈gq C i j++N:=by rw[<-h.ce];exact v
 rcases xq.1 l with l|l
 ·right
  cases hL:gq C i j with
  |nil=>rw[hL]at l;simp at l
  |cons x L=>
   rw[hL]at l s o b;let⟨E,H⟩:=A0.1 s;have y:x=t:=by
    rcases je.1 l with e|m4
    ·exact e.symm
    ·exfalso;have d:=E t m4;have m:x∈Y.ce:=by rw[h.ce,hL];simp
     let⟨z,a,g⟩:=At (now:=Y.clock) r M m af;rw[Z]at a;injection a with a;subst a;have:=Ky g
     omega
   subst y;have p:i<C.bU:=by
    rcases h.ij with⟨d,_⟩|⟨d,c⟩
    ·exact d
    ·subst d c;rw[ZH]at hL;cases hL
   have f:N=[]:=by
    by_cases J:j=1
    ·cases f:N with
     |nil=>rfl
     |cons n N'=>
      exfalso;have d:=(h.nG n (by rw[f];simp)).2.2;have c:=h.dh n (by rw[h.ce,f];simp);rw[(AA p).2]at d;subst J;rw[EU p]at hL;injection hL with e1 e2;rw[<-e1]at k;have k:C.bU[i].cI=Y.clock:=k;omega
    ·exact h.no J
   refine⟨L,rfl,f,p, ?_,fun u hu=>by have:=E u hu;omega⟩;rw[b,f,List.filter_nil,ix,List.filter_cons];rw[ya (by simp[iJ])];refine List.filter_eq_self.2 fun u hu=> ?_;have:=E u hu
   unfold iJ;simp only[Bool.not_eq_true',decide_eq_false_iff_not];intro e;subst e;omega
 ·left
  have q:=(h.nG t l).1;have J:j=1:=by
   rcases Nat.decEq j 1 with J|J
   ·rw[h.no J]at l;simp at l
   ·exact J
  refine⟨l,q,J, ?_⟩;rw[b];congr 1;refine List.filter_eq_self.2 fun u hu=> ?_;have:=(o u hu).2
  unfold iJ;simp only[Bool.not_eq_true',decide_eq_false_iff_not];intro e;subst e;exact this q
def gA.ZM(h:gA C i j N Y.clock Y)(hw:(Y.pop (some t)).ce=gq C i j++N.filter (fun x=> !iJ t x)):gA C i j (N.filter (fun x=> !iJ t x)) Y.clock (Y.pop (some t)):=
 ⟨h.ct,hw,h.ij,h.cycle,h.qf,h.qg,h.qh,h.qi,fun u hu=>h.nG u (tU.1 hu).1,h.nd.sublist List.filter_sublist,bW (mO _ _) h.nl,fun hj=>by rw[h.no hj];rfl,fun u hu=>h.dh u (by
  have hu:u∈Y.ce.filter (fun x=> !iJ t x):=hu;exact(tU.1 hu).1)⟩
def gA.none(h:gA C i j N Y.clock Y)(hf:wO Y none):gA C i j N (Y.clock+1) (Y.pop none):=by
 obtain⟨P,c,M,Z⟩:=hf;refine⟨h.ct,h.ce,h.ij,h.cycle,h.qf,h.qg,h.qh,h.qi,h.nG,h.nd,h.nl,h.no,fun t b=> ?_⟩;have b:t∈Y.ce:=b;have d:=h.dh t b;rcases kH Y.clock t.dh with h2|h2
 ·omega
 ·exfalso;let⟨f,a,_⟩:=At c M b h2;rw[Z]at a;cases a
variable{L:bF Tm}
def gA.cut(hv:dz C)(h:gA C i 0 N Y.clock Y)(hL:gq C i 0=t::L)(hi:i<C.bU)(ht:t.dh=Y.clock)(hu:∀u∈L,Y.clock<u.dh)(e1:Z.C=C)(e2:Z.cycle=i)(e3:Z.phase=2){V:YS}(ev1:V.C=C)(ev2:V.cycle=i)(e4:Z.ce=L++fb V C.mem):gA C i 1 (fb V C.mem) Y.clock Z:=by
 rw[Lh hi]at hL;injection hL with h1 h2;let⟨b,f,F⟩:=Ax V C.mem;have p:=ZL V C.mem;rw[ev1,ev2,(AA hi).2]at b p;refine⟨e1,by rw[e4,h2],bS ⟨hi,af⟩,e2,fun h=>af,fun _=>e3,fun h=>af,fun h=>af,fun u hu=> ?_,f,F,fun h=>xl rfl h,fun u hw=> ?_⟩
 ·have:=b u hu
  have:=p u hu
  rw[(AA hi).2];exact⟨af,af,af⟩
 ·rw[e4]at hw;rcases xq.1 hw with hw|hw
  ·have:=hu u hw;omega
  ·have:=b u hw
   rw[<-h1]at ht;have ht:C.bU[i].cut=Y.clock:=ht;omega
def gA.next(hv:dz C){i' j':Nat}{k:Int}(hij:(i'<C.bU.length/\j'<4)∨(i'=C.bU.length/\j'=0))(hL:L=gq C i' j')(hu:∀u∈L,k<u.dh)(hj:j'≠1)(e1:Z.C=C)(e2:Z.cycle=i')(e3:(j'=0->Z.phase=if i'<C.bU then 1 else 5)/\(j'=2->Z.phase=3∨Z.phase=4)/\(j'=3->Z.phase=4))(e4:Z.ce=L):gA C i' j' [] k Z:=⟨e1,by rw[e4,hL,ix],hij,e2,e3.1,fun h=>xl h hj,e3.2.1,e3.2.2,nofun,List.nodup_nil,cH _,fun _=>rfl,fun t ht=>(by rw[e4]at ht;have:=hu t ht;omega)⟩
end
def kD(l:List Tm):Nat:=(l.map fun t=>if t.cq=2 then 1 else 40).sum
def EW(l m:bF Tm):kD (l++m)=kD l+kD m:=by simp[kD]
def EX:∀{N:bF Tm},(∀t∈N,t.cq=2)->kD N=N.length:=by
 intro N;induction N with
 |nil=>intro _;rfl
 |cons t N ih=>
  intro h;have d:=h t (iG ..);have c:=ih fun u hu=>h u (jS _ hu);unfold kD at c⊢;rw[eu,ii,c,yc d,gL];omega
variable{N:bF Tm}{t:Tm}
def ZN(h:t∈N):(N.filter fun x=> !iJ t x).length<N:=by
 rcases fA (N.filter fun x=> !iJ t x).length N with h1|h1
 ·exact h1
 ·exfalso;have c:=List.length_filter_eq_length_iff.1 (uZ (mO _ _) h1) t h;simp[iJ]at c
def od(C:bZ)(ev:List Ev):Prop:=∃(D:DS) (L G L':List Lg) (Gs:List (List Lg)) (pre evs mid post:List Ev),D.C=C/\iu D/\pj D D.C.secs evs Gs L/\wI D L G L'/\eM pre/\eM mid/\eM post/\ev=pre++(evs++(mid++((ey 13 G++ey 15 L')++post)))
variable{C:bZ}{ev:bF Ev}
def od.pre{p:bF Ev}(h:od C ev)(hp:eM p):od C (p++ev):=by obtain⟨D,L,G,t,a,pre,f,b,d,c,I,u,P,Z,Q,S,rfl⟩:=h;exact⟨D,L,G,t,a,p++pre,f,b,d,c,I,u,P,hp.append Z,Q,S,by simp only[fz]⟩
def od.post{p:bF Ev}(h:od C ev)(hp:eM p):od C (ev++p):=by obtain⟨D,L,G,t,a,E,f,b,post,c,I,u,P,Z,Q,S,rfl⟩:=h;exact⟨D,L,G,t,a,E,f,b,post++p,c,I,u,P,Z,Q,S.append hp,by simp only[fz]⟩
structure nA(n:Nat)(s:Bool)(D D':DS):Prop where
 lQ:iu D'
 C:D'.C=D.C
 dt:D'.dt=D.dt
 cv:D'.cv.length<=D.cv
 who:∀m∈D.who,m∈D'.who
 log:∃ev,D'.log=D.log++ev/\ev.length<=n/\(eM ev∨(s=true/\od D.C ev))
def nA.refl(I:iu D)(s:Bool):nA 0 s D D:=⟨I,rfl,rfl,bL _,fun m hm=>hm,[],au,au,bS nofun⟩
variable{Y:YS}
def ZQ(I:iu Y.D)(hlog:Y.D.log.length<=880000):Le B Y fun _ D'=>nA 2608 false Y.D D':=fun W A hA=>
 (YF hA.dg I hA.pb hA.lt hlog).bC fun e w' ⟨b,y,A',D',he,st,hd⟩=>⟨b,y,A',D',he,st,by
  split at hd
  ·obtain⟨_,_,rfl⟩:=hd;exact⟨I,rfl,rfl,bL _,fun m hm=>hm,[],au,au,bS nofun⟩
  ·obtain⟨_,_,J,_,h1,h2,h3,h7,ev,h4,h5,h6⟩:=hd;exact⟨J,h1,h3,by rw[h2];exact bL _,h7,ev,h4,h5,bS h6⟩⟩
def Lk(I:iu Y.D)(hb:Y.D.cv.length<=100)(hlog:Y.D.log.length<=800000):tE B Y (nA 25081 true Y.D):=fun W A hA=>
 (YH hA.dg I hA.pb hA.lt hb hlog).bC fun e w' ⟨r,A',D',he,st,hd⟩=>⟨r,A',D',he,st,by
  split at hd
  ·obtain⟨_,rfl⟩:=hd;exact⟨I,rfl,rfl,bL _,fun m hm=>hm,[],au,au,bS nofun⟩
  ·obtain⟨_,J,_,h1,h2,h3,h4,Gs,G,L',ev1,evs,L,ev2,ev3,hh,hc,hl,n1,n2,n3,o1,o2,o3⟩:=hd;have hS:Y.D.C.secs.length<=8:=I.ok.ct.s2;have h6:=hh.ok.len;have h7:=hc.fd;have h8:=h7.1.1;have h9:=h7.2.1;refine⟨J,h1,h4,by rw[h3];simp,fun m hm=>by rw[h2];exact hm,_,hl, ?_,ci ⟨rfl,Y.D,L,G,L',Gs,ev1,evs,ev2,ev3,rfl,I,hh,hc,o1,o2,o3,by simp only[fz]⟩⟩;simp only[cO,Aq];omega⟩
def YS.heard(Y:YS):List Ev:=Y.log++Y.D.log.drop Y.told
def AB(Y:YS)(x:Ev):(Y.tell x).heard=Y.heard++[x]:=by
 show(Y.log++Y.D.log.drop Y.told++[x])++Y.D.log.drop Y.D.log.length=_
 rw[List.drop_length,ix];rfl
def EY(ht:Y.told<=Y.D.log)(h:D'.log=Y.D.log++ev):({Y with D:=D'}:YS).heard=Y.heard++ev:=by show Y.log++D'.log.drop Y.told=Y.log++Y.D.log.drop Y.told++ev;rw[h,List.drop_append_of_le_length ht,fz]
def AC(ht:Y.told<=Y.D.log)(h:Y.log.length<=Y.told+k)(x:Ev):(Y.tell x).log.length<=(Y.tell x).told+(k+1):=by
 show(Y.log++Y.D.log.drop Y.told++[x]).length<=Y.D.log.length+(k+1)
 simp only[cO,fc,eN];omega
def dB(j:Nat)(ph:Int):Nat:=if j=0 then 0 else if j=1 then 1100 else if ph=3 then 4000 else 29500
def oB(j m:Nat):Nat:=if j=0 then 0 else if j=1 then 34-m else if j=2 then 36 else 38
structure fw(C:bZ)(i j:Nat)(N:List Tm)(c:Int)(n:Nat)(Y:YS):Prop where
 dw:gA C i j N c Y
 ok:dv Y
 dg:iu Y.D
 acc:kW C Y.G.list
 cv:Y.D.cv.length<=32
 kG:Y.D.log.length<=2*n+30000*i+dB j Y.phase
 own:Y.log.length<=Y.told+(n+40*i+oB j N)
def yE(ok:dv Y)(I:iu D')(hC:D'.C=Y.D.C)(hc:D'.dt=Y.D.dt)(hl:Y.told<=D'.log):dv {Y with D:=D'}:=⟨hC.bu ok.dc,ok.gc,I.ok,ok.gH,hl,ok.ce,ok.bU,ok.clock,by show 0<=D'.dt/\_;rw[hc];exact ok.cn,I.d⟩
def wQ(ok:dv Y)(o:Option Tm):dv (Y.pop o):=⟨ok.dc,ok.gc,ok.ez,ok.gH,ok.told,by
 have h:=ok.ce;have:(zX Y.ce o).length<=Y.ce:=by
  cases o with
  |none=>exact bL _
  |some t=>exact mO _ _
 show((zX Y.ce o).length:Int)<=_
 exact Int.le_trans (adc.2 this) h,ok.bU,ok.clock,ok.cn,ok.jD⟩
def wR(C:bZ)(n:Nat)(Y Y2:YS):Prop:=(∃i j N,fw C i j N Y.clock n Y2)/\Y2.clock=Y.clock/\kD Y2.ce<kD Y.ce/\(∀m∈Y.D.who,m∈Y2.D.who)/\∃ev,Y2.heard=Y.heard++ev/\(eM ev∨(od C ev/\∀u∈Y2.ce,Y.clock<u.dh))
def Ll(j:Nat)(ph:Int):dB j ph<=29500:=by unfold dB;(repeat' split)<;>omega
def ZV(j m:Nat):oB j m<=38:=by unfold oB;(repeat' split)<;>omega
variable{i j n:Nat}{c:Int}
def fw.ld(hv:dz C)(h:fw C i j N c n Y)(hn:n<=1000):Y.D.log.length<=160000/\Y.log.length<=162000:=by
 have d:=Ll j Y.phase;have a:=ZV j N;have x:i<=4:=by have:=h.dw.ij;have:=hv.c2;omega
 let⟨M,V,A⟩:=Jt3 h.kG h.own h.ok.told;omega
def ZW(hv:dz C)(h:fw C i j N Y.clock n Y)(hn:n<=1000)(ht:t∈N)(hk:t.cq=2)(hj:j=1)(hw:(Y.pop (some t)).ce=gq C i j++N.filter (fun x=> !iJ t x)):uN B (Y.pop (some t)) t (wR C n Y):=fun W A hA=>by
 obtain⟨s1,s2⟩:=h.ld hv hn;have okp:=wQ h.ok (some t);refine(Zh t hk hA okp (show Y.log.length+Y.D.log.length<=999000 from af)).bC fun e w' ⟨A',he,st⟩=>⟨A',_,he,st, ?_⟩;have hl:=ZN ht;have hnl:=h.dw.nl;have hm:C.mem.length<=16:=hv.m2;subst hj;refine⟨⟨i,1,_,(h.dw.ZM hw).tell _,okp.tell _,h.dg,h.acc,h.cv,h.kG, ?_⟩,rfl, ?_,fun m hm=>hm,[⟨7,t.mem,0,0,t.fY⟩],AB _ _,bS (pg (bS (show(7:Int)<13 by decide)))⟩
 ·have h1:=AC (Y:=Y.pop (some t)) h.ok.told h.own ⟨7,t.mem,0,0,t.fY⟩;refine bW h1 ?_;unfold oB;simp;omega
 ·show kD (Y.pop (some t)).ce<_;rw[hw,h.dw.ce,EW,EW,EX (N:=N) (fun u hu=>(h.dw.nG u hu).1),EX (N:=N.filter _) (fun u hu=>(h.dw.nG u (tU.1 hu).1).1)];omega
def ZX(e:Bool):(ml 1 1 false e).1=2:=by cases e<;>rfl
def ZY(b e:Bool):(ml 2 3 b e).1=if b=true then 3 else 4:=by cases b<;>cases e<;>rfl
def ZZ(e:Bool):(ml 3 4 false e).1=4:=by cases e<;>rfl
def Z0(e:Bool):(ml 4 5 false e).1=if e=true then 5 else 1:=by cases e<;>rfl
def nA.trans{m:Nat}{s:Bool}{D1 D2:DS}(h:nA n false D D1)(k:nA m s D1 D2):nA (n+m) s D D2:=by
 let⟨o,q,W,Z⟩:=h.log;let⟨r,O,B,Q⟩:=k.log;have Z:eM o:=by
  rcases Z with Z|⟨h1,_⟩
  ·exact Z
  ·cases h1
 refine⟨k.lQ,k.C.bu h.C,k.dt.bu h.dt,bW k.cv h.cv,fun m hm=>k.who m (h.who m hm),o++r,by rw[O,q,fz],aN, ?_⟩;rcases Q with Q|⟨h2,Q⟩
 ·exact bS (Z.append Q)
 ·exact ci ⟨h2,by rw[<-h.C];exact Q.pre Z⟩
def nA.bu:=@nA.trans
def tE.mono{P Q:DS->Prop}(h:tE B Y P)(hq:∀D,P D->Q D):tE B Y Q:=fun W A hA=>(h W A hA).bC fun _ _ ⟨r,A2,D2,he,st,p⟩=>⟨r,A2,D2,he,st,hq _ p⟩
def tE.bC:=@tE.mono
def EZ(Y:YS)(k:Int)(b:Bool):(Y.fires k b).heard=Y.heard++[⟨1,0,0,Y.next k b,Y.cycle⟩]:=AB _ _
def AD(ht:Y.told<=Y.D.log){m:Nat}(h:Y.log.length<=Y.told+m)(k:Int)(b:Bool):(Y.fires k b).log.length<=(Y.fires k b).told+(m+1):=AC (Y:={Y with phase:=Y.next k b}) ht h _
def AE(p c:Int):eM [⟨1,0,0,p,c⟩]:=pg (bS (show(1:Int)<13 by decide))
variable{L:bF Tm}
def Lm{s:Bool}{D3:DS}(hC:Y.D.C=C)(ht:Y.told<=Y.D.log)(h:nA n s Y.D D3)(hu:∀u∈L,Y.clock<u.dh)(e1:Z.heard=({Y with D:=D3}:YS).heard)(k:Int)(b:Bool)(hw:Z.ce=L):∃ev,(Z.fires k b).heard=Y.heard++ev/\(eM ev∨(od C ev/\∀u∈(Z.fires k b).ce,Y.clock<u.dh)):=by
 let⟨ev,d,c,x⟩:=h.log;rw[hC]at x;refine⟨ev++[⟨1,0,0,Z.next k b,Z.cycle⟩],by rw[EZ,e1,EY ht d,fz], ?_⟩;rcases x with x|⟨_,x⟩
 ·exact bS (x.append (AE _ _))
 ·exact ci ⟨x.post (AE _ _),fun u hu2=>hu u (by rw[<-hw];exact hu2)⟩
section
variable {B:Nat} {C:bZ} {i:Nat} {n:Nat} {Y:YS} {t:Tm} {L:List Tm}
def AF(t:Tm)(L:bF Tm)(hk:t.cq≠2):kD (t::L)=40+kD L:=by unfold kD;rw[eu,ii,ya hk]
def Z4(hv:dz C)(h:fw C i 1 [] Y.clock n Y)(hn:n<=1000)(hi:i<C.bU)(hL:gq C i 1=t::L)(hw:(Y.pop (some t)).ce=L)(hu:∀u∈L,Y.clock<u.dh):uN B (Y.pop (some t)) t (wR C n Y):=fun W A hA=>by
 obtain⟨s1,s2⟩:=h.ld hv hn;have okp:=wQ h.ok (some t);rw[EU hi]at hL;injection hL with ht hL;have hk:t.cq=3:=by rw[<-ht]
 let⟨k,j,f⟩:=Jt3 h.cv h.kG h.ok.told;have N:∀{m:Nat} {s:Bool} {D3:DS},nA m s Y.D D3->D3.log.length<=Y.D.log.length+m/\Y.D.log.length<=D3.log:=fun p=>by
  let⟨l,d,c,_⟩:=p.log;rw[d,cO];omega
 refine(Zy (Y:=Y.pop (some t)) t hk hA (fun _ D'=>nA 2608 false Y.D D') (fun b D'=>nA (if b=true then 2608 else 27689) (!b) Y.D D') (ZQ (Y:=Y.pop (some t)) h.dg (show Y.D.log.length<=880000 from af)) (fun D2 c=>c) (fun D2 c=> ?_) (fun b D3 h3=> ?_)).bC fun e w' ⟨A',Y',he,⟨b,D3,p3,hY⟩,st⟩=>⟨A',Y',he,st, ?_⟩
 ·have:=N c
  exact(Lk (Y:={Y.pop (some t)with D:=D2}) c.lQ (by show D2.cv.length<=100;have:=c.cv;omega) (by show D2.log.length<=800000;omega)).bC fun D3 h3=>c.bu h3
 ·have:=N h3
  have V:(if b=true then 2608 else 27689:Nat)<=27689:=by split<;>omega
  exact⟨yE okp h3.lQ h3.C h3.dt Qb1,by show Y.log.length+D3.log.length<=999000;omega⟩
 ·subst hY;have z:=N p3;have E:Y.phase=2:=h.dw.qg rfl;have a:({Y.pop (some t)with D:=D3}:YS).next 3 b=if b=true then 3 else 4:=by
   unfold YS.next;rw[show({Y.pop (some t)with D:=D3}:YS).phase=2 from E];exact ZY _ _
  have g:dv ({Y.pop (some t)with D:=D3}:YS):=yE okp p3.lQ p3.C p3.dt Qb1;refine⟨⟨i,2,[],gA.next hv (bS ⟨hi,af⟩) hL.symm hu af h.dw.ct h.dw.cycle ⟨fun e=>xl e af,fun _=> ?_,fun e=>xl e af⟩ hw,g.come _,p3.lQ,h.acc,bW p3.cv k, ?_, ?_⟩,rfl, ?_,p3.who,Lm (Y:=Y) (Z:={Y.pop (some t)with D:=D3}) (h.ok.dc.bu h.dw.ct) f p3 hu rfl 3 b hw⟩
  ·show({Y.pop (some t)with D:=D3}:YS).next 3 b=3∨({Y.pop (some t)with D:=D3}:YS).next 3 b=4
   rw[a];cases b<;>simp
  ·show D3.log.length<=2*n+30000*i+dB 2 (({Y.pop (some t)with D:=D3}:YS).next 3 b);rw[a];unfold dB at j⊢;cases b<;>simp at j z⊢<;>omega
  ·have d:=AD (Y:={Y.pop (some t)with D:=D3}) g.told (show Y.log.length<=Y.told+_ from h.own) 3 b;refine bW d ?_;show _+(n+40*i+oB 1 0+1)<=_+(n+40*i+oB 2 0);unfold oB;simp
  ·show kD (Y.pop (some t)).ce<_;rw[hw,h.dw.ce,EU hi,ht,hL,ix,AF _ _ QcE];omega
def Z5(hv:dz C)(h:fw C i 2 [] Y.clock n Y)(hn:n<=1000)(hi:i<C.bU)(hL:gq C i 2=t::L)(hw:(Y.pop (some t)).ce=L)(hu:∀u∈L,Y.clock<u.dh):uN B (Y.pop (some t)) t (wR C n Y):=fun W A hA=>by
 obtain⟨s1,s2⟩:=h.ld hv hn;have okp:=wQ h.ok (some t);rw[Li hi]at hL;injection hL with ht hL;have hk:t.cq=4:=by rw[<-ht]
 let⟨o,b,g⟩:=Jt3 h.cv h.kG h.ok.told;have N:∀{m:Nat} {s:Bool} {D3:DS},nA m s Y.D D3->D3.log.length<=Y.D.log.length+m/\Y.D.log.length<=D3.log:=fun p=>by
  let⟨l,d,c,_⟩:=p.log;rw[d,cO];omega
 have P:kD L<kD Y.ce:=by
  rw[h.dw.ce,Li hi,ht,hL,ix,AF _ _ QcE];omega
 refine(Zz (Y:=Y.pop (some t)) t hk hA (nA 25081 true Y.D) (fun _=>Lk (Y:=Y.pop (some t)) h.dg (show Y.D.cv.length<=100 from af) (show Y.D.log.length<=800000 from af)) (fun D3 h3=> ?_)).bC fun e w' ⟨A',Y',he,hY,st⟩=>⟨A',Y',he,st, ?_⟩
 ·have:=N h3
  exact⟨yE okp h3.lQ h3.C h3.dt Qb1,by show Y.log.length+D3.log.length<=999000;omega⟩
 ·rcases hY with⟨f,rfl⟩|⟨f,D3,p3,rfl⟩
  ·have f:Y.phase≠3:=f;have j:Y.phase=4:=by
    rcases h.dw.qh rfl with e|e
    ·exact xl e f
    ·exact e
   refine⟨⟨i,3,[],gA.next hv (bS ⟨hi,af⟩) hL.symm hu af h.dw.ct h.dw.cycle ⟨fun e=>xl e af,fun e=>xl e af,fun _=>j⟩ hw,okp,h.dg,h.acc,o, ?_, ?_⟩,rfl, ?_,fun m hm=>hm,[],by rw[ix];rfl,bS nofun⟩
   ·show Y.D.log.length<=2*n+30000*i+dB 3 Y.phase;rw[j]at b⊢;unfold dB at b⊢;simp at b⊢;omega
   ·refine bW h.own ?_;show Y.told+(n+40*i+oB 2 0)<=Y.told+(n+40*i+oB 3 0);unfold oB;simp
   ·show kD (Y.pop (some t)).ce<_;rw[hw];exact P
  ·have f:Y.phase=3:=f;have z:=N p3;have a:({Y.pop (some t)with D:=D3}:YS).next 4 false=4:=by
    unfold YS.next;rw[show({Y.pop (some t)with D:=D3}:YS).phase=3 from f];exact ZZ _
   have k:dv ({Y.pop (some t)with D:=D3}:YS):=yE okp p3.lQ p3.C p3.dt Qb1;refine⟨⟨i,3,[],gA.next hv (bS ⟨hi,af⟩) hL.symm hu af h.dw.ct h.dw.cycle ⟨fun e=>xl e af,fun e=>xl e af,fun _=>a⟩ hw,k.come _,p3.lQ,h.acc,bW p3.cv o, ?_, ?_⟩,rfl, ?_,p3.who,Lm (Y:=Y) (Z:={Y.pop (some t)with D:=D3}) (h.ok.dc.bu h.dw.ct) g p3 hu rfl 4 false hw⟩
   ·show D3.log.length<=2*n+30000*i+dB 3 (({Y.pop (some t)with D:=D3}:YS).next 4 false);rw[a];rw[f]at b;unfold dB at b⊢;simp at b⊢;omega
   ·have d:=AD (Y:={Y.pop (some t)with D:=D3}) k.told (show Y.log.length<=Y.told+_ from h.own) 4 false;refine bW d ?_;show _+(n+40*i+oB 2 0+1)<=_+(n+40*i+oB 3 0);unfold oB;simp
   ·show kD (Y.pop (some t)).ce<_;rw[hw];exact P
def Z6{D:GS}(h:lJ D):lJ D.next:=⟨⟨h.ok.ct,by simp[GS.next],h.ok.un,by simp[GS.next,fK],h.ok.ur⟩,nofun,by simp[GS.next],by show(0:Int)<=D.C.cj;have:=h.ok.ct.cj;omega,h.ul,nofun,nofun⟩
def Z7(C:bZ):kW C []:=⟨nofun,nofun,au,by simp[iD],fun a=>by simp[jA]⟩
def Z8(hv:dz C)(h:fw C i 3 [] Y.clock n Y)(hn:n<=1000)(hi:i<C.bU)(hL:gq C i 3=t::L)(hw:(Y.pop (some t)).ce=L)(hu:∀u∈L,Y.clock<u.dh):uN B (Y.pop (some t)) t (wR C n Y):=fun W A hA=>by
 obtain⟨s1,s2⟩:=h.ld hv hn;have okp:=wQ h.ok (some t);rw[Lj hi]at hL;injection hL with ht hL;have hk:t.cq=5:=by rw[<-ht]
 let⟨f,b,z⟩:=Jt3 h.cv h.kG h.dw.cycle;have H:C.bU.length<=4:=hv.c2;have c:dv (Y.pop (some t)).qa:=⟨okp.dc,okp.gc,okp.ez,Z6 okp.gH,okp.told,okp.ce,by show 0<=Y.cycle+1/\Y.cycle+1<=100000;rw[z];omega,okp.clock,okp.cn,okp.jD⟩;refine(ZC (Y:=Y.pop (some t)) t hk hA okp c (show Y.log.length+Y.D.log.length<=999000 from af)).bC fun e w' ⟨A',Y',he,hY,st⟩=>⟨A',Y',he,st, ?_⟩;subst hY;have s:Y.phase=4:=h.dw.qi rfl;have a:(Y.pop (some t)).qa.next 5 false=if i+1<C.bU.length then 1 else 5:=by
  unfold YS.next;rw[show(Y.pop (some t)).qa.phase=4 from s,Z0];rw[show(Y.pop (some t)).qa.C=C from h.dw.ct,show(Y.pop (some t)).qa.cycle=Y.cycle+1 from rfl,z];by_cases T:i+1<C.bU.length
  ·rw[yc T,ya aA]
  ·rw[ya T,yc aA]
 refine⟨⟨i+1,0,[],gA.next hv (by rcases fA (i+1) C.bU with T|T;exact bS ⟨T,af⟩;exact ci ⟨af,rfl⟩) hL.symm hu af h.dw.ct ?_ ⟨fun _=>a,fun e=>xl e af,fun e=>xl e af⟩ hw,c.come _,h.dg, ?_,f, ?_, ?_⟩,rfl, ?_,fun m hm=>hm,[⟨1,0,0,(Y.pop (some t)).qa.next 5 false,(Y.pop (some t)).qa.cycle⟩],EZ _ _ _,bS (AE _ _)⟩
 ·show Y.cycle+1=_;rw[z];omega
 ·exact Z7 C
 ·show Y.D.log.length<=2*n+30000*(i+1)+dB 0 _;have:=Ll 3 Y.phase
  omega
 ·have d:=AD (Y:=(Y.pop (some t)).qa) c.told (show Y.log.length<=Y.told+_ from h.own) 5 false;refine bW d ?_;show _+(n+40*i+oB 3 0+1)<=_+(n+40*(i+1)+oB 0 0);unfold oB;simp;omega
 ·show kD (Y.pop (some t)).ce<_;rw[hw,h.dw.ce,Lj hi,ht,hL,ix,AF _ _ QcE];omega
end
section
variable {B:Nat} {C:bZ} {i:Nat} {n:Nat} {Y:YS} {t:Tm} {L:List Tm}
def Z9(hv:dz C)(h:fw C i 0 [] Y.clock n Y)(hn:n<=1000)(hi:i<C.bU)(hdue:t.dh=Y.clock)(hL0:gq C i 0=t::L)(hw:(Y.pop (some t)).ce=L)(hu:∀u∈L,Y.clock<u.dh):uN B (Y.pop (some t)) t (wR C n Y):=fun W A hA=>by
 obtain⟨s1,s2⟩:=h.ld hv hn;have okp:=wQ h.ok (some t);have hL:=hL0;rw[Lh hi]at hL;injection hL with ht hL;have hk:t.cq=1:=by rw[<-ht]
 let⟨R,b,y⟩:=Jt3 h.cv h.kG h.ok.told;have X:Y.C=C:=h.dw.ct;have z:Y.cycle=(i:Int):=h.dw.cycle;have N:Y.D.C=C:=h.ok.dc.bu X;let⟨E,H⟩:=AA hi;have g:=ZJ hv hi;have M:Y.G.fd=Y.G.list.flatMap eB:=rfl;have o:∀(V:YS),V.C=C->V.cycle=i->∀Z:YS,Z.C=C->Z.cycle=i->Z.phase=2->Z.ce=L++fb V C.mem.length->gA C i 1 (fb V C.mem) Y.clock Z:=fun V v1 v2 Z z1 z2 z3 z4=>h.dw.cut hv hL0 hi hdue hu z1 z2 z3 v1 v2 z4;have v:∀D' V,V=({Y.pop (some t)with D:=D'}:YS)->((Y.pop (some t)).fi D').ce=L++fb V C.mem:=fun D' V P=>by
  rw[show((Y.pop (some t)).fi D').ce=(Y.pop (some t)).ce++fb V Y.C.mem.length by rw[P];rfl,hw,X]
 have I:∀r D',iU Y.D Y.G.fd r D'->((Y.pop (some t)).fi D').ce.Nodup/\(((Y.pop (some t)).fi D').ce.length:Int)<=(Y.pop (some t)).C.room:=fun r D' _=>by
  obtain⟨V,P⟩:∃V,V=({Y.pop (some t)with D:=D'}:YS):=⟨_,rfl⟩;obtain⟨Z,K⟩:∃Z,Z=({(Y.pop (some t)).fi D' with phase:=2}:YS):=⟨_,rfl⟩;have Q:=o V (by rw[P];exact X) (by rw[P];exact z) Z (by rw[K];exact X) (by rw[K];exact z) (by rw[K]) (by rw[K];exact v D' V P);have d:=gA.nodup hv Q;have c:=gA.room hv Q;rw[K]at d c;exact⟨d,by rw[show(Y.pop (some t)).C.room=C.room by rw[show(Y.pop (some t)).C=C from X]];exact c⟩
 refine(KZ (Y:=Y.pop (some t)) t hk hA okp h.acc.good (by rw[show(Y.pop (some t)).G.fd=Y.G.list.flatMap eB from rfl];exact ER h.acc) (by rw[show(Y.pop (some t)).G.fd=Y.G.list.flatMap eB from rfl,Ab];have:=h.acc.n;omega) (by show iE Y.C Y.cycle;rw[X,z];exact E) (by show 0<=(fN Y.C Y.cycle).cI/\(fN Y.C Y.cycle).cI<=100000;rw[X,z,H];omega) (show Y.log.length+2*Y.D.log.length<=800000 from af) I).bC fun e w' ⟨A',r,D',he,hN,st,hok3⟩=>⟨A',_,he,st, ?_⟩;obtain⟨J,j,S,p,l,k,s,q⟩:=Zx h.dg (by rw[N];exact h.acc) h.ok.cn (show iU Y.D (Y.G.list.flatMap eB) r D' from hN);have a:((Y.pop (some t)).fi D').next 1 false=2:=by
  unfold YS.next;rw[show((Y.pop (some t)).fi D').phase=1 by show Y.phase=1;rw[h.dw.qf rfl,yc hi],ZX]
 obtain⟨V,P⟩:∃V,V=({Y.pop (some t)with D:=D'}:YS):=⟨_,rfl⟩;have v:=v D' V P;let⟨T,f,F⟩:=Ax V C.mem;have O:C.mem.length<=16:=hv.m2;refine⟨⟨i,1,_,o V (by rw[P];exact X) (by rw[P];exact z) (((Y.pop (some t)).fi D').fires 1 false) X z a v,hok3,J,h.acc,by show D'.cv.length<=32;rw[p];exact R, ?_, ?_⟩,rfl, ?_,fun m O=>(by show m∈D'.who;rw[S];exact O),l++[⟨1,0,0,((Y.pop (some t)).fi D').next 1 false,((Y.pop (some t)).fi D').cycle⟩], ?_,bS (q.append (AE _ _))⟩
 ·show D'.log.length<=2*n+30000*i+dB 1 _;rw[k,cO];unfold dB at b⊢;simp at b⊢;omega
 ·have d:=AD (Y:=(Y.pop (some t)).fi D') (show Y.told<=D'.log.length by rw[k,cO];omega) (show Y.log.length<=Y.told+_ from h.own) 1 false;have c:2<=oB 1 (fb V C.mem).length:=by
   unfold oB;rw[ya ah,yc rfl];omega
  have x:oB 0 ([]:bF Tm).length=0:=rfl;exact bW d (Nat.add_le_add_left af _)
 ·show kD ((Y.pop (some t)).fi D').ce<_;rw[v,h.dw.ce,hL0,ix,AF _ _ QcE,EW,EX (fun u hu=>(T u hu).1)];omega
 ·show(((Y.pop (some t)).fi D').fires 1 false).heard=_
  rw[EZ,show((Y.pop (some t)).fi D').heard=({Y with D:=D'}:YS).heard from rfl,EY y k,fz]
end
variable{B i n:Nat}{C:bZ}{Y:YS}{t:Tm}
def aaa(hv:dz C)(h:fw C i j N Y.clock n Y)(hn:n<=1000)(hf:wO Y (some t)):uN B (Y.pop (some t)) t (wR C n Y):=by
 obtain⟨a,⟨d,c,x,M⟩|⟨L,d,c,x,M,V⟩⟩:=h.dw.first hv hf
 ·exact ZW hv h hn d c x M
 ·subst c;have J:j<4:=by
   rcases h.dw.ij with⟨_,h6⟩|⟨h6,_⟩
   ·exact h6
   ·omega
  rcases(show j=0∨j=1∨j=2∨j=3 from af)with rfl|rfl|rfl|rfl
  ·exact Z9 hv h hn x a d M V
  ·exact Z4 hv h hn x d M V
  ·exact Z5 hv h hn x d M V
  ·exact Z8 hv h hn x d M V
def aab(ok:dv Y)(hc:Y.clock<=90000):dv Y.fq:=⟨ok.dc,ok.gc,ok.ez,ok.gH,ok.told,ok.ce,ok.bU,by have:=ok.clock;show 0<=Y.clock+1/\Y.clock+1<=100000;omega,ok.cn,ok.jD⟩
def fw.fq(h:fw C i j N c n Y)(hc:Y.clock<=90000):fw C i j N c n Y.fq:=⟨h.dw.fq,aab h.ok hc,h.dg,h.acc,h.cv,h.kG,h.own⟩
variable{Q:Int->Int->YS->Prop}
def iF.mono{f:Nat}{c:Cm}{P:Int->Int->YS->Prop}(h:iF B f Y c P)(hq:∀n er Y',P n er Y'->Q n er Y'):iF B f Y c Q:=fun W A hA=>(h W A hA).bC fun _ _ ⟨n,er,A',Y',he,st,ok,hl,p⟩=>⟨n,er,A',Y',he,st,ok,hl,hq _ _ _ p⟩
def iF.bC:=@iF.mono
def aac(C:bZ)(n:Nat)(Y Y1:YS):Prop:=Y1.clock=Y.clock+1/\(∃i j N,fw C i j N Y1.clock n Y1)/\(∀m∈Y.D.who,m∈Y1.D.who)/\∃ev,Y1.heard=Y.heard++ev/\(eM ev∨(od C ev/\∀u∈Y1.ce,Y1.clock<u.dh))
def aad(C:bZ)(n:Nat)(Y:YS)(k er:Int)(Y':YS):Prop:=k=Y.clock+1/\er=0/\Y'.clock=Y.clock+1/\(∃i j N,fw C i j N (Y'.clock+1) n Y')/\(∀m∈Y.D.who,m∈Y'.D.who)/\∃ev,Y'.heard=Y.heard++ev/\(eM ev∨od C ev)
def aae(c:Cm)(hv:dz C)(h:fw C i j N (Y.clock+1) n Y)(hn:n<=1000)(hc:Y.clock<=90000):iF B 80 Y c (aad C n Y):=by
 have f:=yz (B:=B) c h.ok (aac C n Y) (fun a=>kD a.ce) ⟨rfl,⟨i,j,N,h.fq hc⟩,fun m Z=>Z,[],by rw[ix];rfl,bS nofun⟩ (fun a h1=> ?_) (fun a t h1 g=> ?_)
 ·refine iF.bC f ?_;rintro k D z⟨q,V,a,⟨b,⟨G,o,S,x⟩,p,l,d,s⟩,g,rfl⟩;refine⟨q,V,b,⟨G,o,S,x.dw.none g,wQ x.ok none,x.dg,x.acc,x.cv,x.kG,x.own⟩,p,l,d, ?_⟩;rcases s with s|⟨s,_⟩
  ·exact bS s
  ·exact ci s
 ·obtain⟨b,⟨G,o,S,x⟩,_⟩:=h1;have:=x.ld hv hn
  exact⟨x.ok,af,b⟩
 ·obtain⟨b,⟨G,o,S,x⟩,p,l,d,s⟩:=h1;intro W A y;refine(aaa hv x hn g W A y).bC fun e w' ⟨A',Y2,V,st,⟨i2,j2,N2,d2⟩,k1,k2,k0,ev2,k3,k4⟩=>⟨A',Y2,V,st,⟨k1.bu b,⟨i2,j2,N2,by rw[k1];exact d2⟩,fun m Z=>k0 m (p m Z),l++ev2,by rw[k3,d,fz], ?_⟩,k2⟩;rcases s with s|⟨_,s⟩
  ·rcases k4 with k4|⟨k4,k5⟩
   ·exact bS (s.append k4)
   ·exact ci ⟨k4.pre s,fun u hu=>by rw[k1];exact k5 u hu⟩
  ·exfalso;obtain⟨P,r,_,Z⟩:=g;let⟨v,T⟩:=wK r Z;have:=s t v
   omega
section
attribute [local go_sem ↓] wp_at_zero wp_at_succ
def yF(D D':GS):Prop:=D'=D∨∃l,l.Sublist D.cj/\D'={D with cj:=l}
def aaf(B:Nat)(K:List Nat)(A:GA)(D:GS)(w:World)(e:Ending)(w':World):Prop:=∃(t:Tr) (y:Int) (A':GA) (D':GS),e=.returned (.tuple #[pG t,y])/\jz B K w w' A A' D'/\yF D D'
variable{K:bF Nat}{w w':bD}
def fu.aag{A:GA}{D:GS}{l:bF RT}{v0 v:bE}(h:fu w B A D)(g:lH eO 7 163 w w' B A.gt 188 #[D.C.cj,A.vt] 1 v0 l K v):jz B K w w' A {A with vt:=v} {D with cj:=l}:=by exact Qbj
def Ln{A:GA}{D:GS}(h:fu w B A D)(ok:oX D)(hB:B<=w)(id:Int):bG 108 #[ptr A.gr,id] w (aaf B [] A D w):=by
 have i:Bw w (aZ w #[(),(),(),(),(),()] 58):=aI;have p:=aa h;have j:D.cj.length<=100000:=by have:=ok.tn;omega
 let⟨g,b⟩:=aH (w.alloc (bH #[(),(),(),(),(),()] 58));have Y:Hid (bI g w 58 #[(),(),(),(),(),()]):=aa (by rw[<-b];exact bI.new w 58 _);rw[b]at i;let⟨X,l⟩:=Jh2 (h.keep i) b;have z:g.cell? (be A.gr 8)=some (ptr A.gt):=X.o.blk.c 8;have m:=aa i;have u:(w.alloc (bH #[(),(),(),(),(),()] 58)).cell? (be A.gr 8)=some (ptr A.gt):=by rw[b];exact z
 cases hh:dJ RT.bR D.cj id with
 |false=>
  have E:=aa (Qo A.gt _ A.vt D.cj id g X.o.qe (Sl.own nK X.o.cj) j ok.tr hh);clear h ok hh b i;go_enter func108,ntmps108;go_wp2_with fail;clear u;rw[show w.alloc (bH #[(),(),(),(),(),()] 58)=g from l.o];refine E.o.bC ?_;rintro e k⟨x,rfl,f⟩;let⟨d,r⟩:=Jh2 (Y.o.keep f) (m.o.bu (f.bC m.o.size));go_wp2_with(refine fQ rfl 58 _ _ rfl rfl w #[x.id,x.dD,x.dE,x.cP,x.cK,x.cF] rfl rfl aj aD _ d.o rfl ?_;intro M a;have q:=aa a;have W:=a.row.c 0;have I:=a.row.c 1;have n:=a.row.c 2;have K:=a.row.c 3;have t:=a.row.c 4;have S:=a.row.c 5);refine wb (v:=.tuple #[.agg #[x.id,x.dD,x.dE,x.cP,x.cK,x.cF],(8:Int)]) QcF rfl ?_;have J:=q.o.low r.o (bL _);exact⟨⟨x.id,x.dD,x.dE,x.cP,x.cK,x.cF⟩,8,A,D,rfl,⟨p.o.keep J,cg.below J,rfl⟩,bS rfl⟩
 |true=>
  have E:=aa (Qp B A.gt _ A.vt D.cj id [] g X.o.qe X.o.l2 (bW hB i.size) X.o.cj j ok.tr au au hh);clear h ok hh b i;go_enter func108,ntmps108;go_wp2_with fail;clear u;rw[show w.alloc (bH #[(),(),(),(),(),()] 58)=g from l.o];refine E.o.bC ?_;rintro e k⟨x,G,rfl,_,s⟩;let⟨d,C⟩:=Jh2 (Y.o.cu s.mod ah) (X.o.aag s);go_wp2_with(refine fQ rfl 58 _ _ rfl rfl w #[x.id,x.dD,x.dE,x.cP,x.cK,x.cF] rfl rfl aj aD _ d.o rfl ?_;intro M a;have q:=aa a;have W:=a.row.c 0;have I:=a.row.c 1;have n:=a.row.c 2;have K:=a.row.c 3;have t:=a.row.c 4;have S:=a.row.c 5);refine wb (v:=.tuple #[.agg #[x.id,x.dD,x.dE,x.cP,x.cK,x.cF],()]) QcF rfl ?_;have y:cg B [58] [] k M:=cg.put d.o q.o au hB au;exact⟨⟨x.id,x.dD,x.dE,x.cP,x.cK,x.cF⟩,0,_,_,rfl,⟨C.o.at'.cu y ah ah ah ah ah ah ah ah,((cg.below m.o).bu C.o.mod).CQ q.o (bL _),C.o.gr⟩,ci ⟨_,Jf _ _,rfl⟩⟩
variable{TS:bF TypeId}{w2:bD}
def cg.above{TS':bF TypeId}{X:bD}(h:cg B TS K w w2)(m:cg w TS' [] w2 X):cg B TS K w X:=⟨m.os.bu h.os,m.tape.bu h.tape,m.output.bu h.output,bW h.size m.size,fun k hk hc=>(m.far k (iN hk h.size) (bS hk)).bu (h.far k hk hc)⟩
def cg.down(m:cg n TS K w w2)(h:B<=n):cg B TS K w w2:=
 ⟨m.os,m.tape,m.output,m.size,fun k hk hc=>m.far k hk (by
  rcases hc with hc|hc
  ·exact bS af
  ·exact ci hc)⟩
variable{A:YA}
def dr.above{X:bD}{A':YA}(s:dr B w w2 A A' Y)(hB:B<=w)(m:cg w [58] [] w2 X):dr B w X A A' Y:=⟨s.at'.EI (m.down hB) ah,s.mod.above m,s.gy⟩
abbrev tG:Array Value:=#[(),(),(),(),(),()]
variable{q:Nat}{W:bD}
def aah(h:bI W q 58 tG)(hB:B<=q)(t:Tr):cg B [58] [] W ((((((W.setCell (be q 0) t.id).setCell (be q 1) t.dD).setCell (be q 2) t.dE).setCell (be q 3) t.cP).setCell (be q 4) t.cK).setCell (be q 5) t.cF):=by have d:=h.set 0 t.id;have c:=d.set 1 t.dD;have x:=c.set 2 t.dE;have M:=x.set 3 t.cP;have V:=M.set 4 t.cK;exact(cg.set h au hB au).bu ((cg.set d au hB au).bu ((cg.set c au hB au).bu ((cg.set x au hB au).bu ((cg.set M au hB au).bu (cg.set V au hB au)))))
def E0(Y Y':YS):Prop:=∃G',yF Y.G G'/\(Y'={Y with G:=G'}∨∃x:Ev,(x.cq<13∨15<x.cq)/\Y'=({Y with G:=G'}:YS).tell x)
abbrev SC(gy q gr:Nat)(id:Int)(W:World):Prop:=W.cell? (be gy 9)=some (ptr gr)/\W.cell? (be q 1)=id
def aai(c:Cm)(ok:dv Y)(hlog:Y.log.length+2*Y.D.log.length<=900000)(hok:∀G',yF Y.G G'->dv {Y with G:=G'}):iF B 73 Y c fun _ _ Y'=>E0 Y Y':=by
 intro w A h;let⟨g,ac⟩:=aH (w.alloc (bH (jB c) 38));have b:Bw w g:=by rw[<-ac];exact aI
 have H:Hid (Boxed g w c):=aa (by rw[<-ac];exact Boxed.new w c);let⟨aj,f,OK,I,ar,ao⟩:=Jh6 h (h.keep b) ok hlog ac hok;have CA:Bw g (aZ g tG 58):=aI;let⟨ag,HZ⟩:=Jh2 (f.o.keep CA) (bI.new g 58 tG);have ap:Hid (w.heap.size<=g.heap.size):=aa b.size;let⟨CW,an⟩:=Jh2 b (dr.same aj.o b);let⟨P,z,b2,V,b4,b5,b6⟩:=H.o.cells;let⟨a0,a1,a2,a3,a4,a5,a6⟩:=Boxed.cells (H.o.keep CA);have N:SC A.gy w A.G.gr c.id g.drew:=ch (f.o.blk.c 9) z;have ak:SC A.gy w A.G.gr c.id (g.alloc (bH tG 58)).drew:=ch (ag.o.blk.c 9) a1;let⟨s,Q⟩:=Jh2 (Ln (f.o.reg.d (wd:=g.drew)) ok.gH.ok f.o.lt c.id) (Ln (ag.o.reg.d (wd:=(g.alloc (bH tG 58)).drew)) ok.gH.ok (bW f.o.lt CA.size) c.id);clear h ok hlog ac hok a0 a2 a3 a4 a5 a6 P b2 V b4 b5 b6 a1 z;go_enter func73,ntmps73;go_wp2_with fail;rw[show w.alloc (bH #[c.kd,c.id,c.mb,c.ot,c.sc,c.qt,c.pr] 38)=g from ar.o];go_region_held3(SC A.gy w A.G.gr c.id) (first|with_reducible exact N|with_reducible exact ak|with_reducible exact aq|with_reducible exact R|with_reducible exact p|go_keep)
  (first
   |(go_at_call 108;refine s.o.bC ?_;rintro e k⟨t,y,U,C,rfl,J,F⟩;have Y2:=aa (an.o.bu ((f.o.d.yr J).before (bM _ _).drew));have m:=aa ((bI.d H.o).cu J.mod ah);obtain⟨u0,u1,u2,u3,u4,u5,u6⟩:=Boxed.cells m.o;have R:SC A.gy w A.G.gr c.id k:=ch Qde u1;have q:=aa (Y2.o.keep ((bM k k).alloc (bL _) (.cells (ek t) 58)));have x:=aa (bI.alloc m.o (bH (ek t) 58));obtain⟨v0,v1,v2,v3,v4,L,v6⟩:=Boxed.cells x.o;have p:SC A.gy w A.G.gr c.id (aZ k (ek t) 58):=ch Qdh v1;have EB:=bI.alloc m.o (bH tG 58);have aq:SC A.gy w A.G.gr c.id (aZ k tG 58):=ch (by rw[<-J.gr];exact(Y2.o.keep ((bM k k).alloc (bL _) (bH tG 58))).at'.blk.c 9) (Boxed.cells EB).2.1;have HQ:=aa F;obtain⟨X,hX⟩:=aH (k.alloc (bH (ek t) 58));have l:=aa hX;clear hX J F u0 u2 u3 u4 u5 u6 v0 v2 v3 v4 L v6 u1 v1)
   |(go_at_call 108;refine Q.o.bC ?_;rintro e k⟨t,y,U,C,rfl,J,F⟩;have Y2:=aa ((an.o.keep CA).bu ((ag.o.d.yr J).before (bM _ _).drew));have m:=aa ((bI.d (H.o.keep CA)).cu J.mod ah);have Z2:=aa ((bI.d HZ.o).cu J.mod ah);obtain⟨u0,u1,u2,u3,u4,u5,u6⟩:=Boxed.cells m.o;have R:SC A.gy w A.G.gr c.id k:=ch Qde u1;have O:=aa (aah (B:=w.heap.size) Z2.o ap.o t);have q:=aa (Y2.o.above aj.o.lt O.o);have x:=aa (bI.cu m.o O.o ah);obtain⟨v0,v1,v2,v3,v4,L,v6⟩:=Boxed.cells x.o;have p:SC A.gy w A.G.gr c.id _:=ch Qdh v1;have S:=Z2.o.c 0;have z1:=Z2.o.c 1;have z2:=Z2.o.c 2;have z3:=Z2.o.c 3;have z4:=Z2.o.c 4;have z5:=Z2.o.c 5;have f0:=Z2.o.free 0;have f1:=Z2.o.free 1;have f2:=Z2.o.free 2;have f3:=Z2.o.free 3;have f4:=Z2.o.free 4;have f5:=Z2.o.free 5;have HQ:=aa F;obtain⟨X,hX⟩:=aH ((((((k.setCell ⟨g.heap.size,0,none⟩ t.id).setCell ⟨g.heap.size,1,none⟩ t.dD).setCell ⟨g.heap.size,2,none⟩ t.dE).setCell ⟨g.heap.size,3,none⟩ t.cP).setCell ⟨g.heap.size,4,none⟩ t.cK).setCell ⟨g.heap.size,5,none⟩ t.cF);have l:=aa hX;clear hX J F u0 u2 u3 u4 u5 u6 v0 v2 v3 v4 L v6 u1 v1))
 all_goals
  rename_i r;clear r N ak R p;rw[l.o]at q x⊢;clear l;have ae:=aa (ao.o _ HQ.o);have W:Hid (E0 Y {Y with G:=C}):=aa ⟨C,HQ.o,bS rfl⟩;have n:Hid (E0 Y (({Y with G:=C}:YS).tell ⟨3,0,0,c.id,0⟩)):=aa ⟨C,HQ.o,ci ⟨_,bS (show(3:Int)<13 by decide),rfl⟩⟩;have E:Hid (({Y with G:=C}:YS).log.length+({Y with G:=C}:YS).D.log.length<=999000):=aa (by have:=I.o;show Y.log.length+Y.D.log.length<=999000;omega);have a:Hid ((({Y with G:=C}:YS).tell ⟨3,0,0,c.id,0⟩).log.length+(({Y with G:=C}:YS).tell ⟨3,0,0,c.id,0⟩).D.log.length<=999000):=aa (by
   have:=I.o
   show(Y.log++Y.D.log.drop Y.told++[_]).length+Y.D.log.length<=999000
   rw[cO,cO,fc,eN];omega)
  have ab:Hid (dr B w X A {A with G:=U} ({Y with G:=C}:YS)):=aa q.o;obtain⟨Z,am⟩:∃Z:YS,{Y with G:=C}=Z:=⟨_,rfl⟩;rw[am]at ae W n E a ab;clear am q HQ Y2;let⟨ai,af⟩:=Jh2 (Eg ab.o.at' ae.o E.o ⟨3,0,0,c.id,0⟩) (ae.o.tell ⟨3,0,0,c.id,0⟩);let⟨v0,v1,v2,v3,v4,L,v6⟩:=Boxed.cells x.o;let⟨Y4,al⟩:∃Y4:YS,Z.tell ⟨3,0,0,c.id,0⟩=Y4:=⟨_,rfl⟩;rw[al]at ai af a n;clear al;by_cases hy:y=0
  rotate_left
  ·have au:(y !=0)=true:=aG hy;clear hy;go_wp2_with fail;refine wb (v:=.tuple #[(),y]) (by simp[results,results73,go_sem]) rfl ?_;exact⟨⟨0,y,rfl⟩,_,_,ab.o,ae.o,E.o,W.o⟩
  subst hy;go_wp2_with(first
   |(go_at_call 106;refine ai.o.bC ?_;rintro e T⟨A5,rfl,M⟩;have ad:=aa (ab.o.bu M);have u:T.cell? (be A.gy 9)=some (ptr A5.G.gr):=(by rw[<-ad.o.gy];exact ad.o.at'.blk.c 9);have K:=aa (I5 ad.o.at'.reg af.o.gH.ok);clear M)
   |(go_at_call 50;refine K.o.bC ?_;rintro e w6⟨v7,rfl,o7,i⟩;have j:=aa (ad.o.keep i);obtain⟨n7,k7,rfl⟩:=bV o7;clear o7 i))
  go_ret2;exact⟨_,0,_,_,rfl,j.o,af.o,a.o,n.o⟩
def yG(w:World)(e:Ending)(w':World):Prop:=∃b:Bool,e=.returned (.bool b)/\Bw w w'
variable{g:Nat}{b:Bd}
def aaj{vm vs vc:bE}(hg:bI w g 26 (cU vm vs vc C))(hb:bI w q 211 (dV b))(hc:dM w vm vs vc C):bG 197 #[ptr g,ptr q] w (yG w):=by
 let⟨j,Z,Y,y,h,d,p,X⟩:=s8 hg;have E:=hb.c 1;have G:=aa hc;clear hg hb hc;go_enter func197,ntmps197;go_wp2_with(go_at_call 112;refine(lG vm vs vc C _ G.o _).bC ?_;rintro e V⟨n,rfl,a⟩;have R:=aa (a.alloc a.size (bH (eR n) 125)))
 all_goals
  go_ret;exact⟨_,rfl,R.o⟩
def aak{n:Int}(hg:bI w g 31 #[n]):bG 198 #[ptr g] w (yG w):=by have j:=hg.c 0;go_enter func198,ntmps198;go_wp2;go_ret;exact⟨_,rfl,bM _ _⟩
def aal(hb:bI w q 211 (dV b)):bG 199 #[ptr q] w (yG w):=by
 let⟨B,N⟩:=hb.k2 3 4;by_cases h:b.cK<1
 ·have d:=dT h;exact Qcq
 ·have d:=dF h;exact Qcq
def aam(hb:bI w q 211 (dV b)):bG 200 #[ptr q] w (yG w):=by have B:=hb.c 3;go_enter func200,ntmps200;go_wp2;go_ret;exact⟨_,rfl,bM _ _⟩
def aan{x:Sc}(hb:bI w q 211 (dV b))(hg:bI w g 127 (iQ x)):bG 201 #[ptr q,ptr g] w (yG w):=by have N:=hb.c 4;have Z:=hg.c 1;go_enter func201,ntmps201;go_wp2;go_ret;exact⟨_,rfl,bM _ _⟩
abbrev tH(g q ge gs:Nat):Array Value:=#[(9:Int),.func (.func 197) #[] #[ptr g,ptr q],(10:Int),.func (.func 198) #[] #[ptr ge],(1:Int),.func (.func 199) #[] #[ptr q],(2:Int),.func (.func 200) #[] #[ptr q],(15:Int),.func (.func 201) #[] #[ptr q,ptr gs]]
def Lo(vm vs vc:bE)(C:bZ)(b:Bd)(w:bD)(hc:dM w vm vs vc C):bG 160 #[eT vm vs vc C,Bi b] w fun e w'=>∃y:Int,e=.returned y/\Bw w w':=by
 have cA:Bw w ((w.alloc (bH (cU vm vs vc C) 26)).alloc (bH (dV b) 211)):=aI.alloc au _;let⟨G,N⟩:=Jh2 (hc.keep cA) ((bI.new w 26 (cU vm vs vc C)).alloc (bH (dV b) 211));have p:=aa (show bI ((w.alloc (bH (cU vm vs vc C) 26)).alloc (bH (dV b) 211)) (w.heap.size+1) 211 (dV b)from heap_alloc2_new _ _ _);let⟨g,v⟩:=aH ((w.alloc (bH (cU vm vs vc C) 26)).alloc (bH (dV b) 211));rw[v]at cA G N p;have A:=aa v;let⟨j,Z,Y,p3,p4,p5,p6,X⟩:=s8 N.o;have H:=p.o.c 2;clear hc v;go_enter func160,ntmps160;go_wp2_with fail;rw[show(w.alloc (bH (cU vm vs vc C) 26)).alloc (bH #[b.seq,b.mem,b.cP,b.cK,b.cF] 211)=g from A.o];go_wp2_with fail;refine(vP vm vs vc C _ G.o _).bC ?_;rintro e a⟨x,rfl,f⟩;let⟨y,B⟩:∃y:Int,(if fX C b.cP then(0:Int)else 10)=y:=⟨_,rfl⟩;rw[B];have ac:=f.size;have d:Bw a (((a.alloc (bH (iQ x) 127)).alloc (bH #[y] 31)).alloc (bH (tH w (w.heap.size+1) (a.heap.size+1) a) 276)):=(aI.alloc au _).alloc aA _;have D:=aa (((bI.new a 127 (iQ x)).alloc (bH #[y] 31)).alloc (bH (tH w (w.heap.size+1) (a.heap.size+1) a) 276));have K:=aa ((show bI ((a.alloc (bH (iQ x) 127)).alloc (bH #[y] 31)) (a.heap.size+1) 31 #[y]from heap_alloc2_new _ _ _).alloc (bH (tH w (w.heap.size+1) (a.heap.size+1) a) 276));have S:Hid (bI (((a.alloc (bH (iQ x) 127)).alloc (bH #[y] 31)).alloc (bH (tH w (w.heap.size+1) (a.heap.size+1) a) 276)) (a.heap.size+1+1) 276 (tH w (w.heap.size+1) (a.heap.size+1) a)):=aa (by have h:=bI.new ((a.alloc (bH (iQ x) 127)).alloc (bH #[y] 31)) 276 (tH w (w.heap.size+1) (a.heap.size+1) a);simpa using h);let⟨V,O,L⟩:=Jh3 ((N.o.keep f).keep d) ((p.o.keep f).keep d) ((G.o.keep f).keep d);have J:Bw w (((a.alloc (bH (iQ x) 127)).alloc (bH #[y] 31)).alloc (bH (tH w (w.heap.size+1) (a.heap.size+1) a) 276)):=(cA.bu (f.bC cA.size)).bu (d.bC (bW cA.size ac));let⟨M,n⟩:=aH (((a.alloc (bH (iQ x) 127)).alloc (bH #[y] 31)).alloc (bH (tH w (w.heap.size+1) (a.heap.size+1) a) 276));rw[n]at D K S V O L J;have q:=aa n;clear B f d n j Z Y p3 p4 p5 p6 X H;go_wp2_with fail;rw[show((a.alloc (bH #[x.cF,x.cap] 127)).alloc (bH #[y] 31)).alloc (bH #[(9:Int),.func (.func 197) #[] #[ptr w.heap.size,ptr (w.heap.size+1)],(10:Int),.func (.func 198) #[] #[ptr (a.heap.size+1)],(1:Int),.func (.func 199) #[] #[ptr (w.heap.size+1)],(2:Int),.func (.func 200) #[] #[ptr (w.heap.size+1)],(15:Int),.func (.func 201) #[] #[ptr (w.heap.size+1),ptr a.heap.size]] 276)=M from q.o];go_loopw[28] (fun vi wr=>∃k:Nat,k<=5/\vi=k/\Bw M wr) (fun vi _=>5-(intOf vi).toNat);exact⟨0,af,rfl,bM _ _⟩;obtain⟨k,hk,rfl,ab⟩:=hrel;have i:=S.o.keep ab;let⟨q0,E,H,q3,q4,l,u,r⟩:=i.k8 0 1 2 3 4 5 6 7;let⟨m,t⟩:=i.k2 8 9;let⟨F,s,U,P,W⟩:=Jh5 (V.o.keep ab) (O.o.keep ab) (L.o.keep ab) (D.o.keep ab) (K.o.keep ab);have Q:=ab.size;have z:=aa (J.bu (ab.bC J.size));clear i;have I:k=0∨k=1∨k=2∨k=3∨k=4∨k=5:=af;rcases I with rfl|rfl|rfl|rfl|rfl|rfl;case' inr.inr.inr.inr.inr=>
  go_wp2;go_ret;exact⟨_,rfl,z.o⟩
 all_goals
  go_wp2_with fail;first
   |(refine(aaj (F.o.alloc _) (s.o.alloc _) (U.o.alloc _)).bC ?_;have T:=aa (bI.new wr 276 #[(9:Int),.func (.func 197) #[] #[ptr w,ptr (w.heap.size+1)]]))
   |(refine(aak (W.o.alloc _)).bC ?_;have T:=aa (bI.new wr 276 #[(10:Int),.func (.func 198) #[] #[ptr (a.heap.size+1)]]))
   |(refine(aal (s.o.alloc _)).bC ?_;have T:=aa (bI.new wr 276 #[(1:Int),.func (.func 199) #[] #[ptr (w.heap.size+1)]]))
   |(refine(aam (s.o.alloc _)).bC ?_;have T:=aa (bI.new wr 276 #[(2:Int),.func (.func 200) #[] #[ptr (w.heap.size+1)]]))
   |(refine(aan (s.o.alloc _) (P.o.alloc _)).bC ?_;have T:=aa (bI.new wr 276 #[(15:Int),.func (.func 201) #[] #[ptr (w.heap.size+1),ptr a.heap.size]]))
  rintro e x1⟨bb,rfl,c1⟩;have y0:=(T.o.keep c1).c 0;have R:=aa ((ab.alloc Q _).bu (c1.bC (by have:=Q;simp;omega)));have RW:=aa ((z.o.alloc z.o.size _).bu (c1.bC (by have:=z.o.size;simp;omega)));cases bb with
  |true=>
   go_wp2;go_ret;exact⟨_,rfl,RW.o⟩
  |false=>
   go_wp2;go_roundw
   case rel=>first|exact⟨1,ah,aB,R.o⟩|exact⟨2,ah,aB,R.o⟩|exact⟨3,ah,aB,R.o⟩|exact⟨4,ah,aB,R.o⟩|exact⟨5,ah,aB,R.o⟩
   case measure=>simp[intOf]
abbrev DA.box(A:DA)(C:bZ):Array Value:=#[A.um,A.us,A.uc,C.line,C.capital,C.lead,C.cj,C.cv,A.vx]
def cQ.aao{A:DA}{l:bF Bd}{v0 vx:bE}(h:cQ w B A D)(g:lH gX 5 211 w w' B A.gx 175 (A.box D.C) 8 v0 l K vx):cL B K w w' A {A with vx:=vx} {D with cv:=l}:=by have m:=g.mod;exact⟨⟨h.blk.cu m ah,h.ct.cu m ah ah ah,h.gC.cu m ah ah ah ah ah,h.fZ.cu m ah ah,g.blk,h.nF.cu m ah ah ah,g.own,dq h.who m ah,dq h.log m ah,h.l1,h.l2⟩,m.bC ah,rfl,rfl,rfl,rfl,bS rfl⟩
def Sl.vG(w:bD)(x:Bd):Sl gX 5 (aZ w (dV x) 211) (.slice (some (be w 0)) 1 1) [x]:=by
 refine⟨some (be w 0),1,rfl,(fun h=>by cases h),au,az,fun _=>⟨w,0,rfl,au,fun i hi j u hu=> ?_⟩⟩;have c:i=0:=aG hi;subst c;have:=MQ w x w rfl j u hu
 rw[iX]at this;simpa using this
def yH(D D':DS):Prop:=D'=D∨((D.cv:Int)<D.C.cv/\∃b,D'={D with cv:=D.cv++[b]})
def aap(B:Nat)(K:List Nat)(A:DA)(D:DS)(w:World)(e:Ending)(w':World):Prop:=∃(n y:Int) (A':DA) (D':DS),e=.returned (.tuple #[n,y])/\cL B K w w' A A' D'/\yH D D'
abbrev SB(q:Nat)(b:Bd)(W:World):Prop:=W.cell? (be q 0)=b.seq/\W.cell? (be q 1)=b.mem/\W.cell? (be q 2)=b.cP/\W.cell? (be q 3)=b.cK/\W.cell? (be q 4)=b.cF
def SB.of(h:bI W q 211 (dV b)):SB q b W:=⟨h.c 0,h.c 1,h.c 2,h.c 3,h.c 4⟩
def s8x{A:DA}(h:cQ W B A D):S8 A.gx A.um A.us A.uc D.C W:=⟨h.box.c 0,h.box.c 1,h.box.c 2,h.box.c 3,h.box.c 4,h.box.c 5,h.box.c 6,h.box.c 7⟩
def aaq{A:DA}(h:cQ w B A D)(hK:A.gx∉K)(hKv:∀k,A.vx.ownBlock=some k->k∉K)(hB:B<=w)(hn:D.cv.length<=1000)(b:Bd):
  bG 163 #[ptr A.gx,Bi b] w (aap B K A D w):=by
 let⟨J,p,S,am,q⟩:=wm Bj;have c0:Bw w (aZ w (dV b) 211):=aI;let⟨T,E,ad,F⟩:=Jh4 (bI.new w 211 (dV b)) h (h.keep c0) hKv;let⟨U,ae⟩:=aH (w.alloc (bH (dV b) 211));rw[ae]at c0 T ad;let⟨al,C0⟩:=Jh2 ae c0;have ag:=ch (s8x ad.o) (SB.of T.o);have P:=aa (Lo A.um A.us A.uc D.C b U.drew (ad.o.d (wd:=U.drew)).nF.sl);clear h hKv ae;go_enter func163,ntmps163;go_wp2_with fail;rw[show w.alloc (bH #[b.seq,b.mem,b.cP,b.cK,b.cF] 211)=U from al.o];go_region_held3(fun W=>S8 A.gx A.um A.us A.uc D.C W/\SB w b W) (first|exact ag|exact x|assumption|go_keep)
  (first|(go_at_call 160;refine P.o.bC ?_;rintro e V⟨y,rfl,c1⟩;have z:=aa (C0.o.bu ((Below.bC (sW c1) C0.o.size)));have H:=aa (ad.o.keepD c1);have X1:=aa (T.o.keepD c1);have x:=ch (s8x H.o) (SB.of X1.o)))
 rename_i r;clear r ag x c1;by_cases hy:y=0
 rotate_left
 ·have an:(y !=0)=true:=aG hy;go_wp2;go_ret2;exact⟨_,_,A,D,rfl,cL.same E.o z.o,bS rfl⟩
 subst hy;let⟨nv,L,R⟩:=bV H.o.cv;have HV:=aa R;have m:V.cell? (be A.gx 8)=some (.slice nv D.cv L):=(H.o.box.c 8).bu (ym some R);have q7:V.cell? (be A.gx 7)=D.C.cv:=H.o.box.c 7;let⟨N,f⟩:=aH D.cv.length;have I:=aa f;rw[f]at m hn;clear R f;by_cases hf:D.C.cv<=(N:Int)
 ·have d:=dT hf;clear hf;go_wp2;go_region;go_wp2;go_ret2;exact⟨_,_,A,D,rfl,(cL.same E.o z.o).keep (bM _ _).drew,bS rfl⟩
 have d:=dF hf;have HF:=aa hf;have aj:=(gJ N hn).1;have ai:=(gJ N hn).2;clear hf;go_wp2;go_region;let⟨DX,O,bX⟩:=Jh3 (H.o.d (wd:=V.drew)) (X1.o.d (wd:=V.drew)) (z.o.drew);clear H X1 z m q7 d;generalize V.drew=X at*;have m:X.cell? (be A.gx 8)=some (.slice nv N L):=by rw[<-I.o,<-HV.o];exact DX.o.box.c 8
 have f0:=O.o.free 0;have G:=O.o.c 0;have Q:=aa (show X.ownsRow B 211 5 (.slice nv N L) D.cv (bN gX D.cv) by rw[<-I.o,<-HV.o];exact DX.o.cv);go_wp2_with fail;have mY:cg w [211] [] X (X.setCell (be w 0) (aY ((N:Int)+1))):=cg.set O.o au (bL _) au;have XY:=aa (show bI (X.setCell (be w 0) (aY ((N:Int)+1))) w 211 (dV ⟨(N:Int)+1,b.mem,b.cP,b.cK,b.cF⟩)from O.o.set 0 _);have bY:=aa (mY.low bX.o (bL _));clear m f0 G aj ai;generalize X.setCell (be w.heap.size 0) (aY ((N:Int)+1))=Y at*;clear mY DX O bX Q X;have v:=aa (E.o.keep bY.o);have Q:=aa (show Y.ownsRow B 211 5 (.slice nv N L) D.cv (bN gX D.cv) by rw[<-I.o,<-HV.o];exact v.o.cv);have m:Y.cell? (be A.gx 8)=some (.slice nv N L):=by rw[<-I.o,<-HV.o];exact v.o.box.c 8
 have i:(Y.alloc (bH (dV ⟨(N:Int)+1,b.mem,b.cP,b.cK,b.cF⟩) 211)).cell? (be A.gx 8)=some (.slice nv N L):=by rw[<-I.o,<-HV.o];exact(v.o.alloc _).box.c 8
 have BY:=aa v.o.box;let⟨a0,n,a2,a3,a4⟩:=SB.of XY.o;have j:=bY.o.size;have HL:=aa (show D.cv.length=N from I.o);let⟨M,hM⟩:=aH ((D.cv++[(⟨(N:Int)+1,b.mem,b.cP,b.cK,b.cF⟩:Bd)]).length);have ak:=aa hM;clear hM;have a:D.cv.length<=1000:=by rw[I.o];exact hn
 go_wp2;go_region_law((refine lV oD ah vG _ aB _ _ 173 aB B 211 J (.agg #[(),(),(),(),()]) 40 underlying173 p S am q aB (.slice nv N L) D.cv aB Qcc (some (be Y 0)) 1 1 [⟨(N:Int)+1,b.mem,b.cP,b.cK,b.cF⟩] aB aB (by exact Sl.vG _ _) aP aO aA ?_;intro v' w2 ac l af;have T2:=aa (uw (w:=Y.alloc (bH (dV ⟨(N:Int)+1,b.mem,b.cP,b.cK,b.cF⟩) 211)) (off:=8) (K:=K) (BY.o.alloc _) Qcc Qcx ac (by exact af) ah v.o.l2 hK (by rw[<-I.o,<-HV.o];exact F.o));have B2:=aa (bI.grown (w:=Y.alloc (bH (dV ⟨(N:Int)+1,b.mem,b.cP,b.cK,b.cF⟩) 211)) (BY.o.alloc _) Qcc Qcx ah);have ab:=ac;rw[ak.o]at ab;obtain⟨n3,u,rfl⟩:=bV ab;clear ab;have s:=B2.o.c 8;have f1:=B2.o.free 8))
 all_goals
  have g:=aa ((l.block w (by have:=XY.o.lt;simp;omega) (fun e=>by have h1:=E.o.cv.lt _ (show A.vx.ownBlock=some w.heap.size by rw[HV.o,I.o];exact e.symm);omega)).bu (XY.o.alloc (bH (dV ⟨(N:Int)+1,b.mem,b.cP,b.cK,b.cF⟩) 211)));have XZ:=aa (bI.far (show bI w2 w 211 (dV ⟨(N:Int)+1,b.mem,b.cP,b.cK,b.cF⟩)from g.o) 8 (.slice n3 M u) (show w.heap.size≠A.gx from fun e=>by have:=E.o.box.lt;omega));have t:=aa (((cL.same (K:=K) E.o bY.o).keep ((bM Y Y).alloc (bL _) (.cells (dV ⟨(N:Int)+1,b.mem,b.cP,b.cK,b.cF⟩) 211))).bu ((v.o.alloc (bH (dV ⟨(N:Int)+1,b.mem,b.cP,b.cK,b.cF⟩) 211)).aao T2.o));clear l af ac s f1 B2 m i a0 n a2 a3 a4 g T2;generalize(w2.setCell (be A.gx 8) (.slice n3 M u))=Z at*
  have z0:=XZ.o.c 0;go_wp2;go_ret2;exact⟨_,_,_,_,rfl,t.o,ci ⟨by rw[I.o];have:=HF.o;omega,_,rfl⟩⟩
def oe(D D':DS):Prop:=∃(l:List Bd) (ev:List Ev),D'={D with cv:=l,log:=D.log++ev}/\(l.length<=D.cv.length∨(l:Int)<=D.C.cv)/\ev.length<=1/\eM ev
def oe.same(D:DS):oe D D:=⟨D.cv,[],au,bS (bL _),au,nofun⟩
def yH.bid(h:yH D D')(ev:bF Ev)(h1:ev.length<=1)(h2:eM ev):oe D (D'.tell ev):=by
 rcases h with rfl|⟨h3,b,rfl⟩
 ·exact⟨D'.cv,ev,rfl,bS (bL _),h1,h2⟩
 ·exact⟨_,ev,rfl,ci (by rw[cO,eN];omega),h1,h2⟩
def yH.aar(h:yH D D'):oe D D':=by
 have:=h.bid [] au (nofun)
 unfold DS.tell at this;simpa using this
def cL.less{K':bF Nat}{A A':DA}(s:cL B K' w w' A A' D')(h:∀k∈K,k∈K'):cL B K w w' A A' D':=⟨s.at',s.mod.less h,s.gd,s.gv,s.gs,s.gx,s.goes⟩
def aas(B:Nat)(K:List Nat)(A:DA)(D:DS)(w:World)(e:Ending)(w':World):Prop:=∃(n y:Int) (A':DA) (D':DS),e=.returned (.tuple #[n,y])/\cL B K w w' A A' D'/\oe D D'
def aat{A:DA}(h:cQ w B A D)(ok:cC D)(hK:dS w K A)(hB:B<=w)(hn:D.cv.length<=1000)(hlog:D.log.length<=900000)(b:Bd):
  bG 114 #[ptr A.gd,Bi b] w (aas B K A D w):=by
 have c0:Bw w (aZ w (dV b) 211):=aI;have c1:=c0.alloc c0.size (bH #[(2:Int)] 3);have T:=aa ((bI.new w 211 (dV b)).alloc (bH #[(2:Int)] 3));let⟨E,HK,OK⟩:=Jh3 h hK ok;have hS:=bI.new (aZ w (dV b) 211) 3 #[(2:Int)];have ab:=wy (h.keep c1) 2 (w.alloc (bH (dV b) 211)).heap.size hS;rw[show(w.alloc (bH (dV b) 211)).heap.size=w.heap.size+1 from au]at ab;let⟨g,v⟩:=aH ((w.alloc (bH (dV b) 211)).alloc (bH #[(2:Int)] 3));rw[v]at c1 T ab;let⟨ap,t⟩:=Jh2 v c1;have am:Hid (∀k,A.vx.ownBlock=some k->k<w.heap.size):=aa fun k hk=>(h.cv.lt k hk).2;have ao:Hid (A.gx<w):=aa h.box.lt;have av:Hid (A.gx∉K):=aa (hK.blk h.box ah);have F:Hid (∀k,A.vx.ownBlock=some k->k∉K):=aa (hK.own h.cv ah);have i:D.who.length<=1000000:=by have:=ok.who;omega
 let⟨s,L⟩:∃s:Int,(if 2=D.state then(0:Int)else 11)=s:=⟨_,rfl⟩;rw[L]at ab;let⟨f,H⟩:=Jh2 ab (E.o.keep c1);have N:=ch (qE H.o.blk) (SB.of T.o);have an:=aa (Lo A.vm A.vs A.vc D.C b g.drew (H.o.d (wd:=g.drew)).ct.sl);clear h ok hK hS ab v L c0 c1;go_enter func114,ntmps114;go_wp2_with fail;rw[show(w.alloc (bH #[b.seq,b.mem,b.cP,b.cK,b.cF] 211)).alloc (bH #[(2:Int)] 3)=g from ap.o];refine f.o.bC ?_;rintro e w1⟨rfl,hw⟩;subst hw;by_cases P:s=0
 rotate_left
 ·have ad:(s !=0)=true:=aG P;clear N;go_wp2;go_ret2;exact⟨_,_,A,D,rfl,cL.same E.o t.o,oe.same D⟩
 subst P;go_wp2;go_region_held3(fun W=>S8 A.gd A.vm A.vs A.vc D.C W/\SB w b W) (first|exact N|exact x|assumption|go_keep)
  (first|(go_at_call 160;refine an.o.bC ?_;rintro e V⟨y,rfl,c2⟩;have C2:=aa (t.o.bu (Below.bC (sW c2) t.o.size));have D2:=aa (H.o.keepD c2);have X2:=aa (T.o.keepD c2);have x:=ch (qE D2.o.blk) (SB.of X2.o)))
 rename_i r;clear r N x c2;by_cases hy:y=0
 rotate_left
 ·have ad:(y !=0)=true:=aG hy;go_wp2;go_ret2;exact⟨_,_,A,D,rfl,cL.same E.o C2.o,oe.same D⟩
 subst hy;let⟨q,kw,aj,qs⟩:=wH rfl D2.o;have ac:=aa (uA _ D.who b.mem V.drew qs.d i);have ag:=ch aj (X2.o.c 1);let⟨hb,n⟩:=aH (iR D.who b.mem);rw[n]at ac;clear n qs;go_wp2;go_region_held3(fun W=>W.cell? (be A.gd 11)=some (.slice q D.who kw)/\W.cell? (be w 1)=b.mem) (first|exact ag|assumption|go_keep)
  (first|(go_at_call 161;refine ac.o.bC ?_;rintro e x2⟨rfl,rfl⟩))
 rename_i r;clear r ag aj;let⟨C3,D3,Z⟩:=Jh3 (C2.o.drew) (D2.o.d (wd:=V.drew)) (X2.o.d (wd:=V.drew));clear C2 D2 X2 ac H T;generalize V.drew=Y at*;cases hb with
 |true=>
  go_wp2;go_ret2;exact⟨_,_,A,D,rfl,cL.same E.o C3.o,oe.same D⟩
 |false=>
  have x2:=Z.o.c 2;have ae:=aa (zV D3.o OK.o b.cP);let⟨m,al⟩:=aH (D.short b.cP);rw[al]at ae;clear al;go_wp2_with fail;refine ae.o.bC ?_;rintro e X⟨rfl,p⟩;let⟨C4,I,X4⟩:=Jh3 (C3.o.bu (p.bC C3.o.size)) (D3.o.keep p) (Z.o.keep p);clear p x2 C3 D3 Z;by_cases hz:m=0
  ·have hq:=beq_iff_eq.2 hz;clear hz;go_wp2;go_ret2;exact⟨_,_,A,D,rfl,cL.same E.o C4.o,oe.same D⟩
  have hq:=xp.2 hz;clear hz;have ar:=aa (aaq (K:=w.heap.size::K) (I.o.d (wd:=X.drew)) (by simp only[je,not_or];exact⟨by have:=ao.o;omega,av.o⟩) (fun k hk=>by simp only[je,not_or];exact⟨by have:=am.o k hk;omega,F.o k hk⟩) (bW hB C4.o.size) hn b);have ak:=ch (show X.cell? (be A.gd 10)=some (ptr A.gx)from I.o.blk.c 10) (SB.of X4.o);go_wp2;go_region_held3(fun W=>W.cell? (be A.gd 10)=some (ptr A.gx)/\SB w b W) (first|exact ak|exact j|assumption|go_keep)
   (first|(go_at_call 163;refine ar.o.bC ?_;rintro e z⟨U,y5,A5,l,rfl,M,ai⟩;have G:=aa ((cL.same (K:=K) E.o C4.o).bu ((M.less fun k hk=>jS _ hk).before (bM _ _).drew));have R:=aa (show bI z w 211 (dV b)from(M.mod.far _ X4.o.lt (ci (bS (iG ..)))).bu X4.o);have a:=aa ai;have j:=ch (show z.cell? (be A.gd 10)=some (ptr A.gx)from by rw[<-G.o.gd,<-G.o.gx];exact G.o.at'.blk.c 10) (SB.of R.o)))
  rename_i r;clear r ak j M ai hq;by_cases af:y5=0
  rotate_left
  ·have ad:(y5 !=0)=true:=aG af;go_wp2;go_ret2;exact⟨_,_,_,_,rfl,G.o,a.o.aar⟩
  subst af;let⟨S,z1,J,z3,z4⟩:=SB.of R.o;have cY:Bw z (z.alloc (bH #[(11:Int),b.mem,b.cP,b.cK,U] 101)):=aI;have aq:l.log.length=D.log.length:=by
   rcases a.o with e|⟨_,_,e⟩
   ·rw[e]
   ·rw[e]
  have HT:=aa (tx (K:=K) G.o.gd (G.o.at'.keep cY) ((HK.o.step G.o).keep cY) (bW hB (bW G.o.mod.size cY.size)) [⟨11,b.mem,b.cP,b.cK,U⟩] (be z 0) 1 (Sl.fg eE jg z 101 ⟨11,b.mem,b.cP,b.cK,U⟩ aB _ rfl) (by rw[aq];show D.log.length+1<=1000000;omega));go_wp2_with(first
   |(go_at_call 164;refine HT.o.bC ?_;rintro e w8⟨O,rfl,Q⟩;have u:=aa ((G.o.keep cY).bu Q);clear Q))
  go_ret2;exact⟨_,_,_,_,rfl,u.o,a.o.bid [⟨11,b.mem,b.cP,b.cK,U⟩] au (pg (bS (show(11:Int)<13 by decide)))⟩
section
variable {B:Nat} {K:List Nat} {A:DA} {D:DS} {w:World}
def Lp(ok:cC D)(m a bJ:Int):cC {D with bQ:=(jk D.bQ m a bJ).2}:=by
 have h:(jk D.bQ m a bJ).2.length<=1024/\∀x∈(jk D.bQ m a bJ).2,bO x.cE:=by
  unfold jk;exact QaD
 exact ok.yo h.1 h.2
def Lq(h:cQ w B A D)(ok:cC D)(hK:dS w K A)(m a bJ:Int):bG 159 #[ptr A.gs,m,a,bJ] w fun e w'=>e=.returned (aY (jk D.bQ m a bJ).1)/\cL B K w w' A A {D with bQ:=(jk D.bQ m a bJ).2}:=(QG B A.gs A.vo D.bQ m a bJ K w h.fZ aU (hK.own h.fZ.own ah)).bC fun _ _ hs=>kR.step h hs
end
def DS.backed(D:DS)(m a bJ:Int)(fr to:Ac)(cq:Int):DS:=(({D with bQ:=(jk D.bQ m a bJ).2}:DS).move fr to a bJ).tell [⟨cq,m,a,bJ,0⟩]
def rH(D:DS)(m a bJ:Int)(fr to:Ac)(cq x y:Int)(D':DS):Prop:=
 if fE D.C m a≠0 then x=0/\y=fE D.C m a/\D'=D
 else if(jk D.bQ m a bJ).1≠0 then x=0/\y=(jk D.bQ m a bJ).1/\D'={D with bQ:=(jk D.bQ m a bJ).2}
 else DT (D.backed m a bJ fr to cq).bQ m a x y/\D'=D.backed m a bJ fr to cq
def aau(B:Nat)(K:List Nat)(A:DA)(D:DS)(m a bJ:Int)(fr to:Ac)(cq:Int)(w:World)(e:Ending)(w':World):Prop:=∃x y A' D',e=.returned (.tuple #[aY x,aY y])/\cL B K w w' A A' D'/\rH D m a bJ fr to cq x y D'
variable{B:Nat}{K:bF Nat}{D:DS}{w:bD}
def Lr{A:DA}(h:cQ w B A D)(ok:cC D)(hK:dS w K A)(hB:B<=w)(m a bJ:Int)(h64:bO bJ)(fk fm tk tm cq:Int)(hlog:D.log.length<=999000):
  bG 153 #[ptr A.gd,m,a,bJ,.func (.func 159) #[ptr A.gs] #[],fo ⟨fk,fm⟩,fo ⟨tk,tm⟩,cq] w (aau B K A D m a bJ ⟨fk,fm⟩ ⟨tk,tm⟩ cq w):=by
 let⟨g,v⟩:=aH ((w.alloc (bH (cT ⟨fk,fm⟩) 81)).alloc (bH (cT ⟨tk,tm⟩) 81));have b:Bw w g:=by rw[<-v];exact aI.alloc au _
 have z:bI g w 81 (cT ⟨fk,fm⟩):=by rw[<-v];exact(bI.new w 81 _).alloc _
 have t:bI g (w.heap.size+1) 81 (cT ⟨tk,tm⟩):=by rw[<-v];exact heap_alloc2_new _ _ _
 let⟨R,Z,ai,H,l,av⟩:=Jh6 z t h hK ok ok;let⟨P,al,ax,ak⟩:=Jh4 (h.keep b) (Ji (h.keep b) m a) h64 v;let⟨y,hy⟩:=aH (fE D.C m a);have U:=aa hy;clear h ok hK z t h64 v hy;by_cases I:y=0
 rotate_left
 ·have ao:(y !=0)=true:=aG I;have q:Hid (rH D m a bJ ⟨fk,fm⟩ ⟨tk,tm⟩ cq 0 y D):=aa (by unfold rH;rw[U.o,yc I];exact⟨rfl,rfl,rfl⟩);exact QaB
 ·subst I;let⟨⟨pe,ob⟩,hp⟩:∃r,jk D.bQ m a bJ=r:=⟨_,rfl⟩;let⟨u,aj⟩:=Jh2 hp (Lp av.o m a bJ);rw[hp]at aj;clear hp;by_cases ag:pe=0
  rotate_left
  ·have ao:(pe !=0)=true:=aG ag;have q:Hid (rH D m a bJ ⟨fk,fm⟩ ⟨tk,tm⟩ cq 0 pe {D with bQ:=ob}):=aa (by unfold rH;rw[U.o,ya au,u.o,yc ag];exact⟨rfl,rfl,rfl⟩);clear ag;go_enter func153,ntmps153;go_wp2_with fail;rw[show(w.alloc (bH #[fk,fm] 81)).alloc (bH #[tk,tm] 81)=g from ak.o];go_wp2_with(first|(go_at_call 193;refine al.o.bC ?_;rintro e k⟨rfl,f⟩;rw[U.o];have t:=b.bu (f.bC b.size);have J:=aa (P.o.keep f);have an:=aa (R.o.keep f);have Q:=aa (Z.o.keep f);have ab:=Lq J.o l.o (H.o.keep t) m a bJ;rw[u.o]at ab;have ae:=aa ab;clear ab f)|(go_at_call 159;refine ae.o.bC ?_;rintro e O⟨rfl,ac⟩;have j:=aa ((cL.same (K:=K) ai.o t).bu ac);have E:=aa (an.o.cu ac.mod ah);have am:=aa (Q.o.cu ac.mod ah);have q8:O.cell? (be A.gd 8)=some (ptr A.gv):=ac.at'.blk.c 8;clear ac));go_ret2;exact⟨_,_,A,_,rfl,j.o,q.o⟩
  ·subst ag;go_enter func153,ntmps153;go_wp2_with fail;rw[show(w.alloc (bH #[fk,fm] 81)).alloc (bH #[tk,tm] 81)=g from ak.o];go_wp2_with(first|(go_at_call 193;refine al.o.bC ?_;rintro e k⟨rfl,f⟩;rw[U.o];have t:=b.bu (f.bC b.size);have J:=aa (P.o.keep f);have an:=aa (R.o.keep f);have Q:=aa (Z.o.keep f);have ab:=Lq J.o l.o (H.o.keep t) m a bJ;rw[u.o]at ab;have ae:=aa ab;clear ab f)|(go_at_call 159;refine ae.o.bC ?_;rintro e O⟨rfl,ac⟩;have j:=aa ((cL.same (K:=K) ai.o t).bu ac);have E:=aa (an.o.cu ac.mod ah);have am:=aa (Q.o.cu ac.mod ah);have q8:O.cell? (be A.gd 8)=some (ptr A.gv):=ac.at'.blk.c 8;clear ac));let⟨i,n⟩:=E.o.k2 0 1;let⟨a2,a3⟩:=am.o.k2 0 1;have V:=bW hB j.o.mod.size;have aw:=aa (H.o.step j.o);have aq:=aa (DR (j.o.at'.d (wd:=O.drew)) aj.o (aw.o.d (wd:=O.drew)) V ⟨fk,fm⟩ ⟨tk,tm⟩ a bJ ax.o);have N:=ch q8 (ch i (ch n (ch a2 a3)));go_region_held3(fun W=>W.cell? (be A.gd 8)=some (ptr A.gv)/\W.cell? (be w 0)=fk/\W.cell? (be w 1)=fm/\W.cell? (be (w.heap.size+1) 0)=tk/\W.cell? (be (w.heap.size+1) 1)=tm) (first|exact N|exact x|assumption|go_keep)
    (first|(go_at_call 167;refine aq.o.bC ?_;rintro e X⟨L,vb,pp,rr,rfl,ad⟩;have Y:=aa (j.o.bu (ad.before ((bM _ _).drew)));have A4:=(E.o.d (wd:=O.drew)).cu ad.mod ah;have s:=(am.o.d (wd:=O.drew)).cu ad.mod ah;have x:=ch (ad.at'.blk.c 8) (ch (A4.c 0) (ch (A4.c 1) (ch (s.c 0) (s.c 1))));clear ad A4 s))
   rename_i af;clear af N x q8 i n a2 a3;have cX:Bw X (aZ X (lp ⟨cq,m,a,bJ,0⟩) 101):=aI;have ar:=aa (aj.o.move ⟨fk,fm⟩ ⟨tk,tm⟩ a bJ);have HT:=aa (yl (Y.o.at'.keep cX) ((H.o.step Y.o).keep cX) (bW hB (bW Y.o.mod.size cX.size)) [⟨cq,m,a,bJ,0⟩] (be X 0) 1 (Sl.fg eE jg X 101 ⟨cq,m,a,bJ,0⟩ aB _ rfl) Qbi);have ay:Hid (D.backed m a bJ ⟨fk,fm⟩ ⟨tk,tm⟩ cq=((({D with bQ:=ob}:DS).move ⟨fk,fm⟩ ⟨tk,tm⟩ a bJ).tell [⟨cq,m,a,bJ,0⟩])):=aa (by unfold DS.backed;rw[u.o]);go_wp2_with(first|(go_at_call 164;refine HT.o.bC ?_;rintro e T⟨vl,rfl,M⟩;have G:=aa ((Y.o.keep cX).bu M);have q9:T.cell? (be A.gd 9)=some (ptr A.gs):=M.at'.blk.c 9;have ap:=aa (Je M.at' (ar.o.tell _) m a);clear M)|(go_at_call 194;refine ap.o.bC ?_;rintro e F⟨xx,yy,rfl,S,c6⟩;have p:=aa S;have C6:=aa c6;clear S c6));go_ret2;refine⟨xx,yy,_,_,rfl,G.o.keep C6.o, ?_⟩;unfold rH;rw[U.o,ya au,u.o,ya au,ay.o];exact⟨p.o,rfl⟩
def aav(B:Nat)(K:List Nat)(A:DA)(D:DS)(m a bJ:Int)(w:World)(e:Ending)(w':World):Prop:=∃x y A' D',e=.returned (.tuple #[aY x,aY y])/\cL B K w w' A A' D'/\if D.state≠1 then x=0/\y=11/\D'=D else rH D m a bJ ⟨1,0⟩ ⟨7,m⟩ 6 x y D'
def aaw{A:DA}(h:cQ w B A D)(ok:cC D)(hK:dS w K A)(hB:B<=w)(m a bJ:Int)(h64:bO bJ)(hlog:D.log.length<=999000):
  bG 113 #[ptr A.gd,m,a,bJ] w (aav B K A D m a bJ w):=by
 let⟨g,v⟩:=aH (w.alloc (bH #[(1:Int)] 3));have b:Bw w g:=by rw[<-v];exact aI
 have s:=wy (h.keep b) 1 w QbS;let⟨C,d,H,l,Z,P⟩:=Jh6 v h hK ok h64 (h.keep b);have q:=aa (hK.keep b);by_cases L:D.state=1
 rotate_left
 ·rw[ya (Ne.symm L)]at s;let⟨f,E⟩:=Jh2 s L;clear h ok hK h64 v s L;go_enter func113,ntmps113;exact QaF
 ·rw[yc L.symm]at s;let⟨f,E⟩:=Jh2 s L;have t:g.cell? (be A.gd 9)=some (ptr A.gs):=(h.keep b).blk.c 9;have z:=aa (j7.start g B A D P.o);have J:=bW hB b.size;clear h ok hK h64 v s L;go_enter func113,ntmps113;go_wp2_with fail;rw[show w.alloc (bH #[(1:Int)] 3)=g from C.o];go_wp2_with(go_at_call 152;refine f.o.bC ?_;rintro e i⟨rfl,T⟩;subst T);go_region_held3(fun W=>W.cell? (be A.gd 9)=some (ptr A.gs)) (first|exact t|exact I|exact M|exact O|assumption|go_keep)
   (first
    |(go_at_call 140;refine(qZ m _).bC ?_;rintro e V⟨rfl,rfl⟩;(first|have S:=aa (G.o.alloc (bH (cT ⟨7,m⟩) 81))|have S:=aa (z.o.alloc (bH (cT ⟨7,m⟩) 81)));have I:=S.o.2.blk.c 9)
    |(go_at_call 155;refine(mZ _).bC ?_;rintro e R⟨rfl,rfl⟩;(first|have G:=aa (S.o.alloc (bH (cT ⟨1,0⟩) 81))|have G:=aa (z.o.alloc (bH (cT ⟨1,0⟩) 81)));have M:=G.o.2.blk.c 9)
    |(go_at_call 153;(first|(refine(Lr (K:=K) G.o.2 l.o (q.o.keep G.o.1) (bW J G.o.1.size) m a bJ Z.o 1 0 7 m 6 hlog).bC ?_;rintro e F⟨N,k,x,Q,rfl,n,p⟩;have j:=aa ((cL.same (K:=K) d.o (b.bu (G.o.1.bC b.size))).bu n))|(refine(Lr (K:=K) S.o.2 l.o (q.o.keep S.o.1) (bW J S.o.1.size) m a bJ Z.o 1 0 7 m 6 hlog).bC ?_;rintro e F⟨N,k,x,Q,rfl,n,p⟩;have j:=aa ((cL.same (K:=K) d.o (b.bu (S.o.1.bC b.size))).bu n)));have y:=aa p;have O:F.cell? (be A.gd 9)=some (ptr A.gs):=Qcj;clear n p))
  all_goals
   exact QbN
def tI(Y:YS)(R:DS->DS->Prop)(Y':YS):Prop:=∃D',R Y.D D'/\Y'={Y with D:=D'}
def AG(Y:YS)(R:DS->DS->Prop):Prop:=∀D',R Y.D D'->dv {Y with D:=D'}/\Y.log.length+D'.log.length<=999000
def AH(m a n:Int)(D D':DS):Prop:=∃x y:Int,if D.state≠1 then x=0/\y=11/\D'=D else rH D m a n ⟨1,0⟩ ⟨7,m⟩ 6 x y D'
def aax(c:Cm)(hf:c.Fit)(ok:dv Y)(hlog:Y.D.log.length<=900000)(hok:AG Y (eH 1)):iF B 78 Y c fun _ _ Y'=>tI Y (eH 1) Y':=by
 intro w A h;let⟨g,v⟩:=aH (w.alloc (bH (jB c) 38));have b:Bw w g:=by rw[<-v];exact aI
 have H:Hid (Boxed g w c):=aa Qbd;let⟨C,f,l,j,Z,a⟩:=Jh6 h (h.keep b) ok v hf.qt hok;have i:=aa (fun W K A (h:cQ W B A Y.D) (k:dS W K A) (hB:B<=W)=>Xk h ok.ez k hB c.mb c.qt Z.o hlog);let⟨P,z,t,V,G,I,L⟩:=H.o.cells;have s:g.cell? (be A.gy 8)=some (ptr A.D.gd):=f.o.blk.c 8;have N:=ch s (ch t I);clear h ok hlog v hf hok;go_enter func78,ntmps78;go_wp2_with fail;rw[show w.alloc (bH #[c.kd,c.id,c.mb,c.ot,c.sc,c.qt,c.pr] 38)=g from j.o];go_region_held3(fun W=>W.cell? (be A.gy 8)=some (ptr A.D.gd)/\W.cell? (be w 2)=c.mb/\W.cell? (be w 5)=c.qt) (first|exact N|exact R|assumption|go_keep)
  (first|(go_at_call 115;refine(i.o g.drew _ _ (f.o.dg.d) f.o.d.pb f.o.lt).bC ?_;rintro e F⟨x,y,U,n,rfl,J,E⟩;have u:=aa ((dr.same C.o b).bu ((f.o.d.pd J).before (bM _ _).drew));have q:=aa (a.o n E);have p:Hid (tI Y (eH 1) {Y with D:=n}):=aa ⟨n,E,rfl⟩;have m:=aa ((bI.d H.o).cu J.mod ah);have r:F.cell? (be A.gy 8)=some (ptr A.D.gd):=Qbo;obtain⟨u0,u1,u2,u3,u4,u5,u6⟩:=Boxed.cells m.o;have R:=ch r (ch u2 u5)))
 all_goals
  exact QaS
def aay(c:Cm)(hf:c.Fit)(ok:dv Y)(hlog:Y.D.log.length<=900000)(hok:AG Y (eH 1)):iF B 79 Y c fun _ _ Y'=>tI Y (eH 1) Y':=by
 intro w A h;let⟨g,v⟩:=aH (w.alloc (bH (jB c) 38));have b:Bw w g:=by rw[<-v];exact aI
 have H:Hid (Boxed g w c):=aa Qbd;let⟨C,f,l,j,Z,a⟩:=Jh6 h (h.keep b) ok v hf.qt hok;have i:=aa (fun W K A (h:cQ W B A Y.D) (k:dS W K A) (hB:B<=W)=>Xl h ok.ez k hB c.mb c.qt Z.o hlog);let⟨P,z,t,V,G,I,L⟩:=H.o.cells;have s:g.cell? (be A.gy 8)=some (ptr A.D.gd):=f.o.blk.c 8;have N:=ch s (ch t I);clear h ok hlog v hf hok;go_enter func79,ntmps79;go_wp2_with fail;rw[show w.alloc (bH #[c.kd,c.id,c.mb,c.ot,c.sc,c.qt,c.pr] 38)=g from j.o];go_region_held3(fun W=>W.cell? (be A.gy 8)=some (ptr A.D.gd)/\W.cell? (be w 2)=c.mb/\W.cell? (be w 5)=c.qt) (first|exact N|exact R|assumption|go_keep)
  (first|(go_at_call 116;refine(i.o g.drew _ _ (f.o.dg.d) f.o.d.pb f.o.lt).bC ?_;rintro e F⟨x,y,U,n,rfl,J,E⟩;have u:=aa ((dr.same C.o b).bu ((f.o.d.pd J).before (bM _ _).drew));have q:=aa (a.o n E);have p:Hid (tI Y (eH 1) {Y with D:=n}):=aa ⟨n,E,rfl⟩;have m:=aa ((bI.d H.o).cu J.mod ah);have r:F.cell? (be A.gy 8)=some (ptr A.D.gd):=Qbo;obtain⟨u0,u1,u2,u3,u4,u5,u6⟩:=Boxed.cells m.o;have R:=ch r (ch u2 u5)))
 all_goals
  exact QaS
def aaz(c:Cm)(hf:c.Fit)(ok:dv Y)(hlog:Y.D.log.length<=900000)(hok:AG Y (AH c.mb c.sc c.qt)):iF B 76 Y c fun _ _ Y'=>tI Y (AH c.mb c.sc c.qt) Y':=by
 intro w A h;let⟨g,v⟩:=aH (w.alloc (bH (jB c) 38));have b:Bw w g:=by rw[<-v];exact aI
 have H:Hid (Boxed g w c):=aa Qbd;let⟨C,f,l,j,Z,a⟩:=Jh6 h (h.keep b) ok v hf.qt hok;have i:=aa (fun W K A (h:cQ W B A Y.D) (k:dS W K A) (hB:B<=W)=>aaw h ok.ez k hB c.mb c.sc c.qt Z.o af);let⟨P,z,t,V,G,I,L⟩:=H.o.cells;have s:g.cell? (be A.gy 8)=some (ptr A.D.gd):=f.o.blk.c 8;have N:=ch s (ch t (ch G I));clear h ok hlog v hf hok;go_enter func76,ntmps76;go_wp2_with fail;rw[show w.alloc (bH #[c.kd,c.id,c.mb,c.ot,c.sc,c.qt,c.pr] 38)=g from j.o];go_region_held3(fun W=>W.cell? (be A.gy 8)=some (ptr A.D.gd)/\W.cell? (be w 2)=c.mb/\W.cell? (be w 4)=c.sc/\W.cell? (be w 5)=c.qt) (first|exact N|exact R|assumption|go_keep)
  (first|(go_at_call 113;refine(i.o g.drew _ _ (f.o.dg.d) f.o.d.pb f.o.lt).bC ?_;rintro e F⟨x,y,U,n,rfl,J,E⟩;have u:=aa ((dr.same C.o b).bu ((f.o.d.pd J).before (bM _ _).drew));have q:=aa (a.o n ⟨x,y,E⟩);have p:Hid (tI Y (AH c.mb c.sc c.qt) {Y with D:=n}):=aa ⟨n,⟨x,y,E⟩,rfl⟩;have m:=aa ((bI.d H.o).cu J.mod ah);have r:F.cell? (be A.gy 8)=some (ptr A.D.gd):=Qbo;obtain⟨u0,u1,u2,u3,u4,u5,u6⟩:=Boxed.cells m.o;have R:=ch r (ch u2 (ch u4 u5))))
 all_goals
  exact QaS
def aaA(c:Cm)(hf:c.Fit)(ok:dv Y)(hn:Y.D.cv.length<=1000)(hlog:Y.D.log.length<=900000)(hok:AG Y (oe)):iF B 77 Y c fun _ _ Y'=>tI Y (oe) Y':=by
 intro w A h;let⟨g,v⟩:=aH (w.alloc (bH (jB c) 38));have b:Bw w g:=by rw[<-v];exact aI
 have H:Hid (Boxed g w c):=aa Qbd;let⟨C,f,l,j,Z,a⟩:=Jh6 h (h.keep b) ok v hf.qt hok;have i:=aa (fun W K A (h:cQ W B A Y.D) (k:dS W K A) (hB:B<=W)=>aat h ok.ez k hB hn hlog ⟨0,c.mb,c.sc,c.qt,c.pr⟩);let⟨P,z,t,V,G,I,F⟩:=H.o.cells;have s:g.cell? (be A.gy 8)=some (ptr A.D.gd):=f.o.blk.c 8;have N:=ch s (ch t (ch G (ch I F)));clear h ok hlog v hf hok;go_enter func77,ntmps77;go_wp2_with fail;rw[show w.alloc (bH #[c.kd,c.id,c.mb,c.ot,c.sc,c.qt,c.pr] 38)=g from j.o];go_region_held3(fun W=>W.cell? (be A.gy 8)=some (ptr A.D.gd)/\W.cell? (be w 2)=c.mb/\W.cell? (be w 4)=c.sc/\W.cell? (be w 5)=c.qt/\W.cell? (be w 6)=c.pr) (first|exact N|exact R|assumption|go_keep)
  (first|(go_at_call 114;refine(i.o g.drew _ _ (f.o.dg.d) f.o.d.pb f.o.lt).bC ?_;rintro e L⟨x,y,U,n,rfl,J,E⟩;have u:=aa ((dr.same C.o b).bu ((f.o.d.pd J).before (bM _ _).drew));have q:=aa (a.o n E);have p:Hid (tI Y (oe) {Y with D:=n}):=aa ⟨n,E,rfl⟩;have m:=aa ((bI.d H.o).cu J.mod ah);have r:L.cell? (be A.gy 8)=some (ptr A.D.gd):=Qbo;obtain⟨u0,u1,u2,u3,u4,u5,u6⟩:=Boxed.cells m.o;have R:=ch r (ch u2 (ch u4 (ch u5 u6)))))
 all_goals
  exact QaS
end
def lg(C:bZ)(i j:Nat)(c:Int)(n:Nat)(Y Y':YS):Prop:=(∃N,fw C i j N c (n+1) Y')/\Y'.clock=Y.clock/\(∀m∈Y.D.who,m∈Y'.D.who)/\∃ev,Y'.heard=Y.heard++ev/\eM ev
def fw.eD(h:fw C i j N c n Y):fw C i j N c (n+1) Y:=⟨h.dw,h.ok,h.dg,h.acc,h.cv,bW h.kG af,bW h.own af⟩
def lg.same(h:fw C i j N c n Y):lg C i j c n Y Y:=⟨⟨N,h.eD⟩,rfl,fun m hm=>hm,[],by rw[ix],nofun⟩
structure jp(D D':DS):Prop where
 lQ:iu D'
 C:D'.C=D.C
 dt:D'.dt=D.dt
 cv:D.cv.length<=32->D'.cv.length<=32
 who:∀m∈D.who,m∈D'.who
 log:∃ev,D'.log=D.log++ev/\ev.length<=2/\eM ev
variable{D:DS}
def jp.refl(I:iu D):jp D D:=⟨I,rfl,rfl,id,fun m hm=>hm,[],au,au,nofun⟩
def jp.ok(hv:dz C)(hn:n<=1000)(h:fw C i j N c n Y)(p:jp Y.D D'):dv {Y with D:=D'}/\Y.log.length+D'.log.length<=999000/\lg C i j c n Y {Y with D:=D'}:=by
 let⟨I,a⟩:=h.ld hv hn;let⟨l,d,b,x⟩:=p.log;have S:D'.log.length=Y.D.log.length+l.length:=by rw[d,cO]
 have t:=h.ok.told;have E:=yE h.ok p.lQ p.C p.dt (show Y.told<=D'.log from af);refine⟨E,af,⟨N,⟨⟨h.dw.ct,h.dw.ce,h.dw.ij,h.dw.cycle,h.dw.qf,h.dw.qg,h.dw.qh,h.dw.qi,h.dw.nG,h.dw.nd,h.dw.nl,h.dw.no,h.dw.dh⟩,E,p.lQ,h.acc,p.cv h.cv, ?_,h.eD.own⟩⟩,rfl,p.who,l,EY t d,x⟩;have:=h.kG
 show D'.log.length<=2*(n+1)+30000*i+dB j Y.phase;omega
def wS(I:iu D)(h:eH 1 D D'):jp D D':=by let⟨a,s,l,o⟩:=h.same;exact⟨I.same s,s.C,s.dt,fun hb=>by rw[s.cv];exact hb,fun m hm=>by rw[s.who];exact hm,a,s.log,af,o⟩
def E5(I:iu D)(h:oe D D'):jp D D':=by obtain⟨l,b,rfl,a,c,x⟩:=h;have R:=I.ok.ct.cv;refine⟨⟨⟨I.ok.ct,I.ok.bal,I.ok.b64,I.ok.holds,I.ok.rise,I.ok.bQ,I.ok.fC,I.ok.who⟩,I.o,I.k,I.w,I.d⟩,rfl,rfl,fun hb=> ?_,fun m hm=>hm,b,rfl,af,x⟩;show l.length<=32;rcases a with a|a<;>omega
variable{l:bF Ob}
def aaB(hd:∀x∈l,bO x.done)(m a n:Int):∀x∈(im l m a n).2,bO x.done:=by unfold im;exact Qbs
def aaC(hd:∀x∈l,bO x.done)(m a n:Int):∀x∈(jk l m a n).2,bO x.done:=by unfold jk;exact Qbs
variable{a:Int}
def E6(I:iu D){n:Int}(h:AH m a n D D'):jp D D':=by
 obtain⟨x,y,h⟩:=h;split at h
 ·obtain⟨_,_,rfl⟩:=h;exact jp.refl I
 unfold rH at h;let⟨q,u,_⟩:=I.o.take I.k m a n;have r:=Lp I.ok m a n;have b:=aaC I.d m a n;split at h
 ·obtain⟨_,_,rfl⟩:=h;exact jp.refl I
 split at h
 ·exact QbY
 ·obtain⟨_,rfl⟩:=h;exact⟨⟨(r.move _ _ _ _).tell _,q,u,I.w,b⟩,rfl,rfl,id,fun m hm=>hm,_,rfl,au,pg (bS (show(6:Int)<13 by decide))⟩
variable{x:Int}
def aaD(I:iu D){n y:Int}{fr to:Ac}(h:mB D m a n fr to 5 x y D'):jp D D':=by
 unfold mB at h;let⟨q,u,_⟩:=I.o.pay I.k m a n;have r:=Aa I.ok m a n;have b:=aaB I.d m a n;split at h
 ·obtain⟨_,_,rfl⟩:=h;exact jp.refl I
 split at h
 ·exact QbY
 ·obtain⟨_,rfl⟩:=h;exact⟨⟨(r.move _ _ _ _).tell _,q,u,I.w,b⟩,rfl,rfl,id,fun m hm=>hm,_,rfl,au,pg (bS (show(5:Int)<13 by decide))⟩
section
variable {B:Nat} {C:bZ} {i j:Nat} {N:List Tm} {c:Int} {n:Nat} {Y:YS}
def aaE(m:Cm)(hf:m.Fit)(hv:dz C)(hn:n<=1000)(h:fw C i j N c n Y):iF B 78 Y m fun _ _ Y'=>lg C i j c n Y Y':=(aax m hf h.ok QbG fun D' hD=>⟨(jp.ok hv hn h (wS h.dg hD)).1,(jp.ok hv hn h (wS h.dg hD)).2.1⟩).bC fun _ _ _ ⟨_,hD,e⟩=>by rw[e];exact(jp.ok hv hn h (wS h.dg hD)).2.2
def aaF(m:Cm)(hf:m.Fit)(hv:dz C)(hn:n<=1000)(h:fw C i j N c n Y):iF B 79 Y m fun _ _ Y'=>lg C i j c n Y Y':=(aay m hf h.ok QbG fun D' hD=>⟨(jp.ok hv hn h (wS h.dg hD)).1,(jp.ok hv hn h (wS h.dg hD)).2.1⟩).bC fun _ _ _ ⟨_,hD,e⟩=>by rw[e];exact(jp.ok hv hn h (wS h.dg hD)).2.2
def aaG(m:Cm)(hf:m.Fit)(hv:dz C)(hn:n<=1000)(h:fw C i j N c n Y):iF B 76 Y m fun _ _ Y'=>lg C i j c n Y Y':=(aaz m hf h.ok QbG fun D' hD=>⟨(jp.ok hv hn h (E6 h.dg hD)).1,(jp.ok hv hn h (E6 h.dg hD)).2.1⟩).bC fun _ _ _ ⟨_,hD,e⟩=>by rw[e];exact(jp.ok hv hn h (E6 h.dg hD)).2.2
def aaH(m:Cm)(hf:m.Fit)(hv:dz C)(hn:n<=1000)(h:fw C i j N c n Y):iF B 77 Y m fun _ _ Y'=>lg C i j c n Y Y':=(aaA m hf h.ok (by have:=h.cv;omega) QbG fun D' hD=>⟨(jp.ok hv hn h (E5 h.dg hD)).1,(jp.ok hv hn h (E5 h.dg hD)).2.1⟩).bC fun _ _ _ ⟨_,hD,e⟩=>by rw[e];exact(jp.ok hv hn h (E5 h.dg hD)).2.2
end
section
variable {B:Nat} {C:bZ} {i j:Nat} {N:List Tm} {c:Int} {n:Nat} {Y:YS}
def aaI{j m m':Nat}(h:m'<=m):oB j m<=oB j m':=by unfold oB;(repeat' split)<;>omega
def fw.aaJ(hv:dz C)(h:fw C i j N c n Y)(m:Int):fw C i j (N.filter fun x=> !kq 2 m x) c n (Y.pY 2 m):=by
 have T:(Y.pY 2 m).ce=gq C i j++N.filter fun x=> !kq 2 m x:=by
  show Y.ce.filter _=_;rw[h.dw.ce,yQ];congr 1;refine List.filter_eq_self.2 fun t a=> ?_;have:=((Az hv i j).2 t a).2
  unfold kq;simp[this]
 refine⟨⟨h.dw.ct,T,h.dw.ij,h.dw.cycle,h.dw.qf,h.dw.qg,h.dw.qh,h.dw.qi,fun t a=>h.dw.nG t (tU.1 a).1,h.dw.nd.sublist List.filter_sublist,bW (mO _ _) h.dw.nl,fun hj=>by rw[h.dw.no hj];rfl,fun t a=> ?_⟩,h.ok.pY 2 m,h.dg,h.acc,h.cv,h.kG, ?_⟩
 ·have a:t∈Y.ce.filter (fun x=> !kq 2 m x):=a;exact h.dw.dh t (tU.1 a).1
 ·have d:=aaI (j:=j) (mO (fun x=> !kq 2 m x) N);exact bW h.own (by show Y.told+_<=Y.told+_;omega)
def Ls{k er:Int}{Y':YS}(hv:dz C)(hn:n<=1000)(h:fw C i j N c n Y)(hp:rE Y m a x k er Y'):lg C i j c n Y Y':=by
 unfold rE at hp;split at hp
 ·obtain⟨_,_,rfl⟩:=hp;exact lg.same h
 ·obtain⟨K,D,H⟩:=hp;let⟨⟨S,g⟩,b,f,l,d,s⟩:=(jp.ok hv hn h (aaD h.dg D)).2.2;split at H
  ·subst H;exact⟨⟨_,g.aaJ hv m⟩,b,f,l,d,s⟩
  ·subst H;exact⟨⟨S,g⟩,b,f,l,d,s⟩
def aaK(m:Cm)(hf:m.Fit)(hv:dz C)(hn:n<=1000)(h:fw C i j N c n Y):iF B 74 Y m fun _ _ Y'=>lg C i j c n Y Y':=(EK m hf h.ok QbU).bC fun _ _ _ hp=>Ls hv hn h hp
def aaL(m:Cm)(hf:m.Fit)(hv:dz C)(hn:n<=1000)(h:fw C i j N c n Y):iF B 75 Y m fun _ _ Y'=>lg C i j c n Y Y':=
 (KU m hf h.ok QbU).bC fun _ _ _ hp=>by
  unfold uM at hp;split at hp
  ·split at hp
   ·obtain⟨_,_,rfl⟩:=hp;exact lg.same h
   ·exact Ls hv hn h hp
  ·obtain⟨_,_,rfl⟩:=hp;exact lg.same h
variable{T':bF Tr}
def Lt{f:Tr->Int}(h:T'.Sublist T)(h0:∀t∈T,0<=f t):(T'.map f).sum<=(T.map f).sum:=by
 induction h with
 |slnil=>exact kh _
 |cons a h ih=>
  have d:=ih fun t ht=>h0 t (jS _ ht);have c:=h0 a (iG ..);rw[eu,ii];omega
 |cons_cons a h ih=>
  have d:=ih fun t ht=>h0 t (jS _ ht);rw[eu,ii,eu,ii];omega
def aaM(h:kW C T)(s:T'.Sublist T):kW C T':=by
 refine⟨fun t ht=>h.good t (s.subset ht),fun t ht=>h.who t (s.subset ht),bW s.length_le h.n,Int.le_trans (Lt s fun t ht=>(h.good t ht).v0.1) h.mA,fun a=>Int.le_trans (Lt s fun t ht=> ?_) (h.qS a)⟩;split
 ·exact(h.good t ht).q0.1
 ·exact kh 0
def aaN{D D':GS}(h:lJ D)(hq:yF D D'):lJ D'/\D'.C=D.C/\D'.list.Sublist D.list:=by
 rcases hq with rfl|⟨l,hl,rfl⟩
 ·exact⟨h,rfl,List.Sublist.refl _⟩
 ·have d:=hl.length_le;have c:=h.tl;exact⟨⟨⟨h.ok.ct,bW d h.ok.tn,h.ok.un,h.ok.tr.sublist hl,h.ok.ur⟩,fun x hx=>h.sub x (hl.subset hx),by show(l:Int)<=D.dW;omega,h.al,h.ul,fun x hx=>h.id x (hl.subset hx),fun x hx=>h.good x (hl.subset hx)⟩,rfl,hl.filterMap _⟩
def aaO(m:Cm)(hv:dz C)(hn:n<=1000)(h:fw C i j N c n Y):iF B 73 Y m fun _ _ Y'=>lg C i j c n Y Y':=by
 have f:∀G',yF Y.G G'->dv {Y with G:=G'}/\fw C i j N c n {Y with G:=G'}:=fun G' hG=>by
  let⟨b,s,g⟩:=aaN h.ok.gH hG;have a:dv {Y with G:=G'}:=⟨h.ok.dc,s.bu h.ok.gc,h.ok.ez,b,h.ok.told,h.ok.ce,h.ok.bU,h.ok.clock,h.ok.cn,h.ok.jD⟩;exact⟨a,⟨⟨h.dw.ct,h.dw.ce,h.dw.ij,h.dw.cycle,h.dw.qf,h.dw.qg,h.dw.qh,h.dw.qi,h.dw.nG,h.dw.nd,h.dw.nl,h.dw.no,h.dw.dh⟩,a,h.dg,aaM h.acc g,h.cv,h.kG,h.own⟩⟩
 refine(aai m h.ok QbU fun G' hG=>(f G' hG).1).bC fun _ _ Y' ⟨G',hG,hY⟩=> ?_;have d:=(f G' hG).2;rcases hY with rfl|⟨x,hx,rfl⟩
 ·exact⟨⟨N,d.eD⟩,rfl,fun m hm=>hm,[],by rw[ix];rfl,nofun⟩
 ·refine⟨⟨N,d.dw.tell x,d.ok.tell x,d.dg,d.acc,d.cv,bW d.kG QbZ, ?_⟩,rfl,fun m hm=>hm,[x],AB _ _,pg hx⟩;exact bW (AC d.ok.told d.own x) (Nat.add_le_add_left af _)
end
def GS.bare(D:GS):GS:={D with used:=D.cj.map fun x=>⟨x.bR,0⟩,dW:=D.cj.length}
def Lu{α:Type}(bR:α->Int)(l:bF α)(i:Int):dJ bR l i=true↔i∈l.map bR:=by unfold dJ;simp
def aaP{D:GS}(h:lJ D)(ha:kW D.C D.list):nX D.bare (D.cj.map iK):=by
 let⟨S,t,d,b,P⟩:=Jt5 (uG D) h.tl h.al h.ok.ct.cj h.ok.ct.c1;refine⟨⟨⟨h.ok.ct,h.ok.tn, ?_,h.ok.tr, ?_⟩,fun x j=> ?_,kh _, ?_, ?_,h.id,h.good⟩,List.Perm.refl _,fun i=> ?_,by simp[GS.bare],by simp[GS.bare],by rw[<-S];exact ha.mA,fun a=>by rw[<-S];exact ha.qS a⟩
 ·have:=h.ok.tn
  simp[GS.bare];omega
 ·show fK RU.bR (D.cj.map fun x=>⟨x.bR,0⟩);have:=h.ok.tr
  unfold fK at this⊢;rw[yR];exact this
 ·rw[Lu];have j:x∈D.cj:=j;simp[GS.bare];exact⟨x,j,rfl⟩
 ·show(D.cj:Int)<=D.C.cj
  omega
 ·show((D.cj.map fun x=>(⟨x.bR,0⟩:RU)).length:Int)<=D.C.cj*(D.C.bU:Int)
  rw[cR];have c:D.C.cj*1<=D.C.cj*(D.C.bU:Int):=FF af af;omega
 ·rw[Lu];simp only[GS.bare,lD];have e:(D.cj.map (RU.bR∘fun x=>⟨x.bR,0⟩))=D.cj.map ((·.id)∘iK):=List.map_congr_left fun x j=>h.id x j;rw[e]
def aaQ{D:GS}(h:lJ D)(ha:kW D.C D.list){t:Tr}(hg:ny t)(hw:fR D.C t.dD/\fR D.C t.dE/\fX D.C t.cP)(hr:D.room t=0)(hn:(D.put t).list.length<=64):kW D.C (D.put t).list:=by
 have d:=(Jy (aaP h ha) hg).1 hr;have s:(D.put t).list.Perm (t::D.list):=by
  rw[uG,uG];exact(Ju D.cj (dQ RT.bR D.cj t.id) (rz t)).map iK
 rw[<-uG]at d;have o:iD (D.put t).list=(eA t).1+iD D.list:=sY (s.map fun t=>(eA t).1);have r:∀a,jA (D.put t).list a=(if t.cP=a then t.cK else 0)+jA D.list a:=fun a=>sY (s.map fun(t:Tr)=>if t.cP=a then t.cK else 0);refine⟨fun x hx=> ?_,fun x hx=> ?_,hn,by rw[o];omega,fun a=> ?_⟩
 ·rcases je.1 (s.mem_iff.1 hx)with rfl|hx
  ·exact hg
  ·exact ha.good x hx
 ·rcases je.1 (s.mem_iff.1 hx)with rfl|hx
  ·exact hw
  ·exact ha.who x hx
 ·rw[r];have:=ha.qS a
  split
  ·rename_i e;subst e;omega
  ·omega
def aaR{D:GS}(h:lJ D)(ha:kW D.C D.list){t:Tr}(hf:kQ t):lJ (D.add t).2/\(D.add t).2.C=D.C/\kW D.C (D.add t).2.list:=by
 unfold GS.add;split
 ·exact⟨h,rfl,ha⟩
 rename_i d;split
 ·exact⟨h,rfl,ha⟩
 rename_i c;split
 ·exact⟨h,rfl,ha⟩
 rename_i x;split
 ·exact⟨h,rfl,ha⟩
 ·rename_i M;have d:lr D.C t=0:=aG d;have c:dJ RU.bR D.used t.id=false:=aG c;have a:=h.ul;have s:=Eb h hf d c af af;have b:=Ad hf d;refine⟨s,rfl,aaQ h ha b.1 ⟨b.2.1,b.2.2.1,b.2.2.2.1⟩ (aG M) ?_⟩;rw[uG,cR];exact s.ok.tn
section
variable {B:Nat} {C:bZ} {i j:Nat} {N:List Tm} {c:Int} {n:Nat} {Y:YS}
def aaS(m:Cm)(hf:m.Fit)(hk:m.kd=2)(hv:dz C)(hn:n<=1000)(h:fw C i j N c n Y):iF B 72 Y m fun _ _ Y'=>lg C i j c n Y Y':=by
 refine(KP m hf hk h.ok QbU).bC fun k er Y' hY=> ?_;have a:Y.G.C=C:=h.ok.gc.bu h.dw.ct;have ha:kW Y.G.C Y.G.list:=by rw[a];exact h.acc
 let⟨b,s,g⟩:=aaR h.ok.gH ha (t:=m.g8) hf.KO;have f:dv {Y with G:=(Y.G.add m.g8).2}:=⟨h.ok.dc,s.bu h.ok.gc,h.ok.ez,b,h.ok.told,h.ok.ce,h.ok.bU,h.ok.clock,h.ok.cn,h.ok.jD⟩;have d:fw C i j N c n {Y with G:=(Y.G.add m.g8).2}:=⟨⟨h.dw.ct,h.dw.ce,h.dw.ij,h.dw.cycle,h.dw.qf,h.dw.qg,h.dw.qh,h.dw.qi,h.dw.nG,h.dw.nd,h.dw.nl,h.dw.no,h.dw.dh⟩,f,h.dg,by rw[<-a];exact g,h.cv,h.kG,h.own⟩;unfold YS.g8 at hY;split at hY
 ·cases hY;exact lg.same h
 split at hY
 ·cases hY;exact lg.same h
 split at hY
 ·cases hY
  exact⟨⟨N,d.eD⟩,rfl,fun m hm=>hm,[],by rw[ix];rfl,nofun⟩
 ·cases hY
  refine⟨⟨N,d.dw.tell _,d.ok.tell _,d.dg,d.acc,d.cv,bW d.kG QbZ, ?_⟩,rfl,fun m hm=>hm,_,AB _ _,pg (bS (show(2:Int)<13 by decide))⟩;exact bW (AC d.ok.told d.own _) (Nat.add_le_add_left af _)
end
def mF(C:bZ)(n:Nat)(Y:YS):Prop:=∃i j N,fw C i j N (Y.clock+1) n Y/\Y.clock<=(n:Int)
def tJ(C:bZ)(Y Y':YS):Prop:=(∀m∈Y.D.who,m∈Y'.D.who)/\∃ev,Y'.heard=Y.heard++ev/\(eM ev∨od C ev)
def Lv(Y:YS):Y.hear.heard=Y.heard:=by
 show(Y.log++Y.D.log.drop Y.told)++Y.D.log.drop Y.D.log.length=_
 rw[List.drop_length,ix];rfl
def rI(Y:YS):Prop:=Y.heard=Y.log
def Lw(Y:YS):rI Y.hear:=Lv Y
variable{C:bZ}{i j n:Nat}{N:bF Tm}{c:Int}{Y:YS}
def fw.hear(h:fw C i j N c n Y):fw C i j N c n Y.hear:=⟨h.dw.hear,h.ok.hear,h.dg,h.acc,h.cv,h.kG,by
 have h1:=h.own;have h2:=h.ok.told;show(Y.log++Y.D.log.drop Y.told).length<=Y.D.log.length+_
 rw[cO,fc];omega⟩
def mF.hear{Y1:YS}(h:mF C n Y1)(ht:tJ C Y Y1):mF C n Y1.hear/\tJ C Y Y1.hear:=by obtain⟨i,j,N,d,P⟩:=h;obtain⟨O,l,a,c⟩:=ht;exact⟨⟨i,j,N,d.hear,P⟩,O,l,by rw[Lv];exact a,c⟩
def mF.eD(h:mF C n Y):mF C (n+1) Y:=by obtain⟨i,j,N,d,P⟩:=h;exact⟨i,j,N,d.eD,af⟩
def aaT(Y:YS):tJ C Y Y:=⟨fun m hm=>hm,[],by rw[ix],bS nofun⟩
def lg.tK{Y':YS}(hc:Y.clock<=(n:Int))(h:lg C i j (Y.clock+1) n Y Y'):mF C (n+1) Y'/\tJ C Y Y':=by obtain⟨⟨N,d⟩,b,k,l,a,s⟩:=h;exact⟨⟨i,j,N,by rw[b];exact d,by rw[b];omega⟩,k,l,a,bS s⟩
def fw.phase(h:fw C i j N c n Y):Y.phase≠0:=by
 have s:=h.dw;have J:j=0∨j=1∨j=2∨j=3:=by rcases s.ij with h1|h1<;>omega
 rcases J with rfl|rfl|rfl|rfl
 ·rw[s.qf rfl];split<;>decide
 ·rw[s.qg rfl];decide
 ·rcases s.qh rfl with e|e<;>rw[e]<;>decide
 ·rw[s.qi rfl];decide
variable{B:Nat}
def Lx(hv:dz C)(hn:n<=1000)(h:mF C n Y)(c:Cm)(hf:c.Fit):jb B Y c fun _ _ Y'=>mF C (n+1) Y'/\tJ C Y Y'/\(rI Y->rI Y'):=by
 have a:mF C (n+1) Y/\tJ C Y Y/\(rI Y->rI Y):=⟨h.eD,aaT Y,id⟩;by_cases V:c.kX=0
 rotate_left
 ·exact fun W A hA=>(KC hA c V).bC fun e w' ⟨h1,h2⟩=>⟨_,_,A,Y,h1,h2,a⟩
 cases hm:qn Y.phase c.kd with
 |false=>exact fun W A hA=>(KD hA c V hm).bC fun e w' ⟨h1,h2⟩=>⟨_,_,A,Y,h1,h2,a⟩
 |true=>
  obtain⟨i,j,N,d,P⟩:=h;have b:∀(f:Nat),c.kd+70=f->(∀args w,(callFunc f args).run prog w=.ok (.enter f args) w)->iF B f Y c (fun _ _ Y'=>mF C (n+1) Y'/\tJ C Y Y')->jb B Y c fun _ _ Y'=>mF C (n+1) Y'/\tJ C Y Y'/\(rI Y->rI Y'):=fun f g eg hh W A hA=>
   (qM c V hm f g eg _ hh W A hA).bC fun e w' ⟨er,k,A',Y',h1,h2,Y1,_,⟨q1,q2⟩,_,h3,_⟩=>⟨er,k,A',Y',h1,h2,by rw[h3];exact⟨(q1.hear q2).1,(q1.hear q2).2,fun _=>Lw _⟩⟩
  let⟨k,l,D,g⟩:=Cm.cq V;rcases(show k=1∨k=2∨k=3∨k=4∨k=5∨k=6∨k=7∨k=8∨k=9∨k=10 from af)with rfl|rfl|rfl|rfl|rfl|rfl|rfl|rfl|rfl|rfl
  ·exfalso;have:=d.phase
   rw[g]at hm;simp[qn]at hm;exact this hm
  ·exact b 72 Qbr (fun _ _=>rfl) ((aaS c hf g hv hn d).bC fun _ _ _ q=>q.tK P)
  ·exact b 73 Qbr (fun _ _=>rfl) ((aaO c hv hn d).bC fun _ _ _ q=>q.tK P)
  ·exact b 74 Qbr (fun _ _=>rfl) ((aaK c hf hv hn d).bC fun _ _ _ q=>q.tK P)
  ·exact b 75 Qbr (fun _ _=>rfl) ((aaL c hf hv hn d).bC fun _ _ _ q=>q.tK P)
  ·exact b 76 Qbr (fun _ _=>rfl) ((aaG c hf hv hn d).bC fun _ _ _ q=>q.tK P)
  ·exact b 77 Qbr (fun _ _=>rfl) ((aaH c hf hv hn d).bC fun _ _ _ q=>q.tK P)
  ·exact b 78 Qbr (fun _ _=>rfl) ((aaE c hf hv hn d).bC fun _ _ _ q=>q.tK P)
  ·exact b 79 Qbr (fun _ _=>rfl) ((aaF c hf hv hn d).bC fun _ _ _ q=>q.tK P)
  ·exact b 80 Qbr (fun _ _=>rfl) ((aae c hv d hn af).bC fun _ _ Y' ⟨_,_,c1,⟨i1,j1,N1,d1⟩,t0,t1⟩=>⟨⟨i1,j1,N1,d1.eD,af⟩,t0,t1⟩)
def Ly(C:bZ)(a:Ac)(s:Int):(D0 C).eQ a s=0:=by
 unfold DS.eQ DS.uF jU;split
 ·show(List.replicate _ 0).getD _ 0=0
  rw[dy,List.getElem?_replicate];split<;>rfl
 ·rfl
def aaU(hv:dz C):jb B (Y0 C) yC fun _ _ Y=>j8 C [] 0 2 Y:=by
 have u:=KN (B:=B) (Y:=Y0 C) yC (yB hv) rfl (fun k f=>by
  have e:(Y0 C).D.eQ ⟨8,(k:Int)+1⟩ 0=0:=Ly C _ _;rw[e];have f:k<C.mem:=f;have d:=(hv.mem _ (cZ f)).1;have c:nz (Y0 C).C k=C.mem[k]:=by
   show C.mem.getD k ⟨0,0⟩=_;rw[dy,dG f];rfl
  rw[c];omega) rfl (EQ hv) Qcb
 intro W A h;refine(qM yC ah (by show qn 0 1=true;decide) 71 rfl (fun _ _=>rfl) _ u W A h).bC ?_;rintro e y⟨m,n,q,j,V,L,l,o,⟨_,_,rfl⟩,g,rfl,_⟩;refine⟨m,n,q,_,V,L, ?_⟩;have b:=(yB hv).gH;refine j8.hear (Y:=(Y0 C).open) ⟨g,rfl,rfl,⟨b,List.Perm.refl _,fun i=> ?_,rfl,rfl,by show(0:Int)<=_;decide,fun a=>by show(0:Int)<=_;decide⟩, ?_,rfl,rfl,rfl, ?_⟩
 ·show dJ RU.bR [] i=true↔i∈([]:bF Int);simp[dJ]
 ·exact Qdq
 ·exact Qcl
instance(C:bZ)(L:List Tr)(t:Tr):Decidable (yq C L t):=by unfold yq;infer_instance
def yI(C:bZ)(T:List Tr)(t:Tr):List Tr:=if yq C T t then T++[t]else T
def aaV(t:Tr):(rG t).kX=0:=by unfold Cm.kX;rw[yc];have P:Nat.testBit 63 0=true:=ah;have z:Nat.testBit 63 1=true:=ah;have a:Nat.testBit 63 2=true:=ah;have V:Nat.testBit 63 3=true:=ah;have G:Nat.testBit 63 4=true:=ah;have I:Nat.testBit 63 5=true:=ah;unfold Cm.right rG;simp[lK,rA,uH,P,z,a,V,G,I]
structure Lz(t:Tr):Prop where
 id:bO t.id
 dD:bO t.dD
 dE:bO t.dE
 cP:bO t.cP
 cK:bO t.cK
 cF:bO t.cF
def aaW(h:j8 C T 0 k Y)(hk:k<=1000)(t:Tr)(ht:Lz t):jb B Y (rG t) fun _ _ Y'=>j8 C (yI C T t) 0 (k+1) Y':=by
 have E:(rG t).Fit:=⟨by show bO 2;decide,ht.id,ht.dD,ht.dE,ht.cP,ht.cK,ht.cF⟩;have U:=h.log;have j:Y.D.log=[]:=by rw[h.dg];rfl
 have u:=KP (B:=B) (Y:=Y) (rG t) E rfl h.ok (by rw[j];simp only[jE];omega);intro W A i;refine(qM (rG t) (aaV t) (by rw[h.phase];show qn 1 2=true;decide) 72 rfl (fun _ _=>rfl) _ u W A i).bC ?_;rintro e y⟨m,n,q,Y',V,L,a,o,F,r,rfl,_⟩;refine⟨m,n,q,_,V,L, ?_⟩;have c:Y.G.C=C:=by rw[<-h.ct];exact h.ok.gc
 have x:kQ t:=⟨ht.cK,ht.cF⟩;let⟨s,P,v,M⟩:=VK h.rel x;rw[c]at s;have d:Y.wN t=false:=by
  unfold YS.wN;rw[h.dg];rfl
 have g:(rG t).g8=t:=rfl;rw[g]at F;unfold YS.g8 at F;by_cases b:lr Y.C t≠0
 ·rw[yc b]at F;obtain⟨_,_,rfl⟩:o=0/\m=lr Y.C t/\a=Y:=aG F;have:¬yq C T t:=fun hr=>b (by rw[h.ct];exact hr.1)
  unfold yI;rw[ya this];exact j8.hear ⟨h.ok,h.ct,h.dg,h.rel,h.ce,h.phase,h.clock,h.cycle,af⟩
 rw[ya b,ya (by rw[d];simp)]at F;by_cases f:(Y.G.add t).1≠0
 ·rw[yc f,v f]at F;obtain⟨_,_,rfl⟩:o=0/\m=(Y.G.add t).1/\a=Y:=aG F;unfold yI;rw[ya (fun hr=>f (s.2 hr))];exact j8.hear ⟨h.ok,h.ct,h.dg,h.rel,h.ce,h.phase,h.clock,h.cycle,af⟩
 ·rw[ya f]at F;have l:(Y.G.add t).1=0:=aG f;have Q:a=({Y with G:=(Y.G.add t).2}:YS).tell ⟨2,0,0,t.id,0⟩:=by
   have:=ym (fun p=>p.2.2) F
   exact this
  subst Q;unfold yI;rw[yc (s.1 l)];refine j8.hear ⟨r,h.ct,h.dg,P l,h.ce,h.phase,h.clock,h.cycle, ?_⟩;show(Y.log++Y.D.log.drop Y.told++[_]).length<=k+1
  rw[j];simp;omega
def aaX(hv:dz C)(h:j8 C [] 0 2 Y):mF C 2 Y:=by
 have c:=hv.c1;have J:Y.D.bQ=[]:=by rw[h.dg];rfl
 have T:Y.D.who=[]:=by rw[h.dg];rfl
 have u:Y.D.cv=[]:=by rw[h.dg];rfl
 have S:Y.D.log=[]:=by rw[h.dg];rfl
 have b:=h.clock;have n:Y.G.C=C:=h.ok.gc.bu h.ct;refine⟨0,0,[],⟨⟨h.ct,by rw[h.ce];simp[gq],bS ⟨af,af⟩,h.cycle,fun _=>by rw[yc af];exact h.phase,fun e=>xl e af,fun e=>xl e af,fun e=>xl e af,nofun,List.nodup_nil,au,fun _=>rfl,fun t ht=> ?_⟩,h.ok,⟨h.ok.ez, ?_, ?_,by rw[T];simp,by rw[J];intro x a;cases a⟩,by rw[<-n];exact Ec h.rel,by rw[u];simp,by rw[S];simp, ?_⟩,by rw[b];decide⟩
 ·rw[h.ce]at ht;have:=((yD _ _ hv.bU).2 t ht).1
  omega
 ·rw[J];exact⟨fun i j hi=>by simp at hi,nofun,nofun,nofun,nofun⟩
 ·rw[J,T];exact⟨nofun,nofun⟩
 ·have:=h.log
  omega
def LA(hv:dz C)(c:Cm):jb B (Y0 C) c fun _ _ Y'=>Y'=Y0 C∨(mF C 2 Y'/\rI Y'/\eM Y'.log):=by
 by_cases V:c.kX=0
 rotate_left
 ·exact fun W A l=>(KC l c V).bC fun e y ⟨d,h⟩=>⟨_,_,A,Y0 C,d,h,bS rfl⟩
 cases hm:qn (Y0 C).phase c.kd with
 |false=>exact fun W A l=>(KD l c V hm).bC fun e y ⟨d,h⟩=>⟨_,_,A,Y0 C,d,h,bS rfl⟩
 |true=>
  let⟨k,r,p,g⟩:=Cm.cq V;have f:k=1:=by
   rw[g,show(Y0 C).phase=0 from rfl]at hm;rcases(show k=1∨k=2∨k=3∨k=4∨k=5∨k=6∨k=7∨k=8∨k=9∨k=10 from af)with rfl|rfl|rfl|rfl|rfl|rfl|rfl|rfl|rfl|rfl
   ·rfl
   all_goals exact xl hm ah
  subst f;have u:=KN (B:=B) (Y:=Y0 C) c (yB hv) rfl (fun k g=>by
   have e:(Y0 C).D.eQ ⟨8,(k:Int)+1⟩ 0=0:=Ly C _ _;rw[e];have g:k<C.mem:=g;have d:=(hv.mem _ (cZ g)).1;have h:nz (Y0 C).C k=C.mem[k]:=by
    show C.mem.getD k ⟨0,0⟩=_;rw[dy,dG g];rfl
   rw[h];omega) rfl (EQ hv) Qcb
  intro W A l;refine(qM c V hm 71 Qbr (fun _ _=>rfl) _ u W A l).bC ?_;rintro e y⟨m,n,q,Y',V,L,t,v,⟨_,_,rfl⟩,s,rfl,_⟩;refine⟨m,n,q,_,V,L,ci ⟨aaX hv ?_,Lw _, ?_⟩⟩;rotate_left
  ·show eM ((([]:bF Ev)++List.drop _ _++[_])++List.drop _ _);intro x j;have o:(Y0 C).open.D.log=[]:=by
    show(Y0 C).D.fT.log=[]
    simp[DS.fT,DS.post,Y0,D0]
   rw[o,List.drop_nil,ix]at j;simp[YS.opened,DS.fT,DS.post,Y0,D0]at j;subst j;exact bS ah
  have b:=(yB hv).gH;refine j8.hear (Y:=(Y0 C).open) ⟨s,rfl,rfl,⟨b,List.Perm.refl _,fun i=> ?_,rfl,rfl,by show(0:Int)<=_;decide,fun a=>by show(0:Int)<=_;decide⟩, ?_,rfl,rfl,rfl, ?_⟩
  ·show dJ RU.bR [] i=true↔i∈([]:bF Int);simp[dJ]
  ·exact Qdq
  ·exact Qcl
section
attribute [local go_sem ↓] wp_at_zero wp_at_succ
variable{A:YA}{w:bD}
def aaY(h:dp w B A Y)(ok:dv Y):bG 23 #[ptr A.gy] w (ki eI 3 1 Y.D.who w):=by have s:w.cell? (be A.gy 8)=some (ptr A.D.gd):=h.blk.c 8;have a:=aa (KG h.dg ok.ez);clear h ok;go_enter func23,ntmps23;go_wp2_with(go_at_call 55;refine a.o.bC ?_;rintro e k⟨v,rfl,J,u⟩;have Q:=aa J;have N:=aa u);go_ret;exact⟨_,rfl,Q.o,N.o⟩
def aaZ(h:dp w B A Y)(hn:Y.log.length<=1000000):bG 10 #[ptr A.gy] w (ki eE 101 5 Y.log w):=by have d:w.cell? (be A.gy 15)=some A.vl:=h.blk.c 15;have D:=aa (FR A.vl Y.log w (Sl.own jg h.log) hn);let⟨T,I,k⟩:=bV h.log;rw[k]at d D;clear h k;go_enter func10,ntmps10;go_wp2_with(go_at_call 39;refine D.o.bC ?_;rintro e i⟨f,rfl,a,b⟩;have Q:=aa a;have N:=aa b;obtain⟨W,K,rfl⟩:=bV a;clear a b);go_ret;exact⟨_,rfl,Q.o,N.o⟩
def LB(v:bE)(l:bF Int)(m:Int)(w:bD)(hv:Sl eI 1 w v l)(hn:l.length<=1000):bG 24 #[v,m] w (bj (.bool (iR l m)) w):=by
 have M:=aa hv;obtain⟨a,U,rfl,_⟩:=hv;have g:Hid (∀k (h:k<l.length),l[k]=m->iR l m=true):=aa fun k h e=>by
  unfold iR;rw[jT];exact⟨l[k],cZ h,by simp[e]⟩
 have Q:Hid ((∀k (h:k<l.length),l[k]≠m)->iR l m=false):=aa fun h=>by
  unfold iR;rw[mP];intro x s;obtain⟨k,t,rfl⟩:=eW s;simpa using fun e=>h k t e.symm
 let⟨b,u⟩:=aH (iR l m);rw[u]at g Q⊢;clear u;go_enter func24,ntmps24;go_wp2;go_loopw[5] (fun vi wr=>∃k:Nat,k<=l.length/\vi=.int .i64 k/\wr=w/\∀j (h:j<l.length),j<k->l[j]≠m) (aW l);exact⟨0,cH _,rfl,rfl,fun j _ h=>xl h af⟩;obtain⟨k,t,rfl,rfl,p⟩:=hrel;have I:=aa p;clear p;by_cases q:k<l.length
 ·obtain⟨F,c,E,B,rfl,y,n⟩:=M.o.hd;have z:=n k q 0 _ rfl;rw[gD,gg]at z;have O:0<=(k:Int):=af;have C:k<(l:Int):=af;have H:=(gJ k af).1;have A:=(gJ k af).2;unfold maxLen at c;have r:=aa (g.o k q);have f:Hid (l[k]≠m->∀j (h:j<l.length),j<k+1->l[j]≠m):=aa fun h0 j h hj=>by
   rcases fA j k with h3|h3
   ·exact I.o j h h3
   ·obtain rfl:j=k:=af;exact h0
  let⟨x,s⟩:=aH (l[k]);rw[s]at z r f;clear n s;by_cases V:x=m
  ·have u:=r.o V;have D:(x==m)=true:=aG V;subst u;clear V;go_wp2;go_ret;exact⟨aE,rfl⟩
  ·have D:(x==m)=false:=aG V;have d:=aa (f.o V);clear V;go_wp2;go_roundw;exact⟨k+1,af,aw,aE,d.o⟩;exact aV
 ·obtain rfl:k=l.length:=af;have i:¬(l.length<(l:Int)):=af;have u:=Q.o (fun j h=>I.o j h h);subst u;go_wp2;go_ret;exact⟨aE,rfl⟩
end
def St(C:bZ)(k:Nat)(Y:YS):Prop:=Y=Y0 C∨∃n,n<=k+2/\mF C n Y
structure aba(Y:YS):Prop where
 ok:dv Y
 k:jO Y.D.who Y.D.bQ
 w:Y.D.who.length<=16
 o:Y.D.bQ.length<=1024
def St.ok(hv:dz C)(h:St C k Y):aba Y:=by
 rcases h with rfl|⟨n,_,i,j,N,d,_⟩
 ·exact⟨yB hv,⟨nofun,nofun⟩,by show([]:bF Int).length<=16;simp,by show([]:bF Ob).length<=1024;simp⟩
 ·exact⟨d.ok,d.dg.k,d.dg.w,d.ok.ez.bQ⟩
def abb(hv:dz C)(hk:k<=150)(h:St C k Y)(c:Cm)(hf:c.Fit):jb B Y c fun _ _ Y'=>St C (k+1) Y'/\∀m∈Y.D.who,m∈Y'.D.who:=by
 rcases h with rfl|⟨n,hn,d⟩
 ·exact fun W A hA=>(LA hv c W A hA).bC fun e w' ⟨er,m,A',Y',he,st,hq⟩=>⟨er,m,A',Y',he,st,by
   rcases hq with rfl|hq
   ·exact bS rfl
   ·exact ci ⟨2,af,hq.1⟩,nofun⟩
 ·exact fun W A hA=>(Lx hv af d c hf W A hA).bC fun e w' ⟨er,m,A',Y',he,st,q1,q2⟩=>⟨er,m,A',Y',he,st,ci ⟨n+1,af,q1⟩,q2.1.1⟩
def rJ(c:Cm):List Value:=[c.kd,c.id,c.mb,c.ot,c.sc,c.qt,c.pr]
variable{W:bD}
def LC{b o:Nat}{x:Cm}(h:∀j u,(rJ x)[j]?=some u->W.cell? ⟨b,o+j,none⟩=some u):W.cell? (b,o)=x.kd/\W.cell? (b,o+1)=x.id/\W.cell? (b,o+2)=x.mb/\W.cell? (b,o+3)=x.ot/\W.cell? (b,o+4)=x.sc/\W.cell? (b,o+5)=x.qt/\W.cell? (b,o+6)=x.pr:=⟨h 0 _ rfl,h 1 _ rfl,h 2 _ rfl,h 3 _ rfl,h 4 _ rfl,h 5 _ rfl,h 6 _ rfl⟩
def og(m:Int)(x:Ob):Bool:=decide (x.mem=m)&&decide (0<x.cE)&&decide (x.cN=3)&&decide (x.done<x.cE)
def abc{who:bF Int}(h:jO who l):∀m∈who,l.any (og m)=true:=fun m hm=>by
 obtain⟨x,hx,h1,h2,h3,h4⟩:=h.o m hm;rw[jT];exact⟨x,hx,by simp[og,h1,h2,h3,h4]⟩
section
attribute [local go_sem ↓] wp_at_zero wp_at_succ
def acb(w:bD):bG 58 #[(2:Int),(2:Int),(16:Int)] w (bj (aY 2) w):=by exact QbI
def acd(w:bD):bG 58 #[(1:Int),(1:Int),(8:Int)] w (bj (aY 1) w):=by exact QbI
def ace(w:bD):bG 58 #[(1:Int),(1:Int),(4:Int)] w (bj (aY 1) w):=by exact QbI
structure jP(w W:World)(vm vs vc:Value)(C:bZ):Prop where
 own:iz W w vm vs vc C
 blk:bI W (w.heap.size+1) 26 (cU vm vs vc C)
 res:∃cs:Array Value,cs.size=8/\bI W w 26 cs
 low:Bw w W
section
variable {w W W2:World} {vm vs vc:Value} {C:bZ}
def jP.alloc(h:jP w W vm vs vc C)(o:Obj):jP w (W.alloc o) vm vs vc C:=by have c:Bw W (W.alloc o):=aI;let⟨A,d,a⟩:=h.res;exact⟨h.own.keep c,h.blk.keep c,⟨A,d,a.keep c⟩,h.low.alloc h.low.size _⟩
variable{TS:bF TypeId}{K:bF Nat}
def Fg(m:cg w TS K W W2)(h:Bw w W):Bw w W2:=⟨m.os.bu h.os,m.tape.bu h.tape,m.output.bu h.output,bW h.size m.size,fun k hk=>(m.far k (iN hk h.size) (bS hk)).bu (h.block k hk)⟩
variable{v':bE}
def jP.mem(h:jP w W vm vs vc C)(x:Mb)(hg:W.grownBy W2 vm.ownBlock)(ho:W2.ownsRow w 125 2 v' (C.mem++[x]).length (bN mU (C.mem++[x])))(hat:v'.ownBlock=vm.ownBlock∨v'.ownBlock=some W.heap.size):jP w (W2.setCell (be (w.heap.size+1) 0) v') v' vs vc {C with mem:=C.mem++[x]}:=by let⟨A,d,a⟩:=h.res;have g:=uw (off:=0) (K:=[w.heap.size]) h.blk h.own.m hg ho hat ah (Nat.le_succ _) au (fun k hk=>by have:=fp a h.own.m ah k hk;simpa using this);exact⟨⟨g.own,dq h.own.s g.mod ah,dq h.own.c g.mod ah⟩,g.blk,⟨A,d,(g.mod.far _ a.lt (ci (bS au))).bu a⟩,Fg g.mod h.low⟩
def jP.secs(h:jP w W vm vs vc C)(x:Sc)(hg:W.grownBy W2 vs.ownBlock)(ho:W2.ownsRow w 127 2 v' (C.secs++[x]).length (bN mV (C.secs++[x])))(hat:v'.ownBlock=vs.ownBlock∨v'.ownBlock=some W.heap.size):jP w (W2.setCell (be (w.heap.size+1) 1) v') vm v' vc {C with secs:=C.secs++[x]}:=by let⟨A,d,a⟩:=h.res;have g:=uw (off:=1) (K:=[w.heap.size]) h.blk h.own.s hg ho hat ah (Nat.le_succ _) au (fun k hk=>by have:=fp a h.own.s ah k hk;simpa using this);exact⟨⟨dq h.own.m g.mod ah,g.own,dq h.own.c g.mod ah⟩,g.blk,⟨A,d,(g.mod.far _ a.lt (ci (bS au))).bu a⟩,Fg g.mod h.low⟩
def jP.bU(h:jP w W vm vs vc C)(x:Cy)(hg:W.grownBy W2 vc.ownBlock)(ho:W2.ownsRow w 63 4 v' (C.bU++[x]).length (bN nJ (C.bU++[x])))(hat:v'.ownBlock=vc.ownBlock∨v'.ownBlock=some W.heap.size):jP w (W2.setCell (be (w.heap.size+1) 2) v') vm vs v' {C with bU:=C.bU++[x]}:=by let⟨A,d,a⟩:=h.res;have g:=uw (off:=2) (K:=[w.heap.size]) h.blk h.own.c hg ho hat ah (Nat.le_succ _) au (fun k hk=>by have:=fp a h.own.c ah k hk;simpa using this);exact⟨⟨dq h.own.m g.mod ah,dq h.own.s g.mod ah,g.own⟩,g.blk,⟨A,d,(g.mod.far _ a.lt (ci (bS au))).bu a⟩,Fg g.mod h.low⟩
end
def C0:bZ:=⟨[],[],[],500,200,1,64,32⟩
def fU:bZ:=⟨[⟨1000,100⟩,⟨1000,100⟩],[⟨10,12⟩],[⟨4,7,9,10⟩],500,200,1,64,32⟩
def acf(w:World)(e:Ending)(w':World):Prop:=∃vm vs vc,e=.returned (eT vm vs vc fU)/\iz w' w vm vs vc fU/\Bw w w'
def acg(w:bD):bG 27 #[(2:Int),(1:Int),(1:Int)] w (acf w):=by
 go_enter func27,ntmps27;have ae:=aa (show jP w ((w.alloc (bH #[bd,bd,bd,(),(),(),(),()] 26)).alloc (bH #[bd,bd,bd,(500:Int),(200:Int),(1:Int),(64:Int),(32:Int)] 26)) bd bd bd C0 from⟨⟨⟨by simp[bN,C0],bS ⟨rfl,rfl⟩⟩,⟨by simp[bN,C0],bS ⟨rfl,rfl⟩⟩,⟨by simp[bN,C0],bS ⟨rfl,rfl⟩⟩⟩,heap_alloc2_new _ _ _,⟨_,rfl,(bI.new w 26 _).alloc _⟩,aI.alloc au _⟩);go_wp2_with(first|(go_at_call 58;refine(acb _).bC ?_;rintro e w1⟨rfl,rfl⟩));go_loopw[12] (fun vi wr=>∃(k:Nat) (vm t G:bE),k<=2/\vi=k/\jP w wr vm t G (⟨List.replicate k ⟨1000,100⟩,[],[],500,200,1,64,32⟩)) (aW 2);exact⟨0,_,_,_,af,rfl,ae.o⟩;obtain⟨k,vm,t,G,hk,rfl,hp⟩:=hrel;have u:=aa hp;have p0:wr.cell? (be (w.heap.size+1) 0)=some vm:=hp.blk.c 0;clear hp;by_cases ac:k<2
 ·have O:0<=((k:Nat):Int):=af;have C:((k:Nat):Int)<2:=af;have d:=aa (u.o.alloc (bH (eR (⟨1000,100⟩:Mb)) 125));have a:((⟨List.replicate k ⟨1000,100⟩,[],[],500,200,1,64,32⟩):bZ).mem.length=k:=by simp[C0]
  have f:(((⟨List.replicate k ⟨1000,100⟩,[],[],500,200,1,64,32⟩):bZ).mem++[(⟨1000,100⟩:Mb)]).length=k+1:=au;let⟨J,p,S,X,q⟩:=wm FL;let⟨N,T⟩:=aH vm;rw[T]at p0 d;clear T;go_wp2_with(at_builtin;refine fG xL ah FK _ rfl _ _ 22 rfl w 125 J (.agg #[(),()]) 16 underlying22 p S X q aB N _ rfl d.o.own.m (some (be wr 0)) 1 [(⟨1000,100⟩:Mb)] rfl (Sl.fg mU xL _ 125 _ aB _ rfl) QbK Qco d.o.low.size ?_;intro j w2 h l M;have P:=aa (d.o.mem (⟨1000,100⟩:Mb) l h M);have z:=(d.o.blk.grown d.o.own.m l ah).free 0;have q0:=(d.o.blk.grown d.o.own.m l ah).c 0;rw[f]at h;obtain⟨n2,U,rfl⟩:=bV h;clear h l M);have K:Hid (jP w _ _ _ _ (⟨List.replicate (k+1) ⟨1000,100⟩,[],[],500,200,1,64,32⟩)):=aa QcH;clear P z q0 a f;exact Qcr
 ·obtain rfl:k=2:=af;have i:¬((2:Int)<2):=af;go_wp2_with(first|(go_at_call 58;refine(acd _).bC ?_;rintro e w1⟨rfl,rfl⟩));go_loopw[23] (fun vi wr=>∃(k:Nat) (vm t G:bE),k<=1/\vi=k/\jP w wr vm t G (⟨List.replicate 2 ⟨1000,100⟩,List.replicate k ⟨10,12⟩,[],500,200,1,64,32⟩)) (aW 1);exact⟨0,_,_,_,af,rfl,u.o⟩;obtain⟨k,vm,t,G,hk,rfl,hp⟩:=hrel;have u:=aa hp;have p1:wr.cell? (be (w.heap.size+1) 1)=some t:=hp.blk.c 1;clear hp;by_cases ac:k<1
  ·have O:0<=((k:Nat):Int):=af;have C:((k:Nat):Int)<1:=af;have d:=aa (u.o.alloc (bH (iQ (⟨10,12⟩:Sc)) 127));have a:((⟨List.replicate 2 ⟨1000,100⟩,List.replicate k ⟨10,12⟩,[],500,200,1,64,32⟩):bZ).secs.length=k:=by simp[C0]
   have f:(((⟨List.replicate 2 ⟨1000,100⟩,List.replicate k ⟨10,12⟩,[],500,200,1,64,32⟩):bZ).secs++[(⟨10,12⟩:Sc)]).length=k+1:=au;let⟨J,p,S,X,q⟩:=wm FO;let⟨N,T⟩:=aH t;rw[T]at p1 d;clear T;go_wp2_with(at_builtin;refine fG xN ah FN _ rfl _ _ 23 rfl w 127 J (.agg #[(),()]) 16 underlying23 p S X q aB N _ rfl d.o.own.s (some (be wr 0)) 1 [(⟨10,12⟩:Sc)] rfl (Sl.fg mV xN _ 127 _ aB _ rfl) QbK Qco d.o.low.size ?_;intro j w2 h l M;have P:=aa (d.o.secs (⟨10,12⟩:Sc) l h M);have y:=(d.o.blk.grown d.o.own.s l ah).free 1;have E:=(d.o.blk.grown d.o.own.s l ah).c 1;rw[f]at h;obtain⟨n2,U,rfl⟩:=bV h;clear h l M);have K:Hid (jP w _ _ _ _ (⟨List.replicate 2 ⟨1000,100⟩,List.replicate (k+1) ⟨10,12⟩,[],500,200,1,64,32⟩)):=aa QcH;clear P y E a f;exact Qcr
  ·obtain rfl:k=1:=af;have i:¬((1:Int)<1):=af;go_wp2_with(first|(go_at_call 58;refine(ace _).bC ?_;rintro e w1⟨rfl,rfl⟩));go_loopw[34] (fun vi wr=>∃(k:Nat) (vm t G:bE),k<=1/\vi=k/\jP w wr vm t G (⟨List.replicate 2 ⟨1000,100⟩,List.replicate 1 ⟨10,12⟩,List.replicate k ⟨4,7,9,10⟩,500,200,1,64,32⟩)) (aW 1);exact⟨0,_,_,_,af,rfl,u.o⟩;obtain⟨k,vm,t,G,hk,rfl,hp⟩:=hrel;have u:=aa hp;have Y:wr.cell? (be (w.heap.size+1) 2)=some G:=hp.blk.c 2;clear hp;by_cases ac:k<1
   ·obtain rfl:k=0:=af;have O:0<=((0:Nat):Int):=af;have C:((0:Nat):Int)<1:=af;have d:=aa (u.o.alloc (bH (iy (⟨4,7,9,10⟩:Cy)) 63));have a:((⟨List.replicate 2 ⟨1000,100⟩,List.replicate 1 ⟨10,12⟩,List.replicate 0 ⟨4,7,9,10⟩,500,200,1,64,32⟩):bZ).bU.length=0:=by simp[C0]
    have f:(((⟨List.replicate 2 ⟨1000,100⟩,List.replicate 1 ⟨10,12⟩,List.replicate 0 ⟨4,7,9,10⟩,500,200,1,64,32⟩):bZ).bU++[(⟨4,7,9,10⟩:Cy)]).length=0+1:=au;let⟨J,p,S,X,q⟩:=wm FQ;let⟨N,T⟩:=aH G;rw[T]at Y d;clear T;go_wp2_with(at_builtin;refine fG xP ah FP _ rfl _ _ 24 rfl w 63 J (.agg #[(),(),(),()]) 32 underlying24 p S X q aB N _ rfl d.o.own.c (some (be wr 0)) 1 [(⟨4,7,9,10⟩:Cy)] rfl (Sl.fg nJ xP _ 63 _ aB _ rfl) QbK Qco d.o.low.size ?_;intro j w2 h l M;have P:=aa (d.o.bU (⟨4,7,9,10⟩:Cy) l h M);have f2:=(d.o.blk.grown d.o.own.c l ah).free 2;have H:=(d.o.blk.grown d.o.own.c l ah).c 2;rw[f]at h;obtain⟨n2,U,rfl⟩:=bV h;clear h l M);have K:Hid (jP w _ _ _ _ (⟨List.replicate 2 ⟨1000,100⟩,List.replicate 1 ⟨10,12⟩,List.replicate (0+1) ⟨4,7,9,10⟩,500,200,1,64,32⟩)):=aa (by rw[List.replicate_succ' (n:=0)];exact P.o);clear P f2 H a f;go_roundw;exact⟨0+1,_,_,_,af,by first|rfl|go_num|simp,K.o⟩;exact eZ af
   ·obtain rfl:k=1:=af;have i:¬((1:Int)<1):=af;let⟨A,B,b⟩:=u.o.res;let⟨ab,ad⟩:=Jh2 b B;let⟨a1,c1,e1⟩:=bV u.o.own.m;let⟨a2,c2,r⟩:=bV u.o.own.s;let⟨D,F,Q⟩:=bV u.o.own.c;simp only[oq]at e1 r Q;subst e1 r Q;let⟨x0,V,g,L,R,x5,x6,x7⟩:=s8 u.o.blk;clear B b Y;go_wp2_with(refine fQ rfl 26 _ _ rfl rfl w (cU (.slice a1 2 c1) (.slice a2 1 c2) (.slice D 1 F) fU) rfl rfl aj aD A ab.o ad.o ?_;intro W5 x;have PX:=aa x;have W:=x.row.c 0;have I:=x.row.c 1;have s2:=x.row.c 2;have s3:=x.row.c 3;have s4:=x.row.c 4;have s5:=x.row.c 5;have s6:=x.row.c 6;have s7:=x.row.c 7;clear x);refine wb (v:=eT (.slice a1 2 c1) (.slice a2 1 c2) (.slice D 1 F) fU) (by simp[results,results27,go_sem,W,I,s2,s3,s4,s5,s6,s7]) rfl ?_;refine⟨_,_,_,rfl, ?_,PX.o.low u.o.low (bL _)⟩;have Z:cg w [26] [] wr W5:=cg.put ab.o PX.o au (bL _) au;exact⟨dq u.o.own.m Z ah,dq u.o.own.s Z ah,dq u.o.own.c Z ah⟩
end
def pq:Tr:=⟨1,1,2,1,5,9⟩
def aL:List Lg:=[⟨1,0,45⟩,⟨1,1,-5⟩,⟨2,0,-45⟩,⟨2,1,5⟩]
def ach:[pq].flatMap eB=aL:=ah
def kE:List (List Lg):=(aL.flatMap fun a=>aL.flatMap fun b=>aL.flatMap fun c=>aL.map fun d=>[a,b,c,d]).filter fun l=>decide l.Nodup
def aci{bT:bF Lg}(h:yp fU [pq] bT):bT∈kE:=by
 have k:=h.all;have f:=h.is;rw[ach]at k f;have i:∀x∈bT,x∈aL:=by
  intro x j;let⟨e,l⟩:=f x j;have T:o8 aL (dX x)≠0:=by rw[<-e];exact l
  have C:oZ aL (dX x)≠[]:=fun e2=>T (by unfold o8;rw[e2];rfl);unfold oZ at C;let⟨n,H⟩:=List.exists_mem_of_ne_nil _ C;let⟨y,B,_⟩:=Fy.1 H;rw[tU]at B;have Q:dX y=dX x:=aG B.2;have U:y.bJ=o8 aL (dX y):=by
   have:∀y∈aL,y.bJ=o8 aL (dX y):=ah
   exact this y B.1
  have R:x=y:=by
   rw[Q,<-e]at U;obtain⟨F,o,O⟩:=x;obtain⟨t,r,p⟩:=y;simp only[dX,Sd.mk.injEq]at Q;simp only at U
   rw[Q.1,Q.2,U]
  rw[R];exact B.1
 have m:∀y∈aL,y∈bT:=by
  intro y B;have:∀y∈aL,o8 aL (dX y)≠0/\(⟨(dX y).mem,(dX y).bK,o8 aL (dX y)⟩:Lg)=y:=ah
  let⟨q,u⟩:=this y B;have:=k (dX y) q
  rwa[u]at this
 have g:bT.Nodup:=by
  have:=h.nd
  exact List.Pairwise.of_map dX (fun a b hab e=>hab (by rw[e])) this
 have s:bT.Perm aL:=(FG g ah).2 fun x=>⟨i x,m x⟩;have S:bT.length=4:=s.length_eq;match bT,S with
 |[a,b,c,d],_=>
  unfold kE;rw[tU];refine⟨?_,aG g⟩;rw[FE];refine⟨a,i a au, ?_⟩;rw[FE];refine⟨b,i b au, ?_⟩;rw[FE];refine⟨c,i c au, ?_⟩;exact Fy.2 ⟨d,i d au,rfl⟩
def tS(n:List Lg):DS:=(D0 fU).fT.me n
def oj(n:List Lg):DS:=(tS n).paid 1 0 45 ⟨7,1⟩ ⟨1,0⟩ 5
def jQ(n:List Lg):DS:=(oj n).paid 2 1 5 ⟨7,2⟩ ⟨1,0⟩ 5
def kF(n:List Lg):DS:={(jQ n).jo with state:=2}
def pt:List Lg:=[⟨1,1,5⟩]
def nC:List Lg:=[⟨2,0,45⟩]
def rO(n:List Lg):DS:=((kF n).give pt).tell (ey 14 [])
def AR(n:List Lg):DS:=((rO n).give nC).tell (ey 15 [])
def nD(n:List Lg):DS:=(AR n).fin [nC,pt] []
def Fh(C:bZ):Bool:=decide (C.mem=fU.mem)&&decide (C.secs=fU.secs)&&decide (C.bU=fU.bU)&&decide (C.line=fU.line)&&decide (C.capital=fU.capital)&&decide (C.lead=fU.lead)&&decide (C.cj=fU.cj)&&decide (C.cv=fU.cv)
variable{C:bZ}
def acj(h:Fh C=true):C=fU:=by obtain⟨a,b,c,d,e,f,g,i⟩:=C;unfold Fh at h;simp only[qW,decide_eq_true_eq]at h;obtain⟨⟨⟨⟨⟨⟨⟨rfl,rfl⟩,rfl⟩,rfl⟩,rfl⟩,rfl⟩,rfl⟩,rfl⟩:=h;rfl
structure pu(D:DS):Prop where
 ct:D.C=fU
 bal:D.bal.length=24
 b64:∀x∈D.bal,bO x
 holds:D.holds.length<=2
 rise:D.holds.Pairwise fun x y=>x.bR<y.bR
 bQ:D.bQ.length<=1024
 fC:∀x∈D.bQ,bO x.cE/\bO x.done/\bO x.mem/\0<=x.bK/\x.bK<=1
 who:D.who=[]
 cn:D.dt=1
 log:D.log.length<=100
def rP(D:DS):Bool:=Fh D.C&&decide (D.bal.length=24)&&decide (∀x∈D.bal,bO x)&&decide (D.holds.length<=2)&&decide (D.holds.Pairwise fun x y=>x.bR<y.bR)&&decide (D.bQ.length<=1024)&&decide (∀x∈D.bQ,bO x.cE/\bO x.done/\bO x.mem/\0<=x.bK/\x.bK<=1)&&decide (D.who=[])&&decide (D.dt=1)&&decide (D.log.length<=100)
def uQ(h:rP D=true):pu D:=by unfold rP at h;simp only[qW,decide_eq_true_eq]at h;obtain⟨⟨⟨⟨⟨⟨⟨⟨⟨d,c⟩,x⟩,M⟩,V⟩,A⟩,r⟩,i⟩,T⟩,a⟩:=h;exact⟨acj d,c,x,M,V,A,r,i,T,a⟩
def ack:∀n∈kE,(rP (tS n)&&rP (oj n)&&rP (jQ n)&&rP (kF n)&&rP (rO n)&&rP (AR n)&&rP (nD n))=true:=ai
def acl:∀n∈kE,(tS n).state=1/\(im (tS n).bQ 1 0 45).1=0/\0<=eo (dR 1 0) (oj n).bQ/\wrap64 (lv (gZ (oj n).bQ (eo (dR 1 0) (oj n).bQ))-(gZ (oj n).bQ (eo (dR 1 0) (oj n).bQ)).done)=0/\(oj n).bQ.filterMap (oc 1)=[]:=ai
def acm:∀n∈kE,(oj n).state=1/\(im (oj n).bQ 2 1 5).1=0/\0<=eo (dR 2 1) (jQ n).bQ/\wrap64 (lv (gZ (jQ n).bQ (eo (dR 2 1) (jQ n).bQ))-(gZ (jQ n).bQ (eo (dR 2 1) (jQ n).bQ)).done)=0/\(jQ n).bQ.filterMap (oc 2)=[]:=ai
def Mn:∀n∈kE,(jQ n).state=1/\(ft (jQ n).who (gQ (jQ n).bQ)).length<=1000/\(jQ n).jo.need<=0/\tA (kF n) 1=false/\(kF n).short 1=0/\(kF n).good 1=pt/\5<=(kF n).eQ ⟨1,0⟩ 1/\bO ((kF n).eQ ⟨1,0⟩ 1):=ai
def Fi:∀n∈kE,(rO n).good 0=nC/\45<=(rO n).eQ ⟨1,0⟩ 0/\bO ((rO n).eQ ⟨1,0⟩ 0)/\(nD n).uF ⟨7,1⟩ 1=(5,0)/\(jQ n).log.length<=(nD n).log.length:=ai
def Fj:dz fU:=by refine⟨ah,ah,ah,ah,ah,ah,ah,ah, ?_,ah,ah,ah,ah,ah⟩;exact⟨ah,ah,ah,ah,ah,trivial⟩
def Fk:fN fU 0=⟨4,7,9,10⟩:=ah
def W0:List Tm:=[⟨7,3,0,0⟩,⟨9,4,0,0⟩,⟨10,5,0,0⟩]
def pu.ez(h:pu D):cC D:=by have P:=h.ct;refine⟨by rw[P];exact Fj,by rw[P];exact h.bal,h.b64,by rw[P];exact h.holds,h.rise,h.bQ,fun x hx=>(h.fC x hx).1,by rw[h.who];decide⟩
def rQ{n:bF Lg}(hn:n∈kE):pu (tS n)/\pu (oj n)/\pu (jQ n)/\pu (kF n)/\pu (rO n)/\pu (AR n)/\pu (nD n):=by have h:=ack n hn;simp only[qW]at h;obtain⟨⟨⟨⟨⟨⟨d,c⟩,x⟩,M⟩,V⟩,A⟩,r⟩:=h;exact⟨uQ d,uQ c,uQ x,uQ M,uQ V,uQ A,uQ r⟩
structure Fu(D:DS)(c:Int)(S:List Int)(k:Nat)(Y:YS):Prop where
 ok:dv Y
 ct:Y.C=fU
 dg:Y.D=D
 uR:pu D
 phase:Y.phase=2
 clock:Y.clock=c
 cycle:Y.cycle=0
 ce:(∀t∈Y.ce,t∈W0∨(t.cq=2/\t.mem∈S))/\∀t∈W0,t∈Y.ce
 log:Y.log.length<=k
variable{S:bF Int}
def Fu.hear(h:Fu D c S k Y):Fu D c S (k+100) Y.hear:=
 ⟨h.ok.hear,h.ct,h.dg,h.uR,h.phase,h.clock,h.cycle,h.ce,by
  have h1:=h.uR.log;have h2:=h.log;show(Y.log++Y.D.log.drop Y.told).length<=k+100
  rw[cO,fc,h.dg];omega⟩
def acn(h:tF fU [pq] Y):∃n∈kE,Fu (tS n) 4 [1,2] 4000 Y:=by
 let⟨n,H,_,z⟩:=h.bT;have H:=aci H;refine⟨n,H,h.ok,h.ct,z,(rQ H).1,h.phase,by rw[h.clock,Fk],h.cycle, ?_,h.log⟩;have T:=h.ce;rw[Fk]at T;have e:((eP fU.bU).filter fun u=> !iJ ⟨(⟨4,7,9,10⟩:Cy).cut,1,0,0⟩ u)=W0:=ah;rw[e]at T;rw[T];constructor
 ·intro t a;rcases xq.1 a with a|a
  ·exact bS a
  ·have:=(Ax Y fU.mem).1 t a
   have r:fU.mem.length=2:=rfl;rw[r]at this;refine ci ⟨this.1, ?_⟩;have:t.mem=1∨t.mem=2:=af
   simpa using this
 ·intro t a;exact List.mem_append_left _ a
variable{S2:bF Int}
def aco{l:bF Tm}(hS:∀x∈S,x≠m->x∈S2)(h:(∀t∈l,t∈W0∨(t.cq=2/\t.mem∈S))/\∀t∈W0,t∈l):(∀t∈l.filter (fun x=> !kq 2 m x),t∈W0∨(t.cq=2/\t.mem∈S2))/\∀t∈W0,t∈l.filter (fun x=> !kq 2 m x):=by
 constructor
 ·intro t a;rw[tU]at a;rcases h.1 t a.1 with h1|h1
  ·exact bS h1
  ·refine ci ⟨h1.1,hS _ h1.2 fun e=> ?_⟩;have:=a.2
   unfold kq at this;rw[h1.1,e]at this;simp at this
 ·intro t a;rw[tU];refine⟨h.2 t a, ?_⟩;have:∀t∈W0,t.cq≠2:=ah
  have:=this t a
  unfold kq;simp[this]
def AS:Cm:=⟨4,0,1,0,0,45,0⟩
def AT:Cm:=⟨5,0,2,0,1,5,0⟩
def Mo{Y1:YS}{bJ y:Int}(h:Fu D c S k Y)(hst:D.state=1)(hl:fE fU m a=0)(hp:(im D.bQ m a bJ).1=0)(hf:0<=eo (dR m a) (D.paid m a bJ ⟨7,m⟩ ⟨1,0⟩ 5).bQ)(hx:wrap64 (lv (gZ (D.paid m a bJ ⟨7,m⟩ ⟨1,0⟩ 5).bQ (eo (dR m a) (D.paid m a bJ ⟨7,m⟩ ⟨1,0⟩ 5).bQ))-(gZ (D.paid m a bJ ⟨7,m⟩ ⟨1,0⟩ 5).bQ (eo (dR m a) (D.paid m a bJ ⟨7,m⟩ ⟨1,0⟩ 5).bQ)).done)=0)(hk:(D.paid m a bJ ⟨7,m⟩ ⟨1,0⟩ 5).bQ.filterMap (oc m)=[])(hS:∀x∈S,x≠m->x∈S2)(ha:pu (D.paid m a bJ ⟨7,m⟩ ⟨1,0⟩ 5))(ok1:dv Y1)(hq:rE Y m a bJ x y Y1):y=0/\x=0/\Fu (D.paid m a bJ ⟨7,m⟩ ⟨1,0⟩ 5) c S2 k Y1:=by
 unfold rE at hq;rw[h.dg,ya (by rw[hst];simp)]at hq;obtain⟨K,b,H⟩:=hq;unfold mB at b;rw[h.uR.ct,ya (by rw[hl];simp),ya (by rw[hp];simp)]at b;obtain⟨⟨_,O,d⟩,rfl⟩:=b;have B:y=0:=O.2 hf;have E:({Y with D:=D.paid m a bJ ⟨7,m⟩ ⟨1,0⟩ 5}:YS).lacks m=false:=by
  unfold YS.lacks YS.wL;show decide (0<(((D.paid m a bJ ⟨7,m⟩ ⟨1,0⟩ 5).bQ.filterMap (oc m)).length:Int))=false;rw[hk];rfl
 rw[yc ⟨B,E⟩]at H;subst H;exact⟨B,(d hf).bu hx,ok1,h.ct,rfl,ha,h.phase,h.clock,h.cycle,aco hS h.ce,h.log⟩
def acp{n:bF Lg}(hn:n∈kE)(hk:k<=6000)(h:Fu (tS n) 4 [1,2] k Y):jb B Y AS fun er m Y'=>er=0/\m=0/\Fu (oj n) 4 [2] (k+100) Y':=by let⟨y,v,M,R,J⟩:=acl n hn;have j:=h.uR.log;have U:=h.log;have u:=EK (B:=B) (Y:=Y) AS ⟨ah,ah,ah,ah,ah,ah,ah⟩ h.ok (by rw[h.dg];omega);intro W A i;refine(qM AS ah Qbq 74 rfl (fun _ _=>rfl) _ u W A i).bC ?_;rintro e c⟨er,T,b,Y',V,L,d,f,F,a,rfl,rfl⟩;obtain⟨rfl,rfl,q⟩:=Mo (S2:=[2]) h y ah v M R J ah (rQ hn).2.1 a F;exact⟨0,_,b,_,V,L,rfl,rfl,q.hear⟩
def acq{n:bF Lg}(hn:n∈kE)(hk:k<=6000)(h:Fu (oj n) 4 [2] k Y):jb B Y AT fun er m Y'=>er=0/\m=0/\Fu (jQ n) 4 [] (k+100) Y':=by let⟨y,v,M,R,J⟩:=acm n hn;have j:=h.uR.log;have U:=h.log;have u:=KU (B:=B) (Y:=Y) AT ⟨ah,ah,ah,ah,ah,ah,ah⟩ h.ok (by rw[h.dg];omega);intro W A i;refine(qM AT ah Qbq 75 rfl (fun _ _=>rfl) _ u W A i).bC ?_;rintro e c⟨er,T,b,Y',V,L,d,f,F,a,rfl,rfl⟩;unfold uM at F;rw[h.ct,yc (by unfold fR;decide),ya ah]at F;obtain⟨rfl,rfl,q⟩:=Mo (S2:=[]) h y ah v M R J ah (rQ hn).2.2.1 a F;exact⟨0,_,b,_,V,L,rfl,rfl,q.hear⟩
def Fm(h:Fu D c [] k Y):∀t∈Y.ce,t∈W0:=fun t ht=>(h.ce.1 t ht).elim id fun h=>xl h.2 au
def Mp(h:Fu D c S k Y)(hc:0<=c/\c<=1000):Fu D (c+1) S k Y.fq:=⟨⟨h.ok.dc,h.ok.gc,h.ok.ez,h.ok.gH,h.ok.told,h.ok.ce,h.ok.bU,by show 0<=Y.clock+1/\Y.clock+1<=100000;rw[h.clock];omega,h.ok.cn,h.ok.jD⟩,h.ct,h.dg,h.uR,h.phase,by show Y.clock+1=c+1;rw[h.clock],h.cycle,h.ce,h.log⟩
def acr(h:Fu D c [] k Y)(hk:k<=9000)(hc:0<=c)(hlt:c+1<7):jb B Y lP fun _ _ Y'=>Fu D (c+1) [] (k+100) Y':=by
 have F:=Mp h af;have U:Y.fq.log.length+Y.fq.D.log.length<=999000:=by
  have d:=F.log;have f:=h.uR.log;rw[F.dg];omega
 have u:=yz (B:=B) (Y:=Y) lP h.ok (fun a=>a=Y.fq) (fun _=>0) rfl (fun a e=>by subst e;exact⟨F.ok,U,rfl⟩) (fun a t e hf=>by
  subst e;obtain⟨P,b,_,Z⟩:=hf;let⟨v,T⟩:=wK b Z;have v:=Fm F t v;have T:t.dh<=Y.fq.clock:=T;rw[F.clock]at T;have:∀t∈W0,7<=t.dh:=ah
  have:=this t v
  omega)
 intro W A i;refine(qM lP ah Qbq 80 rfl (fun _ _=>rfl) _ u W A i).bC ?_;rintro e y⟨m,n,q,Y',V,L,a,j,⟨_,_,g,rfl,_,rfl⟩,_,rfl,_⟩;exact⟨m,n,q,_,V,L,Fu.hear F⟩
structure qP(n:List Lg)(k:Nat)(Y:YS):Prop where
 ok:dv Y
 ct:Y.C=fU
 dg:Y.D=nD n
 phase:Y.phase=4
 clock:Y.clock=7
 ce:∀t∈Y.ce,7<t.dh
 log:Y.log.length<=k
def qP.hear{n:bF Lg}(hn:n∈kE)(h:qP n k Y):qP n (k+100) Y.hear:=
 ⟨h.ok.hear,h.ct,h.dg,h.phase,h.clock,h.ce,by
  have h1:=(rQ hn).2.2.2.2.2.2.log;have h2:=h.log;show(Y.log++Y.D.log.drop Y.told).length<=k+100
  rw[cO,fc,h.dg];omega⟩
def Mq{cl:bF Lg}{s:Int}(e:du (cl.map (·.bJ))=(s,0))(e2:cd (cl.map (·.bJ))=s)(hs:s<=a)(h0:0<=s)(ha:bO a)(hp:∀x∈cl.map (·.bJ),0<=x)(hl:cl.length<=1024)(hk:gU cl=0):Dq a cl:=by
 refine⟨?_,⟨af,ha,hp,by rw[e,e2],by rw[cR];exact hl⟩,af⟩;have r:ei cl=(s,0):=by unfold ei;rw[ya (by rw[hk];simp),e]
 unfold lI;rw[r,ya au,ya af]
def acs{n:bF Lg}(hn:n∈kE)(ok:dv Y)(hD:Y.D=jQ n):K6 B Y (·=kF n):=by
 let⟨g,v,M,R,_⟩:=Mn n hn;have S:=(rQ hn).2.2.1.log;have X:=(rQ hn).2.2.2.1.ct;intro W A i;have c:=i.dg;have E:=ok.ez;rw[hD]at c E;have d:=(Ey E v).2.2.1;refine(J7 c E i.pb i.lt v af (·=(jQ n).jo) (fun f e=>by rw[e];exact d) (Ex M)).bC ?_;rintro e h⟨b,y,q,K,V,L,a⟩;rw[ya (by rw[g];simp)]at a;obtain⟨_,f,rfl,rfl,u⟩:=a;have F:b=false:=by
  rw[u];show tA (kF n) (kF n).C.secs.length=false;rw[X];exact R
 subst F;exact⟨y,q,_,V,L,rfl⟩
def act:i8 (pt.map (·.bJ)) pt=pt:=ah
def acu:i8 (nC.map (·.bJ)) nC=nC:=ah
def xh{l:bF Lg}(h:l=pt∨l=nC∨l=[]):nZ l/\l.length<=1:=by rcases h with rfl|rfl|rfl<;>exact⟨⟨ah,ah⟩,ah⟩
def acv(h:D.good 0=nC):jN D []=nC:=by
 unfold jN;rw[h];unfold ly fS mD;have:fI (nC++[])=[(2,[45])]:=ah
 rw[this];simp only[eu,nH,List.mergeSort_singleton];decide
variable{K:bF Nat}
def acw{n:bF Lg}(hn:n∈kE):Al B K (kF n) (fun _ D=>D=kF n) (fun k D Gs L=>(k=0/\D=kF n/\Gs=[]/\L=[])∨(k=1/\D=rO n/\Gs=[pt]/\L=[])) (fun Gs G L D=>Gs=[pt]/\G=nC/\L=[]/\D=AR n):=by
 let⟨_,_,_,_,J,c,o,f⟩:=Mn n hn;let⟨q,p,j,_,_⟩:=Fi n hn;let⟨_,_,_,d,i,v,_⟩:=rQ hn;have U:(kF n).C.secs.length=1:=by rw[d.ct];rfl
 have r:=acv q;constructor
 ·rfl
 ·intro k H e;subst e;exact⟨d.ez,rfl⟩
 ·intro k t H e;subst e;obtain rfl:k=0:=af;exact Kd d.ez J
 ·intro H e;exact bS ⟨rfl,e,rfl,rfl⟩
 ·intro k m Gs L h;rcases h with⟨rfl,rfl,rfl,rfl⟩|⟨rfl,rfl,rfl,rfl⟩
  ·exact⟨d.ez,by have:=d.log;omega,rfl,rfl,au,fun x hx=>(d.fC x hx).2.2.1⟩
  ·exact⟨i.ez,by have:=i.log;omega,by rw[i.ct,d.ct],rfl,au,fun x hx=>(i.fC x hx).2.2.1⟩
 ·intro k t m Gs L h;obtain rfl:k=0:=af;rcases h with⟨_,rfl,rfl,rfl⟩|⟨h,_⟩;rotate_left
  ·exact xl h au
  refine⟨fun G L=>G=pt/\L=[], ?_, ?_, ?_⟩
  ·rintro G L⟨rfl,rfl⟩;exact⟨(xh (bS rfl)).1,(xh (ci (ci rfl))).1⟩
  ·have e:(kF n).good (((0:Nat):Int)+1)=pt:=c;rw[e];have h:=J9 (a:=(kF n).eQ ⟨1,0⟩ 1) (cl:=pt) (Mq (s:=5) ah ah o ah f ah ah ah) ah;rw[act]at h;exact h
  ·rintro G L⟨rfl,rfl⟩;exact ci ⟨rfl,rfl,rfl,rfl⟩
 ·intro m Gs L h;rw[U]at h;rcases h with⟨h,_⟩|⟨_,rfl,rfl,rfl⟩
  ·exact xl h au
  refine⟨[],(·=rO n),fun _ G L=>G=nC/\L=[],WY _,au,au,fun l e=>by subst e;exact⟨i.ez,by have:=i.log;omega⟩,Ex ?_, ?_, ?_, ?_, ?_⟩
  ·rw[r];have:(ei nC).1=45:=ah
   rw[this];unfold jt;rw[yc p];exact kh _
  ·rintro l G L⟨rfl,rfl⟩;exact⟨(xh (ci (bS rfl))).1,(xh (ci (ci rfl))).1⟩
  ·rintro l rfl _;rw[r];have h:=J9 (a:=(rO n).eQ ⟨1,0⟩ 0) (cl:=nC) (Mq (s:=45) ah ah p ah j ah ah ah) ah;rw[acu]at h;exact h
  ·rintro l rfl P;rw[r]at P;exact xl ah P
  ·rintro l G L rfl⟨rfl,rfl⟩;exact⟨rfl,rfl,rfl,rfl⟩
 ·rintro Gs G L l⟨rfl,rfl,rfl,rfl⟩;refine⟨v.ez,by have:=v.log;omega,by rw[v.ct,d.ct],U.symm,fun x hx=>by have:=(v.fC x hx).2.2.2;rw[U];omega,au, ?_⟩;intro g b;simp only[je,qk,or_false]at b;rcases b with rfl|rfl
  ·exact bW (xh (ci (bS rfl))).2 ah
  ·exact bW (xh (bS rfl)).2 ah
def acx{n:bF Lg}(hn:n∈kE)(hD:Y.D=kF n):tE B Y (·=nD n):=by let⟨_,_,_,d,_⟩:=rQ hn;intro W A i;have c:=i.dg;rw[hD]at c;refine(Kg c d.ez i.pb i.lt _ _ _ (fun _=>acw hn)).bC ?_;rintro e y⟨r,q,K,V,a,b⟩;rw[ya (show¬((kF n).state≠2)from fun h=>h rfl)]at b;obtain⟨_,C,G,L,f,⟨rfl,rfl,rfl,rfl⟩,rfl⟩:=b;exact⟨r,q,_,V,a,rfl⟩
def Mr(Y:YS)(D:DS):(Y.pZ D).C=Y.C/\(Y.pZ D).D=D/\(Y.pZ D).phase=({Y with D:=D}:YS).next 3 false/\(Y.pZ D).clock=Y.clock/\(Y.pZ D).ce=Y.ce/\(Y.pZ D).log.length<=Y.log.length+D.log.length+1:=by
 refine⟨rfl,rfl,rfl,rfl,rfl, ?_⟩;show(Y.log++D.log.drop Y.told++[_]).length<=_
 rw[cO,cO,fc];simp only[eN];omega
def acy{n:bF Lg}(hD:D=nD n)(ok:dv {Y with D:=D})(hC:Y.C=fU)(hp:({Y with D:=D}:YS).next 3 false=4)(hc:Y.clock=7)(hw:∀u∈Y.ce,7<u.dh)(hl:Y.log.length+D.log.length+1<=k):qP n k (Y.pZ D):=by let⟨o,r,Q,U,R,f⟩:=Mr Y D;exact⟨dv.come ok _,o.bu hC,r.bu hD,Q.bu hp,U.bu hc,by rw[R];exact hw,bW f hl⟩
def acz{n:bF Lg}(hn:n∈kE)(h:Fu (jQ n) 6 [] k Y)(hk:k<=9000):jb B Y lP fun _ _ Y'=>qP n (k+301) Y':=by
 let⟨_,_,S,_,_,_,f⟩:=rQ hn;let⟨F,l3,l7,l⟩:=Jt4 (Mp h af) S.log f.log ((Fi n hn).2.2.2.2);let⟨I,K⟩:∃I:YS->Prop,I=fun Z=>Z=Y.fq∨qP n (k+201) Z:=⟨_,rfl⟩;have hh:=yz (B:=B) (Y:=Y) lP h.ok I (fun Z=>if Z.phase=2 then 1 else 0) (by rw[K];exact bS rfl) (fun N e=>by
  rw[K]at e;rcases e with rfl|e
  ·exact⟨F.ok,by have:=F.log;rw[F.dg];omega,rfl⟩
  ·exact⟨e.ok,by have:=e.log;rw[e.dg];omega,by rw[e.clock,h.clock];rfl⟩) (fun N t e hf=>by
  rw[K]at e;obtain⟨P,R,_,hm⟩:=hf;let⟨v,T⟩:=wK R hm;rcases e with rfl|e;rotate_left
  ·exfalso;have:=e.ce t v
   have T:t.dh<=N.clock:=T;rw[e.clock]at T;omega
  have v:=Fm F t v;have T:t.dh<=Y.fq.clock:=T;rw[F.clock]at T;have H:∀t∈W0,t.dh<=6+1->t=⟨7,3,0,0⟩:=ah;have H:=H t v T;let⟨a,O⟩:=aH (Y.fq.pop (some t));have w2:a.ce=Y.fq.ce.filter fun x=> !iJ t x:=by rw[<-O];rfl
  have Q:∀u∈a.ce,7<u.dh:=by
   intro u X;rw[w2,tU]at X;have d:=Fm F u X.1;have c:u≠⟨7,3,0,0⟩:=by
    have:=X.2
    unfold iJ at this;rw[H]at this;simpa using this
   have h3:∀u∈W0,u≠⟨7,3,0,0⟩->7<u.dh:=ah;exact h3 u d c
  have J:(a.ce:Int)<=Y.C.room:=by
   have:=F.ok.ce
   have c:=mO (fun x=> !iJ t x) Y.fq.ce;rw[w2];have e:Y.fq.C.room=Y.C.room:=rfl;omega
  have g:a.C=fU:=by rw[<-O];exact h.ct
  have U:a.D=jQ n:=by rw[<-O];exact h.dg
  have o:a.phase=2:=by rw[<-O];exact h.phase
  have j:a.clock=7:=by rw[<-O];exact F.clock
  have s:a.cycle=0:=by rw[<-O];exact h.cycle
  have L2:a.log.length<=k:=by rw[<-O];exact h.log
  have G:dv a:=by rw[<-O]at J⊢;exact⟨F.ok.dc,F.ok.gc,F.ok.ez,F.ok.gH,F.ok.told,J,F.ok.bU,F.ok.clock,F.ok.cn,F.ok.jD⟩
  have b:dv {a with D:=nD n}:=⟨by rw[g];exact f.ct,G.gc,f.ez,G.gH,by have:=G.told;rw[U]at this;exact bW this l,G.ce,G.bU,G.clock,by show 0<=(nD n).dt/\(nD n).dt<=100000;rw[f.cn];omega,fun x hx=>(f.fC x hx).2.1⟩;have E:({a with D:=nD n}:YS).next 3 false=4:=by
   show(ml a.phase 3 false (decide ((a.C.bU:Int)<=a.cycle))).1=4
   rw[o,g,s];decide
  rw[O];intro W A i;refine(Zi t (by rw[H]) i (·=kF n) (·=nD n) (acs hn G U) (fun D2' e=>acx hn e) (fun D3 e=>by subst e;exact⟨b,af⟩)).bC ?_;rintro e y⟨q,D,V,z,L⟩;subst z;refine⟨q,_,V,L, ?_, ?_⟩
  ·rw[K];exact ci (acy rfl b g E j Q af)
  ·show(if(a.pZ (nD n)).phase=2 then 1 else 0)<(if Y.fq.phase=2 then 1 else 0)
   rw[(Mr a (nD n)).2.2.1,E,yc (show Y.fq.phase=2 from h.phase)];decide)
 intro W A i;refine(qM lP ah Qbq 80 rfl (fun _ _=>rfl) _ hh W A i).bC ?_;rintro e y⟨er,m,q,Y',V,L,N,n1,⟨_,_,a,p,⟨P,R,r,M⟩,rfl⟩,_,rfl,_⟩;refine⟨er,m,q,_,V,L, ?_⟩;rw[K]at p;rcases p with rfl|p
 ·exfalso;obtain⟨t,H,_⟩:=At R r (x:=⟨7,3,0,0⟩) (F.ce.2 _ ah) (by show(7:Int)<=Y.fq.clock;rw[F.clock];decide);have H:mz Y.fq.ce P Y.fq.clock=some t:=H;rw[M]at H;exact xl H au
 ·exact qP.hear hn p
def jb.mono{c:Cm}{R:Int->Int->YS->Prop}(h:jb B Y c Q)(hq:∀e n Y',Q e n Y'->R e n Y'):jb B Y c R:=fun W A hA=>
 (h W A hA).bC fun _ _ ⟨er,n,A',Y',he,hs,hr⟩=>⟨er,n,A',Y',he,hs,hq _ _ _ hr⟩
def jb.bC:=@jb.mono
def Fo(C:bZ)(T:List Tr)(n k:Nat)(i:Nat)(Y:YS):Prop:=(i<n->j8 C T (i:Int) k Y)/\(i=n->∃D,nX D T/\D.C=C/\tF C D.list Y)
def acA(hn:(n:Int)=(fN C 0).cut)(hk:k<=1000)(i:Nat)(hi:i<n)(Y:YS)(h:Fo C T n k i Y):jb B Y lP fun _ _ Y'=>Fo C T n k (i+1) Y':=by
 have t:=h.1 hi;by_cases P:i+1<n
 ·refine(Zt t hk af af).bC fun _ _ Y' q=>⟨fun _=> ?_,fun e=>af⟩;have e:((i+1:Nat):Int)=(i:Int)+1:=af;rw[e];exact q
 ·refine(Zv t hk af).bC fun _ _ Y' q=>⟨fun e=>af,fun _=>⟨Y.G,t.rel, ?_,q⟩⟩;rw[<-t.ct];exact t.ok.gc
section
attribute [local go_sem ↓] wp_at_zero wp_at_succ
def acB:yI fU [] pq=[pq]:=ah
def acC:Lz pq:=⟨ah,ah,ah,ah,ah,ah⟩
def acD:jb B (Y0 fU) yC fun _ _ Y=>j8 fU [] 0 2 Y:=aaU Fj
def acE(h:j8 fU [] 0 2 Y):jb B Y (rG pq) fun _ _ Y'=>j8 fU [pq] 0 3 Y':=by
 have:=aaW (B:=B) h ah pq acC
 rw[acB]at this;exact this
def acF{D:GS}{t:Tr}(h:nX D [t]):D.list=[t]:=List.perm_singleton.1 (Jz h)
variable{A:YA}{w:bD}{g:Nat}
def Ms(e:A.gy=g)(h:dp w B A Y)(n:Nat)(hn:n<=100000)(R:Nat->YS->Prop)(h0:R 0 Y)(hd:∀i,i<n->∀Y1,R i Y1->jb B Y1 lP fun _ _ Y2=>R (i+1) Y2):bG 18 #[ptr g,n] w (yA B A (R n) w):=by subst e;exact Zp h n hn R h0 hd
def acG(e:A.gy=g)(h:dp w B A Y)(ht:j8 fU [pq] 0 3 Y):bG 18 #[ptr g,(4:Int)] w (yA B A (fun Y=>∃n∈kE,Fu (tS n) 4 [1,2] 4000 Y) w):=by refine(Ms e h 4 ah (Fo fU [pq] 4 3) ⟨fun _=>ht,fun e=>by simp at e⟩ (fun i hi Y1 d=>acA (by rw[Fk];rfl) ah i hi Y1 d)).bC ?_;rintro e y⟨q,a,V,L,b⟩;let⟨D,d,_,x⟩:=b.2 rfl;rw[acF d]at x;exact⟨q,a,V,L,acn x⟩
def Fp(n:List Lg)(i:Nat)(Y:YS):Prop:=(i<3->Fu (jQ n) (4+(i:Int)) [] (4200+100*i) Y)/\(i=3->qP n 5000 Y)
def acH{n:bF Lg}(hn:n∈kE)(i:Nat)(hi:i<3)(Y:YS)(h:Fp n i Y):jb B Y lP fun _ _ Y'=>Fp n (i+1) Y':=by
 have t:=h.1 hi;by_cases P:i+1<3
 ·refine(acr t af af af).bC fun _ _ Y' q=>⟨fun _=> ?_,fun e=>af⟩;have e:4+((i+1:Nat):Int)=4+(i:Int)+1:=af;have r:4200+100*(i+1)=4200+100*i+100:=af;rw[e,r];exact q
 ·obtain rfl:i=2:=af;have t:Fu (jQ n) 6 [] 4400 Y:=t;refine(acz hn t ah).bC fun _ _ Y' q=>⟨fun e=>af,fun _=> ?_⟩;exact⟨q.ok,q.ct,q.dg,q.phase,q.clock,q.ce,bW q.log ah⟩
def acI{n:bF Lg}(hn:n∈kE)(e:A.gy=g)(h:dp w B A Y)(ht:Fu (jQ n) 4 [] 4200 Y):bG 18 #[ptr g,(3:Int)] w (yA B A (qP n 5000) w):=by refine(Ms e h 3 ah (Fp n) ⟨fun _=>ht,fun e=>by simp at e⟩ (fun i hi Y1 h1=>acH hn i hi Y1 h1)).bC ?_;rintro e y⟨q,a,V,L,D⟩;exact⟨q,a,V,L,D.2 rfl⟩
def acJ{n:bF Lg}(hn:n∈kE)(e:A.gy=g)(h:dp w B A Y)(hp:qP n 5000 Y):bG 28 #[ptr g,.agg #[(7:Int),(1:Int)],(1:Int)] w (bi (.tuple #[(5:Int),()]) w):=by subst e;have u:=Zo h hp.ok ⟨7,1⟩ 1;rw[hp.dg,(Fi n hn).2.2.2.1]at u;exact u
def acK{p:Int}(e:A.gy=g)(h:dp w B A Y)(hp:Y.phase=p):bG 22 #[ptr g] w (bj p w):=by subst e hp;exact Zm h
variable{W:bD}
def dp.Mt{kS cs:Array bE}(h:dp w B A Y)(hb:bI w g 35 kS)(p:pJ w g 35 cs W)(hB:B<=g):dp W B A Y:=h.EI (cg.put (TS:=[35]) (K:=[]) hb p au hB au) ah
def Mu(w:bD)(hw:kO w):bG 7 #[] w (bi (.bool true) w):=by
 have H:=aa (acg w);have S:=aa (fun W vm t vc (h:dM W vm t vc fU) (hb:Bw w W)=>EP vm t vc fU W h Fj (hw.keep hb));clear hw;go_enter func7,ntmps7;go_wp2_with fail;refine H.o.bC ?_;rintro e w1⟨vm,t,vc,rfl,af,z⟩;let⟨am,J⟩:=Jh2 (S.o w1 vm t vc af.sl z) z;clear af z H S;go_wp2_with fail;refine am.o.bC ?_;rintro e w2⟨A2,rfl,ab,f⟩;have L2:=aa (J.o.bu (f.bC J.o.size));let⟨B,hB⟩:=aH w1.heap.size;have Y:w.heap.size<=B:=by rw[<-hB];exact J.o.size
 rw[hB]at ab;have ad:=aa ((acD (B:=B)).at ab rfl);unfold yC at ad;let⟨g,b⟩:=aH A2.gy;have l:=aa b;rw[b]at ad⊢;clear ab f hB b am J;go_wp2_with fail;refine ad.o.bC ?_;rintro e O⟨av,m3,A3,Y3,rfl,ae,an⟩;let⟨G3,P⟩:=Jh2 (ae.gy.bu l.o) (wP ae Y L2.o);have ag:=aa ((acE (B:=B) an).at ae.at' G3.o);unfold rG pq at ag;clear ae an ad L2;go_wp2_with fail;refine ag.o.bC ?_;rintro e X⟨au,m4,A4,Y4,rfl,y,A⟩;let⟨G4,D⟩:=Jh2 (y.gy.bu G3.o) (wP y Y P.o);have K:=aa (acG (B:=B) G4.o y.at' A);clear y A ag P;go_wp2_with fail;refine K.o.bC ?_;rintro e T⟨A5,Y5,rfl,M,n,hn,x⟩;let⟨G5,L5⟩:=Jh2 (M.gy.bu G4.o) (wP M Y D.o);let⟨d,I⟩:=Jh2 ((acp (B:=B) hn ah x).at M.at' G5.o) hn;unfold AS at d;clear M x K D hn;go_wp2_with fail;refine d.o.bC ?_;rintro e F⟨ax,m6,A6,Y6,rfl,r,rfl,rfl,al⟩;let⟨E,L6,D6,R6⟩:=Jh4 (r.gy.bu G5.o) (wP r Y L5.o) r.at' al;have aq:=r.at'.lt;clear r al d L5;go_wp2_with(refine fQ rfl 35 _ _ rfl rfl F #[(),()] rfl rfl aj aD _ (bI.new F 35 #[(),()]) rfl ?_;intro x6 C;have i:=aa C;clear C);let⟨D7,L7,Q7⟩:=Jh3 ((D6.o.alloc (bH #[(),()] 35)).Mt (bI.new F 35 #[(),()]) i.o aq) (i.o.low (L6.o.alloc L6.o.size _) L6.o.size) i.o.row;have q:=aa ((acq (B:=B) I.o ah R6.o).at D7.o E.o);unfold AT at q;have ak:F.heap.size<x6:=Q7.o.lt;clear i L6 D6 R6;refine q.o.bC ?_;rintro e m⟨ay,m8,A8,Y8,rfl,Q,rfl,rfl,U⟩;let⟨G8,L8,L,R8,s⟩:=Jh5 (Q.gy.bu E.o) (wP Q Y L7.o) Q.at' U (Q7.o.cu Q.mod ah);have Z:=Q.at'.lt;have ao:F.heap.size≠m:=by have:=s.o.lt;omega
 clear Q U q L7 Q7 ak D7;go_wp2_with(refine fQ rfl 35 _ _ rfl rfl m #[(),()] rfl rfl aj aD _ (bI.new m 35 #[(),()]) rfl ?_;intro x8 P8;have ac:=aa P8;clear P8);let⟨V,L9⟩:=Jh2 ((L.o.alloc (bH #[(),()] 35)).Mt (bI.new m 35 #[(),()]) ac.o Z) (ac.o.low (L8.o.alloc L8.o.size _) L8.o.size);have Q9:Hid (bI x8 F 35 #[(),()]):=aa ((ac.o.far _ ao).bu (s.o.alloc _));let⟨U9,HT⟩:=Jh2 ac.o.row (acI (B:=B) I.o G8.o V.o R8.o);clear ac L8 L R8 s;refine HT.o.bC ?_;rintro e aw⟨j,az,rfl,a,hp⟩;let⟨ai,G,v,p,u⟩:=Jh5 (a.gy.bu G8.o) (wP a Y L9.o) a.at' (Q9.o.cu a.mod ah) (U9.o.cu a.mod ah);let⟨k,HP⟩:=Jh2 (acJ I.o ai.o v.o hp) hp;clear a hp HT L9 Q9 U9 V;go_wp2_with fail;refine k.o.bC ?_;rintro e ar⟨rfl,R⟩;let⟨q0,q1,u0,u1⟩:=Jt4 ((p.o.keep R).c 0) ((p.o.keep R).c 1) ((u.o.keep R).c 0) ((u.o.keep R).c 1);let⟨ap,N⟩:=Jh2 (acK ai.o (v.o.keep R) HP.o.phase) (G.o.bu (R.bC G.o.size));clear R k p u v;go_wp2_with(go_at_call 22;refine ap.o.bC ?_;rintro e aA⟨rfl,rfl⟩);go_ret;exact⟨rfl,N.o⟩
def mh(n a b:Int)(w:bD):bG 57 #[n,a,b] w (bj (.bool (gN n a b)) w):=by
 have e:gN n a b=(decide (a<=n)&&decide (n<=b)):=by unfold gN;simp
 by_cases h:a<=n
 ·have d:=dT h;have K:Hid (gN n a b=decide (n<=b)):=aa (by rw[e,d];rfl);exact Qck
 ·have d:=dF h;have K:Hid (gN n a b=false):=aa (by rw[e,d];rfl);exact Qck
def Fq(C:bZ)(w:World)(e:Ending)(w':World):Prop:=∃s:ByteArray,e=.returned (.string s)/\(s=⟨#[]⟩↔dz C)/\Bw w w'
def pv{n b:Int}(h:gN n a b=false):¬(a<=n/\n<=b):=fun h2=>by rw[nM h2]at h;exact xl h au
def qQ{n b:Int}(h:gN n a b=true):a<=n/\n<=b:=by unfold gN at h;simpa using h
def xi{a b:Nat}(h:gN (n:Int) (a:Int) (b:Int)=true):a<=n/\n<=b:=by have:=qQ h;omega
def Fr(n a b:Int)(w:bD):bG 57 #[n,a,b] w fun e w'=>e=.returned (.bool (gN n a b))/\∃m,w'=w.drewN m:=(mh n a b w).bC fun _ _ ⟨h1,h2⟩=>⟨h1,0,h2⟩
def acL(vm vs vc:bE)(C:bZ)(w:bD)(hc:dM w vm vs vc C):bG 26 #[eT vm vs vc C] w (Fq C w):=by
 let⟨W1,ao⟩:=aH (w.alloc (bH (cU vm vs vc C) 26));have c1:Bw w W1:=by rw[<-ao];exact aI
 have N:Hid (bI W1 w.heap.size 26 (cU vm vs vc C)):=aa (by rw[<-ao];exact bI.new w 26 _);let⟨HC,A⟩:=Jh2 (hc.keep c1) ao;obtain⟨U,V,rfl,aL,aO,aM,hm⟩:=HC.o.m;obtain⟨au,ks,rfl,P,D,aJ,hs⟩:=HC.o.s;obtain⟨ac,S,rfl,R,aP,aN,aF⟩:=HC.o.c;let⟨p0,Z,Y,p3,p4,p5,p6,p7⟩:=s8 N.o;have HP:Hid (∀s w',(s=⟨#[]⟩↔dz C)->Bw W1 w'->Fq C w (.returned (.string s)) w'):=aa (fun s w' h hb=>⟨s,rfl,h,c1.bu (hb.bC c1.size)⟩);have x0:(w.alloc (bH #[.slice U C.mem.length V,.slice au C.secs.length ks,.slice ac C.bU.length S,C.line,C.capital,C.lead,C.cj,C.cv] 26)).cell? (be w.heap.size 0)=some (.slice U C.mem.length V):=by rw[show w.alloc (bH #[.slice U C.mem.length V,.slice au C.secs.length ks,.slice ac C.bU.length S,C.line,C.capital,C.lead,C.cj,C.cv] 26)=W1 from ao];exact p0
 let⟨HM,HS,M⟩:=Jh3 hm hs aF;clear ao hc aL P R hm hs aF;unfold maxLen at aM aJ aN;have ae:Hid (¬dz C->∀s:ByteArray,s≠⟨#[]⟩->∀w',Bw W1 w'->Fq C w (.returned (.string s)) w'):=aa (fun h s hs w' hb=>HP.o s w' (iff_of_false hs h) hb);go_enter func26,ntmps26;cases h1:gN (C.mem.length:Int) 2 16 with
 |false=>
  have q:=aa h1;go_wp2_with(go_at_call 57;refine(mh _ _ _ _).bC ?_;rintro e i⟨rfl,rfl⟩);rw[show w.alloc (bH #[.slice U C.mem.length V,.slice au C.secs.length ks,.slice ac C.bU.length S,C.line,C.capital,C.lead,C.cj,C.cv] 26)=W1 from A.o];refine wb (v:=.string ⟨#[109,101,109,98,101,114,115]⟩) aR rfl ?_;exact ae.o (fun hv=>pv q.o ⟨adc.2 hv.m1,adc.2 hv.m2⟩) _ Qak _ (bM _ _)
 |true=>
  have q:=aa h1;go_wp2_with(go_at_call 57;refine(mh _ _ _ _).bC ?_;rintro e i⟨rfl,rfl⟩);rw[show w.alloc (bH #[.slice U C.mem.length V,.slice au C.secs.length ks,.slice ac C.bU.length S,C.line,C.capital,C.lead,C.cj,C.cv] 26)=W1 from A.o];go_loopw[3] (fun vi wr=>∃(k:Nat),k<=C.mem.length/\vi=k/\Bw W1 wr/\∀j (J:j<C.mem.length),j<k->(0<=C.mem[j].cw/\C.mem[j].cw<=1099511627776)/\(0<=C.mem[j].cI/\C.mem[j].cI<=1099511627776)) (aW C.mem.length);exact⟨0,cH _,rfl,(bM _ _),fun j J h=>xl h (yU _)⟩;obtain⟨k,hk,rfl,ab,g⟩:=hrel;let⟨al,ad⟩:=Jh2 g ab;let⟨z,H,aA,L,aE,G⟩:=Jt6 ((ab.c (p:=(be w.heap.size 0)) N.o.lt).bu p0) ((ab.c (p:=(be w.heap.size 1)) N.o.lt).bu Z) ((ab.c (p:=(be w.heap.size 2)) N.o.lt).bu Y) ((ab.c (p:=(be w.heap.size 3)) N.o.lt).bu p3) ((ab.c (p:=(be w.heap.size 4)) N.o.lt).bu p4) ((ab.c (p:=(be w.heap.size 5)) N.o.lt).bu p5);have F:=(ab.c (p:=(be w.heap.size 6)) N.o.lt).bu p6;have I:=(ab.c (p:=(be w.heap.size 7)) N.o.lt).bu p7;clear ab g;by_cases aj:k<C.mem.length
  ·obtain⟨b,ag,rfl,W,n⟩:=HM.o af;let⟨r0,r1⟩:=xM (n k aj);have q0:=(ad.o.c (p:=(b,ag+k*2)) W).bu r0;have q1:=(ad.o.c (p:=(b,ag+k*2+1)) W).bu r1;have aD:0<=(k:Int):=af;have aB:k<(C.mem.length:Int):=af;have ar:=aa (cZ aj:C.mem[k]∈C.mem);have X:Hid ((0<=C.mem[k].cw/\C.mem[k].cw<=1099511627776)/\(0<=C.mem[k].cI/\C.mem[k].cI<=1099511627776)->∀j (J:j<C.mem.length),j<k+1->(0<=C.mem[j].cw/\C.mem[j].cw<=1099511627776)/\(0<=C.mem[j].cI/\C.mem[j].cI<=1099511627776)):=aa (fun h j J hjk=>by
    by_cases e:j=k
    ·subst e;exact h
    ·exact al.o j J af)
   clear n r0 r1;generalize C.mem[k]=x at*;cases g1:gN x.cw 0 1099511627776 with
   |false=>
    have T:=aa g1;go_wp2_with(go_at_call 57;refine(mh _ _ _ _).bC ?_;rintro e i⟨rfl,rfl⟩);refine wb (v:=.string ⟨#[109,101,109,98,101,114,115]⟩) aR rfl ?_;exact ae.o (fun hv=>pv T.o (hv.mem _ ar.o).1) _ Qak _ ad.o
   |true=>
    cases g2:gN x.cI 0 1099511627776 with
    |false=>
     have T:=aa g2;go_wp2_with(go_at_call 57;refine(mh _ _ _ _).bC ?_;rintro e i⟨rfl,rfl⟩);refine wb (v:=.string ⟨#[109,101,109,98,101,114,115]⟩) aR rfl ?_;exact ae.o (fun hv=>pv T.o (hv.mem _ ar.o).2) _ Qak _ ad.o
    |true=>
     have f:=aa (X.o ⟨qQ g1,qQ g2⟩);go_wp2_with(go_at_call 57;refine(mh _ _ _ _).bC ?_;rintro e i⟨rfl,rfl⟩);go_roundw;exact⟨k+1,af,aw,ad.o,f.o⟩;exact eZ af
  ·obtain rfl:k=C.mem.length:=af;have aG:¬(C.mem.length<(C.mem.length:Int)):=af;have aK:Hid (∀x∈C.mem,(0<=x.cw/\x.cw<=1099511627776)/\(0<=x.cI/\x.cI<=1099511627776)):=aa (fun x hx=>by
    obtain⟨j,J,rfl⟩:=eW hx;exact al.o j J J)
   clear al;cases h2:gN (C.secs.length:Int) 1 8 with
   |false=>
    have l:=aa h2;go_wp2_with(go_at_call 57;refine(mh _ _ _ _).bC ?_;rintro e i⟨rfl,rfl⟩);refine wb (v:=.string ⟨#[115,101,99,115]⟩) aR rfl ?_;exact ae.o (fun hv=>pv l.o ⟨adc.2 hv.s1,adc.2 hv.s2⟩) _ Qak _ ad.o
   |true=>
    have l:=aa h2;go_wp2_with(go_at_call 57;refine(mh _ _ _ _).bC ?_;rintro e i⟨rfl,rfl⟩);go_loopw[4] (fun vi wr=>∃(k:Nat),k<=C.secs.length/\vi=k/\Bw W1 wr/\∀j (J:j<C.secs.length),j<k->(1<=C.secs[j].cF/\C.secs[j].cF<=1048576)/\(C.secs[j].cF<=C.secs[j].cap/\C.secs[j].cap<=1048576)) (aW C.secs.length);exact⟨0,cH _,rfl,ad.o,fun j J h=>xl h (yU _)⟩;obtain⟨k,hk,rfl,ab,g⟩:=hrel;let⟨al,ad⟩:=Jh2 g ab;let⟨z,H,aA,L,aE,G⟩:=Jt6 ((ab.c (p:=(be w.heap.size 0)) N.o.lt).bu p0) ((ab.c (p:=(be w.heap.size 1)) N.o.lt).bu Z) ((ab.c (p:=(be w.heap.size 2)) N.o.lt).bu Y) ((ab.c (p:=(be w.heap.size 3)) N.o.lt).bu p3) ((ab.c (p:=(be w.heap.size 4)) N.o.lt).bu p4) ((ab.c (p:=(be w.heap.size 5)) N.o.lt).bu p5);have F:=(ab.c (p:=(be w.heap.size 6)) N.o.lt).bu p6;have I:=(ab.c (p:=(be w.heap.size 7)) N.o.lt).bu p7;clear ab g;by_cases aj:k<C.secs.length
    ·obtain⟨b,ag,rfl,W,n⟩:=HS.o af;let⟨r0,r1⟩:=Bg (n k aj);have q0:=(ad.o.c (p:=(b,ag+k*2)) W).bu r0;have q1:=(ad.o.c (p:=(b,ag+k*2+1)) W).bu r1;have aD:0<=(k:Int):=af;have aB:k<(C.secs.length:Int):=af;have ar:=aa (cZ aj:C.secs[k]∈C.secs);have X:Hid ((1<=C.secs[k].cF/\C.secs[k].cF<=1048576)/\(C.secs[k].cF<=C.secs[k].cap/\C.secs[k].cap<=1048576)->∀j (J:j<C.secs.length),j<k+1->(1<=C.secs[j].cF/\C.secs[j].cF<=1048576)/\(C.secs[j].cF<=C.secs[j].cap/\C.secs[j].cap<=1048576)):=aa (fun h j J hjk=>by
      by_cases e:j=k
      ·subst e;exact h
      ·exact al.o j J af)
     clear n r0 r1;generalize C.secs[k]=x at*;cases g1:gN x.cF 1 1048576 with
     |false=>
      have T:=aa g1;go_wp2_with fail;go_quiet(first|(go_at_call 57;refine Calls.quiet_of (Fr _ _ _ _)));go_wp2_with fail;refine wb (v:=.string ⟨#[115,101,99,115]⟩) aR rfl ?_;exact ae.o (fun hv=>pv T.o (hv.secs _ ar.o).1) _ Qak _ (gM ad.o _)
     |true=>
      cases g2:gN x.cap x.cF 1048576 with
      |false=>
       have T:=aa g2;go_wp2_with fail;go_quiet(first|(go_at_call 57;refine Calls.quiet_of (Fr _ _ _ _)));go_wp2_with fail;refine wb (v:=.string ⟨#[115,101,99,115]⟩) aR rfl ?_;exact ae.o (fun hv=>pv T.o (hv.secs _ ar.o).2) _ Qak _ (gM ad.o _)
      |true=>
       have f:=aa (X.o ⟨qQ g1,qQ g2⟩);go_wp2_with fail;go_quiet(first|(go_at_call 57;refine Calls.quiet_of (Fr _ _ _ _)));have az:=aa (gM ad.o nq);go_wp2;go_roundw;exact⟨k+1,af,aw,az.o,f.o⟩;exact eZ af
    ·obtain rfl:k=C.secs.length:=af;have aG:¬(C.secs.length<(C.secs.length:Int)):=af;have t:Hid (∀x∈C.secs,(1<=x.cF/\x.cF<=1048576)/\(x.cF<=x.cap/\x.cap<=1048576)):=aa (fun x hx=>by
      obtain⟨j,J,rfl⟩:=eW hx;exact al.o j J J)
     clear al;cases h3:gN (C.bU.length:Int) 1 4 with
     |false=>
      have av:=aa h3;go_wp2_with(go_at_call 57;refine(mh _ _ _ _).bC ?_;rintro e i⟨rfl,rfl⟩);refine wb (v:=.string ⟨#[99,121,99,108,101,115]⟩) aR rfl ?_;exact ae.o (fun hv=>pv av.o ⟨adc.2 hv.c1,adc.2 hv.c2⟩) _ Qak _ ad.o
     |true=>
      have av:=aa h3;go_wp2_with(go_at_call 57;refine(mh _ _ _ _).bC ?_;rintro e i⟨rfl,rfl⟩);go_loopw[6,5] (fun vi va wr=>∃(k:Nat) (a:Int),k<=C.bU.length/\vi=k/\va=a/\Bw W1 wr/\(jh 0 C.bU↔jh a (C.bU.drop k))) (fun vi _ _=>C.bU.length-(intOf vi).toNat);exact⟨0,0,cH _,rfl,rfl,ad.o,Iff.rfl⟩;obtain⟨k,a,hk,rfl,rfl,ab,aC⟩:=hrel;let⟨aq,ad⟩:=Jh2 aC ab;let⟨z,H,aA,L,aE,G⟩:=Jt6 ((ab.c (p:=(be w.heap.size 0)) N.o.lt).bu p0) ((ab.c (p:=(be w.heap.size 1)) N.o.lt).bu Z) ((ab.c (p:=(be w.heap.size 2)) N.o.lt).bu Y) ((ab.c (p:=(be w.heap.size 3)) N.o.lt).bu p3) ((ab.c (p:=(be w.heap.size 4)) N.o.lt).bu p4) ((ab.c (p:=(be w.heap.size 5)) N.o.lt).bu p5);have F:=(ab.c (p:=(be w.heap.size 6)) N.o.lt).bu p6;have I:=(ab.c (p:=(be w.heap.size 7)) N.o.lt).bu p7;clear ab aC;by_cases aj:k<C.bU.length
      ·obtain⟨b,ag,rfl,W,n⟩:=M.o af;let⟨r0,r1,r2,r3⟩:=yX (n k aj);let⟨q0,q1,q2,q3⟩:=Jt4 ((ad.o.c (p:=(b,ag+k*4)) W).bu r0) ((ad.o.c (p:=(b,ag+k*4+1)) W).bu r1) ((ad.o.c (p:=(b,ag+k*4+2)) W).bu r2) ((ad.o.c (p:=(b,ag+k*4+3)) W).bu r3);have aD:0<=(k:Int):=af;have aB:k<(C.bU.length:Int):=af;have K:Hid (jh 0 C.bU↔jh a (C.bU[k]::C.bU.drop (k+1))):=aa (by rw[<-rR aj];exact aq.o);clear n r0 r1 r2 r3 aq;generalize C.bU[k]=x at*;have E:Hid (jh 0 C.bU↔(a<x.cut/\x.cut<x.cI/\x.cI<x.fJ/\x.fJ<x.close/\x.close<=1000/\jh x.close (C.bU.drop (k+1)))):=aa K.o;have an:=aa (ad.o.alloc ad.o.size (bH (iy x) 63));clear K;by_cases ai:x.cut<=a
       ·have d1:=dT ai;have ah:=aa ai;clear ai;exact Qaf
       have d1:=dF ai;by_cases ak:x.cI<=x.cut
       ·have d2:=dT ak;have ah:=aa ak;clear ai ak;exact Qaf
       have d2:=dF ak;by_cases d:x.fJ<=x.cI
       ·have d3:=dT d;have ah:=aa d;clear ai ak d;exact Qaf
       have d3:=dF d;by_cases r:x.close<=x.fJ
       ·have d4:=dT r;have ah:=aa r;clear ai ak d r;exact Qaf
       have d4:=dF r;by_cases ap:1000<x.close
       ·have d5:=dT ap;have ah:=aa ap;clear ai ak d r ap;exact Qaf
       have d5:=dF ap;have O:Hid (jh 0 C.bU↔jh x.close (C.bU.drop (k+1))):=aa (E.o.bu ⟨fun h=>h.2.2.2.2.2,fun h=>⟨af,af,af,af,af,h⟩⟩);clear ai ak d r ap;go_wp2;go_roundw;exact⟨k+1,x.close,af,aw,rfl,an.o,O.o⟩;exact eZ af
      ·obtain rfl:k=C.bU.length:=af;have aG:¬(C.bU.length<(C.bU.length:Int)):=af;have Q:Hid (jh 0 C.bU):=aa (aq.o.2 (by rw[List.drop_length];trivial));cases h4:gN C.line 0 1099511627776 with
       |false=>
        have u:=aa h4;go_wp2_with(go_at_call 57;refine(mh _ _ _ _).bC ?_;rintro e i⟨rfl,rfl⟩);refine wb (v:=.string ⟨#[108,105,110,101]⟩) aR rfl ?_;exact ae.o (fun hv=>pv u.o hv.line) _ Qak _ ad.o
       |true=>
        have u:=aa h4;cases h5:gN C.capital 0 1099511627776 with
        |false=>
         have y:=aa h5;go_wp2_with(go_at_call 57;refine(mh _ _ _ _).bC ?_;rintro e i⟨rfl,rfl⟩);refine wb (v:=.string ⟨#[99,97,112,105,116,97,108]⟩) aR rfl ?_;exact ae.o (fun hv=>pv y.o hv.capital) _ Qak _ ad.o
        |true=>
         have y:=aa h5;cases h6:gN C.lead 0 1000 with
         |false=>
          have ax:=aa h6;go_wp2_with(go_at_call 57;refine(mh _ _ _ _).bC ?_;rintro e i⟨rfl,rfl⟩);refine wb (v:=.string ⟨#[108,101,97,100]⟩) aR rfl ?_;exact ae.o (fun hv=>pv ax.o hv.lead) _ Qak _ ad.o
         |true=>
          have ax:=aa h6;cases h7:gN C.cj 1 64 with
          |false=>
           have ay:=aa h7;go_wp2_with(go_at_call 57;refine(mh _ _ _ _).bC ?_;rintro e i⟨rfl,rfl⟩);refine wb (v:=.string ⟨#[116,114,97,100,101,115]⟩) aR rfl ?_;exact ae.o (fun hv=>pv ay.o hv.cj) _ Qak _ ad.o
          |true=>
           have ay:=aa h7;cases h8:gN C.cv 1 32 with
           |false=>
            have B:=aa h8;go_wp2_with(go_at_call 57;refine(mh _ _ _ _).bC ?_;rintro e i⟨rfl,rfl⟩);refine wb (v:=.string ⟨#[98,105,100,115]⟩) aR rfl ?_;exact ae.o (fun hv=>pv B.o hv.cv) _ Qak _ ad.o
           |true=>
            have B:=aa h8;go_wp2_with(go_at_call 57;refine(mh _ _ _ _).bC ?_;rintro e i⟨rfl,rfl⟩);refine wb (v:=.string ⟨#[]⟩) aR rfl ?_;exact HP.o _ _ (iff_of_true rfl ⟨(xi q.o).1,(xi q.o).2,aK.o,(xi l.o).1,(xi l.o).2,t.o,(xi av.o).1,(xi av.o).2,Q.o,qQ u.o,qQ y.o,qQ ax.o,qQ ay.o,qQ B.o⟩) ad.o
def acM(s:ByteArray):s.toList.isEmpty=true↔s=⟨#[]⟩:=by
 rw[Go.ByteArray.toList_eq];obtain⟨d⟩:=s;constructor
 ·intro h;have c:d.toList=[]:=aG h;have x:d=#[]:=aG c;rw[x]
 ·intro h;injection h with h;subst h;rfl
def tT(C:bZ):Prop:=C.mem.length<=20/\C.secs.length<=20/\C.bU.length<=20
def acN(vm vs vc:bE)(C:bZ)(w:bD)(hc:dM w vm vs vc C):bG 56 #[eT vm vs vc C] w fun e w'=>∃b,e=.returned (.bool b)/\(b=true↔tT C)/\Bw w w':=by
 have f:Bw w (aZ w (cU vm vs vc C) 26):=aI;obtain⟨U,V,rfl,_,I,h,_⟩:=hc.m;obtain⟨j,F,rfl,_,D,r,_⟩:=hc.s;obtain⟨q,S,rfl,_,t,d,_⟩:=hc.c;unfold maxLen at h r d;have a:=aa f;clear hc;by_cases g:C.mem.length<=20
 ·by_cases i:C.secs.length<=20
  ·have x:=dT (show(C.mem:Int)<=20 by omega);have Q:=dT (show(C.secs:Int)<=20 by omega);have K:Hid (decide ((C.bU:Int)<=20)=true↔tT C):=aa (by unfold tT;rw[decide_eq_true_iff];omega);clear g i f;go_enter func56,ntmps56;go_wp2_with fail;refine wb (v:=.bool (decide ((C.bU:Int)<=20))) (by simp[results,results56,go_sem]) rfl ?_;exact⟨_,rfl,K.o,a.o⟩
  ·have x:=dT (show(C.mem:Int)<=20 by omega);have Q:=dF (show¬(C.secs:Int)<=20 by omega);have K:Hid (false=true↔tT C):=aa (by unfold tT;simp;omega);clear g i f;exact Qa9
 ·have x:=dF (show¬(C.mem:Int)<=20 by omega);have K:Hid (false=true↔tT C):=aa (by unfold tT;simp;omega);clear g f;exact Qa9
def acO(vm vs vc:bE)(C:bZ)(w:bD)(hc:dM w vm vs vc C)(a:Option Addr)(n cap:Nat)(m:Int):bG 25 #[eT vm vs vc C,.slice a n cap,m] w fun e w'=>∃b,e=.returned (.bool b)/\(b=true↔tT C/\(n:Int)<=m)/\Bw w w':=by
 let⟨g,c⟩:=aH (w.alloc (bH (cU vm vs vc C) 26));have d:Bw w g:=by rw[<-c];exact aI
 let⟨A,S⟩:=Jh2 c (acN vm vs vc C g (hc.keep d));clear hc c;go_enter func25,ntmps25;go_wp2_with fail;rw[show w.alloc (bH #[vm,vs,vc,C.line,C.capital,C.lead,C.cj,C.cv] 26)=g from A.o];refine S.o.bC ?_;rintro e k⟨b,rfl,u,f⟩;let⟨h,N⟩:=Jh2 (d.bu (f.bC d.size)) u;clear u f;cases b with
 |false=>
  go_wp2_with fail;refine wb (v:=.bool false) Qdn rfl ?_;exact⟨_,rfl,by simp[<-N.o],h.o⟩
 |true=>
  go_wp2_with fail;refine wb (v:=.bool (decide ((n:Int)<=m))) Qdn rfl ?_;exact⟨_,rfl,by simp[<-N.o],h.o⟩
def Mv(vm vs vc:bE)(C:bZ)(w:bD)(hc:dM w vm vs vc C)(a:Option Addr)(n cap:Nat)(m:Int):bG 6 #[eT vm vs vc C,.slice a n cap,m] w fun e w'=>∃b,e=.returned (.bool b)/\(b=true↔dz C/\(n:Int)<=m)/\Bw w w':=by
 let⟨g,d⟩:=aH (w.alloc (bH (cU vm vs vc C) 26));have i:Bw w g:=by rw[<-d];exact aI
 have W:Hid (bI g w 26 (cU vm vs vc C)):=aa (by rw[<-d];exact bI.new w 26 _);let⟨A,S,G⟩:=Jh3 d (acO vm vs vc C g (hc.keep i) a n cap m) (hc.keep i);clear hc d;go_enter func6,ntmps6;go_wp2_with fail;rw[show w.alloc (bH #[vm,vs,vc,C.line,C.capital,C.lead,C.cj,C.cv] 26)=g from A.o];refine S.o.bC ?_;rintro e k⟨b,rfl,u,f⟩;let⟨l,N,Q⟩:=Jh3 (i.bu (f.bC i.size)) u (G.o.keep f);let⟨j,Z,Y,y,q,c,p,X⟩:=s8 (W.o.keep f);clear u f;cases b with
 |false=>
  have I:Hid (false=true↔dz C/\(n:Int)<=m):=aa (iff_of_false au (fun h=>by
   have:=N.o.2 ⟨⟨by have:=h.1.m2;omega,by have:=h.1.s2;omega,by have:=h.1.c2;omega⟩,h.2⟩
   simp at this))
  go_wp2_with fail;refine wb (v:=.bool false) (by simp[results,results6,go_sem]) rfl ?_;exact⟨_,rfl,I.o,l.o⟩
 |true=>
  have r:=aa (acL vm vs vc C k Q.o);go_wp2_with(go_at_call 26;refine r.o.bC ?_;rintro e O⟨s,rfl,L,F⟩;have E:=aa (l.o.bu (F.bC l.o.size));have D:=aa L;clear L F);have K:Hid (s.toList.isEmpty=true↔dz C/\(n:Int)<=m):=aa ((acM s).bu (D.o.bu ⟨fun h=>⟨h,(N.o.1 trivial).2⟩,fun h=>h.1⟩));refine wb (v:=.bool s.toList.isEmpty) (by simp[results,results6,go_sem]) rfl ?_;exact⟨_,rfl,K.o,E.o⟩
