/- Lemmas for TopShares and TopKept; no law is closed here. -/
import Derived.Test.YtmhohaanddglbaaGreatDoorM07
set_option linter.all false
set_option maxRecDepth 100000
set_option maxHeartbeats 16000000
namespace Go.Proofs.YtmhohaanddglbaaGreatDoor
open Go.RowKit Go.Proofs.Tryz ZA ZU ZI ZD ZP ZR ZT ZS ZE ZO
variable{p:Prop}
def Qan(h:p:=by
  have f:0<=(i:Int):=af;have i4:i<(M:Int):=af;unfold maxLen at ax;have w2:wrap64 (y+O)=y+O:=jF _ af;have w1:wrap64 ((i:Int)+1-1)=(i:Int):=by rw[jF _ af];omega
  clear H ac Q K d ag f2 f3 al hy E ad aj aJ B aC aF j J an;go_wp2;go_region;go_wp2_with fail;exact⟨⟨k+1,Y.o,aw,by exact HF.o.keep (bM _ _).drew,by exact ai.o⟩,mG Y.o⟩):p:=h
def QaK(h:p:=by unfold j9;rw[tR M (gS ev (b:Int)) (gS (ev++[x]) (b:Int)) (fun m'=>by rw[wY];unfold oh;rw[ya af];omega),tR M (lS ev (b:Int)) (lS (ev++[x]) (b:Int)) (fun m'=>by rw[uP];unfold nB;rw[ya af];omega)]):p:=h
def Qbv(h:p:=by have ai:=aa (f3 _ _ Z.o);have i1:0<=(a:Int):=af;have i2:a<((S+1:Nat):Int):=af;have a0:(a:Int)<(S:Int)+1:=af;exact Qan):p:=h
def Qci(h:p:=by rw[wV];omega):p:=h
def Qcw(h:p:=by
  split
  ·rename_i d;have:=(h.ok x j af af).2.2
   omega
  ·exact kh _):p:=h
def QcL(h:p:=by rw[po _ _ (show i<8 from ab),wU _ _ ab]):p:=h
def QcM(h:p:=by rw[po _ _ (show i<8 from af),wU _ _ af]):p:=h
def Qc2(h:p:=by go_wp2_with fail;exact⟨⟨k+1,Y.o,aw,HF.o,Z.o⟩,mG Y.o⟩):p:=h
def Qc9(h:p:=by rw[D.o];exact f2):p:=h
def oh(a m:Int)(x:Ev):Int:=if x.cq=13/\x.bK=a/\x.mem=m then x.bJ else 0
def nB(a m:Int)(x:Ev):Int:=if(x.cq=14/\x.bK=a∨x.cq=15/\a=0)/\x.mem=m then x.bJ else 0
def gS(ev:List Ev)(a m:Int):Int:=cd (ev.map (oh a m))
def lS(ev:List Ev)(a m:Int):Int:=cd (ev.map (nB a m))
def tL(e f:bF Ev)(a m:Int):gS (e++f) a m=gS e a m+gS f a m:=by unfold gS;rw[jf,uD]
def tM(e f:bF Ev)(a m:Int):lS (e++f) a m=lS e a m+lS f a m:=by unfold lS;rw[jf,uD]
def qb{α:Type}(f:α->Int):∀(l:bF α),(∀x∈l,f x=0)->cd (l.map f)=0:=by
 intro l;induction l with
 |nil=>intro _;rfl
 |cons x l ih=>
  intro h;rw[eu,i6,h x au,ih fun y hy=>h y (by simp[hy])];rfl
variable{ev:bF Ev}
def AI(h:eM ev)(a m:Int):gS ev a m=0:=qb _ ev fun x hx=>by
 have:=h x hx
 unfold oh;rw[ya af]
def AJ(h:eM ev)(a m:Int):lS ev a m=0:=qb _ ev fun x hx=>by
 have:=h x hx
 unfold nB;rw[ya af]
def mS(G:List Lg)(m:Int):Int:=cd (G.map fun x=>if x.mem=m then x.bJ else 0)
def E7{α:Type}{f g:α->Int}:∀(l:bF α),(∀x∈l,f x=g x)->cd (l.map f)=cd (l.map g):=by intro l h;rw[List.map_congr_left h]
variable{G:bF Lg}
def LD{a0:Int}(h:∀x∈G,x.bK=a0)(a m:Int):gS (ey 13 G) a m=if a0=a then mS G m else 0:=by
 unfold gS ey mS;rw[lD];split
 ·refine E7 G fun x hx=> ?_;have:=h x hx
  show(if(13:Int)=13/\x.bK=a/\x.mem=m then x.bJ else 0)=_
  by_cases e:x.mem=m
  ·rw[yc e,yc ⟨rfl,af,e⟩]
  ·rw[ya e,ya fun h=>e h.2.2]
 ·refine qb _ G fun x hx=> ?_;have:=h x hx
  show(if(13:Int)=13/\x.bK=a/\x.mem=m then x.bJ else 0)=_
  rw[ya fun h=>af]
def LF(k:Int)(hk:k≠13)(G:bF Lg)(a m:Int):gS (ey k G) a m=0:=by unfold gS ey;rw[lD];refine qb _ G fun x _=> ?_;simp only[Function.comp,oh];rw[ya fun h=>hk h.1]
def LH(G:bF Lg)(a m:Int):lS (ey 13 G) a m=0:=by unfold lS ey;rw[lD];refine qb _ G fun x _=> ?_;simp only[Function.comp,nB];rw[ya au]
def abd{a0:Int}(h:∀x∈G,x.bK=a0)(a m:Int):lS (ey 14 G) a m=if a0=a then mS G m else 0:=by
 unfold lS ey mS;rw[lD];split
 ·refine E7 G fun x hx=> ?_;have:=h x hx
  show(if((14:Int)=14/\x.bK=a∨(14:Int)=15/\a=0)/\x.mem=m then x.bJ else 0)=_
  by_cases e:x.mem=m
  ·rw[yc e,yc ⟨bS ⟨rfl,af⟩,e⟩]
  ·rw[ya e,ya fun h=>e h.2]
 ·refine qb _ G fun x hx=> ?_;have:=h x hx
  show(if((14:Int)=14/\x.bK=a∨(14:Int)=15/\a=0)/\x.mem=m then x.bJ else 0)=_
  rw[ya fun h=>by rcases h.1 with h1|h1<;>omega]
def abe(G:bF Lg)(a m:Int):lS (ey 15 G) a m=if a=0 then mS G m else 0:=by
 unfold lS ey mS;rw[lD];split
 ·refine E7 G fun x hx=> ?_;show(if((15:Int)=14/\x.bK=a∨(15:Int)=15/\a=0)/\x.mem=m then x.bJ else 0)=_
  by_cases e:x.mem=m
  ·rw[yc e,yc ⟨ci ⟨rfl,af⟩,e⟩]
  ·rw[ya e,ya fun h=>e h.2]
 ·refine qb _ G fun x hx=> ?_;show(if((15:Int)=14/\x.bK=a∨(15:Int)=15/\a=0)/\x.mem=m then x.bJ else 0)=_
  rw[ya fun h=>by rcases h.1 with h1|h1<;>omega]
def rS(r:List Int)(cl:List Lg)(m:Int):Int:=cd (List.zipWith (fun(p:Int) (c:Lg)=>if c.mem=m then p else 0) r cl)
def LI(m:Int):∀(cl:bF Lg) (r:bF Int),(∀x∈r,0<=x)->mS (i8 r cl) m=rS r cl m:=by
 intro cl;induction cl with
 |nil=>intro r _;simp[mS,i8,rS,cd]
 |cons c cl ih=>
  intro r D;cases r with
  |nil=>simp[mS,i8,rS,cd]
  |cons p r=>
   have d:=ih r fun x hx=>D x (by simp[hx]);have a:=D p au;unfold mS i8 rS at d⊢;rw[List.zip_cons_cons,uY,si,i6,<-d];unfold nW;by_cases s:0<p
   ·simp only[yc s,eu,i6]
   ·have:p=0:=af
    subst this;simp
def fe(M:Nat):List Int:=(List.range M).map fun(i:Nat)=>(i:Int)+1
def abf(M:Nat)(c p:Int)(h1:1<=c)(h2:c<=(M:Int)):cd ((fe M).map fun m=>if c=m then p else 0)=p:=by
 unfold fe;induction M with
 |zero=>omega
 |succ M ih=>
  rw[xH,jf,jf,uD];simp only[eu,nH,i6];by_cases h:c=(M:Int)+1
  ·rw[qb,yc h]
   ·simp[cd]
   ·intro x j;obtain⟨i,a,rfl⟩:=Fy.1 j;have:=FC.1 a
    rw[ya af]
  ·rw[ya h,ih af];simp[cd]
def abg{α:Type}(f g:α->Int):∀(l:bF α),cd (l.map fun x=>f x+g x)=cd (l.map f)+cd (l.map g):=by
 intro l;induction l with
 |nil=>rfl
 |cons x l ih=>simp only[eu,i6,ih];omega
def LJ(M:Nat):∀(cl:bF Lg) (r:bF Int),r.length=cl.length->(∀c∈cl,1<=c.mem/\c.mem<=(M:Int))->cd ((fe M).map (rS r cl))=cd r:=by
 intro cl;induction cl with
 |nil=>intro r h _;cases r with
  |nil=>exact qb _ _ fun x _=>by simp[rS,cd]
  |cons p r=>simp at h
 |cons c cl ih=>
  intro r h Z;cases r with
  |nil=>simp at h
  |cons p r=>
   have e:(fun m=>rS (p::r) (c::cl) m)=fun m=>(if c.mem=m then p else 0)+rS r cl m:=by
    funext m
    unfold rS;rw[si,i6]
   have d:=Z c au;show cd ((fe M).map fun m=>rS (p::r) (c::cl) m)=_;rw[e,abg,abf M c.mem p d.1 d.2,i6];have:=ih r (aG h) fun x hx=>Z x (by simp[hx])
   show p+cd ((fe M).map (rS r cl))=_;rw[this]
def E8(m:Int):∀(cl:bF Lg) (r:bF Int),(∀c∈cl,c.mem≠m)->rS r cl m=0:=by
 intro cl;induction cl with
 |nil=>intro r _;simp[rS,cd]
 |cons c cl ih=>
  intro r h;cases r with
  |nil=>simp[rS,cd]
  |cons p r=>
   have:=ih r fun x hx=>h x (by simp[hx])
   unfold rS at this⊢;rw[si,i6,this,ya (h c au)];rfl
def LK:∀(cl:bF Lg) (r:bF Int) (i:Nat) (hi:i<cl),cl.Pairwise (fun x y=>x.mem<y.mem)->r.length=cl.length->rS r cl cl[i].mem=r.getD i 0:=by
 intro cl;induction cl with
 |nil=>intro r i hi;simp at hi
 |cons c cl ih=>
  intro r i hi s S;cases r with
  |nil=>simp at S
  |cons p r=>
   let⟨d,a⟩:=A0.1 s;have e:∀m,rS (p::r) (c::cl) m=(if c.mem=m then p else 0)+rS r cl m:=fun m=>by unfold rS;rw[si,i6]
   rw[e];cases i with
   |zero=>
    rw[jr,yc rfl,E8 _ cl r fun x hx=>by have:=d x hx;omega];simp
   |succ i=>
    have C:i<cl:=aG hi;have b:=d _ (cZ C);rw[qj,ya af,ih r i C a (aG S)];simp
variable{l:bF Lg}{i:Nat}
def LM(h:np l=true)(hi:i<l):nU l i=true:=by unfold np at h;rw[List.all_eq_true]at h;exact h i (aG hi)
def LN(h:np l=true):l.Pairwise (fun x y=>x.mem<y.mem):=by
 have d:∀j i (J:j<l.length),(p:i<j)->(l[i]'Qat).mem<l[j].mem:=by
  intro j;induction j with
  |zero=>intro i _ p;omega
  |succ j ih=>
   intro i J p;have c:=LM h J;unfold nU at c;simp[dy,J,show j<l.length from af]at c;rcases fA i j with h3|h3
   ·exact Int.lt_trans (ih i af h3) c.2
   ·obtain rfl:i=j:=af;exact c.2
 rw[AW];exact fun i j p J hij=>d j i J hij
def abh(h:np l=true):∀x∈l,x.bK=(l.getD 0 nT).bK/\1<=x.bJ:=by
 intro x j;obtain⟨i,p,rfl⟩:=eW j;have c:=LM h p;unfold nU at c;simp only[dy,dG p,pB]at c;simp at c;have:(l.getD 0 nT)=l[0]?.getD nT:=dy ..
 rw[this];omega
structure qc(M:Nat)(g l:Int->Int):Prop where
 pos:∀m,0<=g m/\0<=l m
 fit:cd ((fe M).map g)+cd ((fe M).map l)<=9223372036854775807
 qd:(∀m∈fe M,l m=0)∨(0<cd ((fe M).map g)+cd ((fe M).map l)/\∀m∈fe M,cd ((fe M).map g)*(g m+l m)<g m*(cd ((fe M).map g)+cd ((fe M).map l))+(cd ((fe M).map g)+cd ((fe M).map l))/\g m*(cd ((fe M).map g)+cd ((fe M).map l))<cd ((fe M).map g)*(g m+l m)+(cd ((fe M).map g)+cd ((fe M).map l)))
variable{M:Nat}
def qc.congr{g l g' l':Int->Int}(h:qc M g l)(hg:∀m,g' m=g m)(hl:∀m,l' m=l m):qc M g' l':=by obtain rfl:g'=g:=funext hg;obtain rfl:l'=l:=funext hl;exact h
def AK(M:Nat):qc M (fun _=>0) (fun _=>0):=by have h:cd ((fe M).map fun _=>(0:Int))=0:=qb _ _ fun _ _=>rfl;exact⟨fun _=>⟨kh _,kh _⟩,by rw[h];decide,bS fun _ _=>rfl⟩
variable{r:bF Int}
def abi(h:∀x∈r,0<=x)(i:Nat):0<=r.getD i 0:=by
 rw[dy];by_cases p:i<r.length
 ·rw[dG p];exact h _ (cZ p)
 ·rw[pC af];exact kh _
variable{cl:bF Lg}
def LO(m:Int)(h:∀x∈r,0<=x):0<=rS r cl m:=by
 unfold rS;refine(qx _ fun x hx=> ?_).1;obtain⟨i,p,rfl⟩:=eW hx;rw[vz];split
 ·exact h _ (cZ _)
 ·exact kh _
def abj:∀(W r:bF Int),r.length=W.length->cd (io W r)=cd W-cd r:=by
 intro W;induction W with
 |nil=>intro r h;cases r with
  |nil=>rfl
  |cons=>simp at h
 |cons c W ih=>
  intro r h;cases r with
  |nil=>simp at h
  |cons p r=>
   have:=ih r (aG h)
   unfold io at this⊢;rw[si,i6,i6,i6,this];omega
variable{L:bF Lg}
def abk{a:Int}(h:yw a cl G L)(hm:∀c∈cl,1<=c.mem/\c.mem<=(M:Int)):qc M (mS G) (mS L):=by
 rcases h with⟨rfl,rfl⟩|⟨h1,ok,r,hr,h3,rfl,rfl⟩
 ·exact(AK M).congr (fun _=>rfl) (fun _=>rfl)
 let⟨W,I⟩:=aH (cl.map (·.bJ));have d:W.length=cl.length:=by rw[<-I,cR]
 rw[I]at ok h3⊢;have j:(∀x∈r,0<=x)/\∀x∈io W r,0<=x:=by
  have T:∀i,i<W.length->0<=r.getD i 0/\r.getD i 0<=W.getD i 0:=by
   rcases h3 with⟨_,rfl⟩|⟨_,hp⟩
   ·exact fun i f=>⟨abi ok.pos i,kh _⟩
   ·exact hp.pos
  refine⟨fun x hx=> ?_,fun x hx=> ?_⟩
  ·obtain⟨i,f,rfl⟩:=eW hx;have:=T i af
   simpa[dy,f]using this.1
  ·obtain⟨i,f,rfl⟩:=eW hx;unfold io at f⊢;rw[xF]at f;rw[vz];have:=T i af
   simp[dy,show i<r.length from af,show i<W.length from af]at this;omega
 have k:(io W r).length=cl.length:=by rw[zN af,d]
 refine qc.congr (g:=rS r cl) (l:=rS (io W r) cl) ?_ (fun m=>LI m cl r j.1) (fun m=>LI m cl _ j.2);let⟨b,S,o,E⟩:=Jt4 (LJ M cl r hr hm) (LJ M cl (io W r) k hm) (abj W r af) (Df ok.fit);unfold bO at E;refine⟨fun m=>⟨LO m j.1,LO m j.2⟩,by rw[b,S,o];omega, ?_⟩;rcases h3 with⟨_,rfl⟩|⟨hlt,hp⟩
 ·refine bS fun m _=> ?_;have O:∀x∈io r r,x=0:=fun x hx=>by
   obtain⟨i,f,rfl⟩:=eW hx;simp[io]
  unfold rS;let⟨Z,q⟩:=aH (io r r);rw[q]at O⊢;have V:∀x∈List.zipWith (fun(p:Int) (c:Lg)=>if c.mem=m then p else 0) Z cl,x=0:=fun x hx=>by
   obtain⟨i,f,rfl⟩:=eW hx;rw[vz,O _ (cZ _)];simp
  have A:=qb id _ V;rwa[List.map_id]at A
 ·refine ci ?_;have n:cd r+(cd W-cd r)=cd W:=af;have O:=ok.a0;rw[b,S,o,n,hp.sum];refine⟨af,fun m _=> ?_⟩;by_cases P:∃i,∃(f:i<cl.length),cl[i].mem=m
  ·obtain⟨i,f,rfl⟩:=P;rw[LK cl r i f (LN h1) hr,LK cl _ i f (LN h1) k];have e:r.getD i 0+(io W r).getD i 0=W.getD i 0:=by
    unfold io;simp[dy,List.getElem?_zipWith,show i<r.length from af,show i<W.length from af];omega
   rw[e];exact⟨hp.lo i af,hp.hi i af⟩
  ·have H:∀c∈cl,c.mem≠m:=fun c hcm e=>by
    obtain⟨i,f,rfl⟩:=eW hcm;exact P ⟨i,f,e⟩
   rw[E8 m cl r H,E8 m cl _ H];simp;omega
structure tN(S M:Nat)(ev:List Ev):Prop where
 ok:∀x∈ev,13<=x.cq->x.cq<=15->(0<=x.bK/\x.bK<=(S:Int))/\(1<=x.mem/\x.mem<=(M:Int))/\1<=x.bJ
 qd:∀a:Int,qc M (gS ev a) (lS ev a)
variable{S:Nat}
def E9(h:eM ev):tN S M ev:=⟨fun x hx h1 h2=>by have:=h x hx;omega,fun a=>(AK M).congr (AI h a) (AJ h a)⟩
def LP{l:bF Int}{x:Lg}(h:x∈i8 l cl):0<x.bJ:=by
 unfold i8 at h;let⟨⟨p,c⟩,B,V⟩:=acY.1 h;unfold nW at V;split at V
 ·rename_i O;cases V
  exact O
 ·cases V
def LQ{D:DS}(a:Int):∀x∈D.good a,x.bK=a:=by
 intro x j;unfold DS.good rj at j;let⟨y,B,V⟩:=acY.1 j;let⟨z,c,b⟩:=acY.1 B;unfold oL at V;cases V
 unfold eJ at b;split at b
 ·rename_i O;cases b
  show y.bK=a;unfold rh at O;simp at O;exact O.2.2.1
 ·cases b
def abl{a:Int}(h:yw a cl G L):(∀x∈G,1<=x.bJ)/\∀x∈L,1<=x.bJ:=by
 rcases h with⟨rfl,rfl⟩|⟨_,_,r,_,_,rfl,rfl⟩
 ·exact⟨nofun,nofun⟩
 ·exact⟨fun x hx=>by have:=LP hx;omega,fun x hx=>by have:=LP hx;omega⟩
def LR(h:tD cl G L)(hm:∀c∈cl,1<=c.mem/\c.mem<=(M:Int)):qc M (mS G) (mS L)/\(∀x∈G,(1<=x.mem/\x.mem<=(M:Int))/\1<=x.bJ)/\∀x∈L,(1<=x.mem/\x.mem<=(M:Int))/\1<=x.bJ:=by
 let⟨a,_,b⟩:=h.cut;let⟨Z,Y⟩:=abl b;refine⟨abk b hm,fun x hx=>⟨?_,Z x hx⟩,fun x hx=>⟨?_,Y x hx⟩⟩
 ·let⟨c,P,e,_⟩:=h.gm x hx;rw[e];exact hm c P
 ·let⟨c,P,e,_⟩:=h.lm x hx;rw[e];exact hm c P
def AL{k:Int}{x:Ev}(h:x∈ey k l):x.cq=k/\∃y∈l,x.mem=y.mem/\x.bK=y.bK/\x.bJ=y.bJ:=by unfold ey at h;obtain⟨y,B,rfl⟩:=Fy.1 h;exact⟨rfl,y,B,rfl,rfl,rfl⟩
structure abm(M k:Nat)(ev:List Ev):Prop where
 qd:∀a,qc M (gS ev a) (lS ev a)
 o:∀a:Int,a<=0∨(k:Int)<a->∀m,gS ev a m=0/\lS ev a m=0
 ok:∀x∈ev,(1<=x.bK/\x.bK<=(k:Int))/\(1<=x.mem/\x.mem<=(M:Int))/\1<=x.bJ
variable{k:Nat}
def abn{D:DS}(hm:∀x∈D.bQ,1<=x.mem/\x.mem<=(M:Int)){Gs:bF (bF Lg)}(h:pj D k ev Gs L):abm M k ev:=by
 induction h with
 |nil=>exact⟨fun a=>(AK M).congr (fun _=>rfl) (fun _=>rfl),fun a _ m=>⟨rfl,rfl⟩,nofun⟩
 |snoc h c ih=>
  rename_i k ev Gs L G t;have d:∀c∈D.good ((k:Int)+1),1<=c.mem/\c.mem<=(M:Int):=Ak (P:=fun m=>1<=m/\m<=(M:Int)) hm _;let⟨f,p,s⟩:=LR c d;have n:∀x∈G,x.bK=(k:Int)+1:=fun x hx=>by
   let⟨c,j,_,e⟩:=c.gm x hx;rw[e];exact LQ _ c j
  have l:∀x∈t,x.bK=(k:Int)+1:=fun x hx=>by
   let⟨c,j,_,e⟩:=c.lm x hx;rw[e];exact LQ _ c j
  have i:∀a m,gS (ev++(ey 13 G++ey 14 t)) a m=gS ev a m+if(k:Int)+1=a then mS G m else 0:=fun a m=>by
   rw[tL,tL,LD n,LF 14 ah];omega
  have g:∀a m,lS (ev++(ey 13 G++ey 14 t)) a m=lS ev a m+if(k:Int)+1=a then mS t m else 0:=fun a m=>by
   rw[tM,tM,abd l,LH];omega
  refine⟨fun a=> ?_,fun a ha m=> ?_,fun x hx=> ?_⟩
  ·by_cases e:(k:Int)+1=a
   ·have O:=ih.o a (ci af);refine f.congr (fun m=> ?_) (fun m=> ?_)
    ·rw[i,yc e,(O m).1];omega
    ·rw[g,yc e,(O m).2];omega
   ·refine(ih.qd a).congr (fun m=> ?_) (fun m=> ?_)
    ·rw[i,ya e];omega
    ·rw[g,ya e];omega
  ·have O:=ih.o a af m;rw[i,g,ya af,ya af,O.1,O.2];exact⟨rfl,rfl⟩
  ·rcases xq.1 hx with hx|hx
   ·have:=ih.ok x hx
    refine⟨⟨this.1.1,by have:=this.1.2;push_cast;omega⟩,this.2⟩
   ·rcases xq.1 hx with hx|hx
    ·let⟨_,y,B,b,r,Q⟩:=AL hx;have:=p y B
     rw[b,r,Q,n y B];exact⟨⟨af,by push_cast;omega⟩,this⟩
    ·let⟨_,y,B,b,r,Q⟩:=AL hx;have:=s y B
     rw[b,r,Q,l y B];exact⟨⟨af,by push_cast;omega⟩,this⟩
def abo{G:bF (Int×bF Int)}{x:Lg}(h:x∈(fS G).1):∃p∈G,x.mem=p.1:=by
 unfold fS at h;split at h
 ·simp at h
 ·obtain⟨k,a,rfl⟩:=Fy.1 h;obtain⟨p,s,rfl⟩:=Fy.1 (Ei.1 a);exact⟨p,s,rfl⟩
def LS{P:Int->Prop}(h:∀x∈l,P x.mem):∀x∈(fS (fI l)).1,P x.mem:=fun x hx=>by
 obtain⟨p,hp,e⟩:=abo hx;rw[e];exact JU P l [] h (fun p hp=>xl hp au) p hp
variable{C:bZ}
def abp{P:Int->Prop}(h:∀x∈l,P x.mem):∀x∈(kB C l).1,P x.mem:=by
 unfold kB;split
 ·simp
 split
 ·simp
 ·exact LS fun x hx=>by
   obtain⟨y,B,rfl⟩:=Fy.1 hx;exact h y B
def abq{P:Int->Prop}{a b:bF Lg}(h1:∀x∈a,P x.mem)(h2:∀x∈b,P x.mem):∀x∈(ly a b).1,P x.mem:=by
 unfold ly;split
 ·simp
 split
 ·simp
 split
 ·simp
 split
 ·simp
 split
 ·simp
 ·exact LS fun x hx=>by
   rcases xq.1 hx with hx|hx
   ·exact h1 x hx
   ·exact h2 x hx
def LU(h:iq l=0)(ok:np l=true):∀x∈l,x.bK=0:=by
 intro x j;have d:=(abh ok x j).1;unfold iq at h;split at h
 ·rename_i O;exact xl h O
 ·unfold El at h;cases l with
  |nil=>cases j
  |cons y l=>
   simp at h d;rw[d,h]
def abr(h:eM ev∨od C ev):tN C.secs C.mem ev:=by
 rcases h with h|⟨D,L,G,L',Gs,pre,evs,mid,post,rfl,I,hh,hc,o1,o2,o3,rfl⟩
 ·exact E9 h
 have g:=abn (M:=D.C.mem.length) I.o.mb hh;have b:(∀x∈G,x.bK=0)/\(∀x∈L',x.bK=0)/\qc D.C.mem (mS G) (mS L')/\(∀x∈G,(1<=x.mem/\x.mem<=(D.C.mem:Int))/\1<=x.bJ)/\∀x∈L',(1<=x.mem/\x.mem<=(D.C.mem:Int))/\1<=x.bJ:=by
  rcases hc with⟨O,hc⟩|⟨_,rfl,rfl⟩
  ·have d:∀c∈jN D (kB D.C L).1,1<=c.mem/\c.mem<=(D.C.mem:Int):=abq (P:=fun m=>1<=m/\m<=(D.C.mem:Int)) (Ak (P:=fun m=>1<=m/\m<=(D.C.mem:Int)) I.o.mb _) (abp (P:=fun m=>1<=m/\m<=(D.C.mem:Int)) fun x hx=>by
    let⟨y,B,e⟩:=hh.ok.lm x hx;rw[e];exact I.o.mb y B)
   have n:(∀x∈G,x.bK=0)/\∀x∈L',x.bK=0:=by
    let⟨a,_,p⟩:=hc.cut;rcases p with⟨rfl,rfl⟩|⟨ok,_⟩
    ·exact⟨nofun,nofun⟩
    ·refine⟨fun x hx=> ?_,fun x hx=> ?_⟩
     ·let⟨c,i,_,e⟩:=hc.gm x hx;rw[e];exact LU O ok c i
     ·let⟨c,i,_,e⟩:=hc.lm x hx;rw[e];exact LU O ok c i
   exact⟨n.1,n.2,LR hc d⟩
  ·exact⟨nofun,nofun,(AK _).congr (fun _=>rfl) (fun _=>rfl),nofun,nofun⟩
 obtain⟨K,J,f,Z,Y⟩:=b;refine⟨fun x hx k1 k2=> ?_,fun a=> ?_⟩
 ·rcases xq.1 hx with hx|hx
  ·have:=o1 x hx;omega
  rcases xq.1 hx with hx|hx
  ·have:=g.ok x hx
   exact⟨⟨af,this.1.2⟩,this.2⟩
  rcases xq.1 hx with hx|hx
  ·have:=o2 x hx;omega
  rcases xq.1 hx with hx|hx
  ·rcases xq.1 hx with hx|hx
   ·let⟨_,y,B,j,r,Q⟩:=AL hx;have:=Z y B
    rw[j,r,Q,K y B];exact⟨⟨kh _,af⟩,this⟩
   ·let⟨_,y,B,j,r,Q⟩:=AL hx;have:=Y y B
    rw[j,r,Q,J y B];exact⟨⟨kh _,af⟩,this⟩
  ·have:=o3 x hx;omega
 ·have l:∀m,gS (pre++(evs++(mid++((ey 13 G++ey 15 L')++post)))) a m=gS evs a m+if(0:Int)=a then mS G m else 0:=fun m=>by
   rw[tL,tL,tL,tL,tL,AI o1,AI o2,AI o3,LD K,LF 15 ah];omega
  have k:∀m,lS (pre++(evs++(mid++((ey 13 G++ey 15 L')++post)))) a m=lS evs a m+if a=0 then mS L' m else 0:=fun m=>by
   rw[tM,tM,tM,tM,tM,AJ o1,AJ o2,AJ o3,abe,LH];omega
  by_cases e:a=0
  ·subst e;have O:=g.o 0 (bS (kh _));refine f.congr (fun m=> ?_) (fun m=> ?_)
   ·rw[l,yc rfl,(O m).1];omega
   ·rw[k,yc rfl,(O m).2];omega
  ·refine(g.qd a).congr (fun m=> ?_) (fun m=> ?_)
   ·rw[l,ya af];omega
   ·rw[k,ya e];omega
section
attribute [local go_sem ↓] wp_at_zero wp_at_succ
def bP(x i:Nat):Nat:=x/65536^i%65536
instance(x:Nat):CoeDep ZD (bf x) (Array Value):=⟨#[aX (bP x 0),aX (bP x 1),aX (bP x 2),aX (bP x 3),aX (bP x 4),aX (bP x 5),aX (bP x 6),aX (bP x 7)]⟩
def wT(x i:Nat):bP x i<65536:=nI _ ah
def abt(x i:Nat):bP x (i+1)=bP (x/65536) i:=by unfold bP;rw[Nat.pow_succ,ql,Nat.div_div_eq_div_mul]
def dU(x:Nat):List Nat:=[bP x 0,bP x 1,bP x 2,bP x 3,bP x 4,bP x 5,bP x 6,bP x 7]
abbrev dA(D:List Nat):Array Value:=(D.map fun n:Nat=>Value.int .u64 (n:Int)).toArray
def rL(D:bF Nat)(j n:Nat):(dA D).setIfInBounds j (aX (n))=dA (D.set j n):=by unfold dA;rw[jd,List.map_set]
def po(D:bF Nat)(j:Nat)(h:j<D):(dA D)[j]?=some (.int .u64 ((D.getD j 0:Nat):Int)):=by unfold dA;rw[li,ke,dy,dG h];rfl
def wU(x j:Nat)(h:j<8):(dU x).getD j 0=bP x j:=by rcases(show j=0∨j=1∨j=2∨j=3∨j=4∨j=5∨j=6∨j=7 from af)with rfl|rfl|rfl|rfl|rfl|rfl|rfl|rfl<;>rfl
def abu(x i:Nat):(x:Int)/2^(16*i)=((x/65536^i:Nat):Int):=by rw[show(65536:Nat)=2^16 by rfl,<-Nat.pow_mul];simp
def Fa(n:Nat)(h:n<18446744073709551616):bits BinOp.and IntKind.u64 (n:Int) 65535=((n%65536:Nat):Int):=by
 refine(bits_and_u64_nat n 65535 af ah).bu ?_;have:=Nat.and_two_pow_sub_one_eq_mod n 16
 simp only[Nat.reducePow,Nat.reduceSub]at this;rw[this]
def gW(x i:Nat):List Nat:=(List.range 8).map fun j=>if j<i then bP x j else 0
def wV(x i:Nat):(gW x i).length=8:=by unfold gW;simp
def LV(x:Nat):gW x 8=dU x:=rfl
def abv(x i j:Nat)(h:j<8):(gW x i).getD j 0=if j<i then bP x j else 0:=by unfold gW;rw[dy,ke,vA h];rfl
def Fb(x i:Nat)(h:i<8):(gW x i).set i (bP x i)=gW x (i+1):=by
 apply mR;intro j;rw[sd];unfold gW;by_cases J:j<8
 ·simp only[ke,vA J,Option.map_some,cR,rZ];by_cases e:i=j
  ·subst e;rw[yc rfl,yc h,yc af]
  ·rw[ya e];by_cases c:j<i
   ·rw[yc c,yc af]
   ·rw[ya c,ya af]
 ·simp only[ke,cR,rZ];have e:(List.range 8)[j]?=none:=aA;rw[e,ya af];rfl
def abw{l:bF Nat}{j:Nat}(h:j<l):l.set j (l.getD j 0)=l:=by rw[dy,dG h];exact List.set_getElem_self h
def abx(x i:Nat)(h:x<18446744073709551616)(hi:4<=i):bP x i=0:=by unfold bP;have d:65536^4<=65536^i:=Nat.pow_le_pow_right ah hi;rw[Nat.div_eq_of_lt af]
def aby(x i:Nat)(h:x<18446744073709551616)(hi:4<=i):gW x i=dU x:=by
 rw[<-LV];unfold gW;refine List.map_congr_left fun j hj=> ?_;have:=FC.1 hj
 by_cases d:j<i
 ·rw[yc d,yc this]
 ·rw[ya d,yc this,abx x j h af]
def lz(a b i:Nat):Nat:=(a%65536^i+b%65536^i)/65536^i
def abz(a b i:Nat):lz a b i<=1:=by unfold lz;have s:0<65536^i:=Nat.pow_pos ah;have d:=nI a s;have c:=nI b s;rw[<-Nat.lt_succ_iff,qV s];omega
def abA(a b i:Nat):(bP a i+bP b i+lz a b i)%65536=bP (a+b) i/\(bP a i+bP b i+lz a b i)/65536=lz a b (i+1):=by
 have s:0<65536^i:=Nat.pow_pos ah;unfold bP lz;rw[Nat.pow_succ];let⟨P,Y⟩:=aH (65536^i);rw[Y]at s⊢;have ha:=Nat.div_add_mod a P;have u:=Nat.div_add_mod b P;let⟨h,f⟩:∃q,a/P=q:=⟨_,rfl⟩;let⟨d,g⟩:∃q,a%P=q:=⟨_,rfl⟩;let⟨E,t⟩:∃q,b/P=q:=⟨_,rfl⟩;let⟨c,O⟩:∃q,b%P=q:=⟨_,rfl⟩;have o:(a+b)/P=h+E+(d+c)/P:=by
  rw[f,g]at ha;rw[t,O]at u;rw[<-ha,<-u,show P*h+d+(P*E+c)=d+c+P*(h+E) by rw[Nat.mul_add];omega,Nat.add_mul_div_left _ _ s];omega
 have r:a%(P*65536)=d+P*(h%65536):=by rw[Nat.mod_mul,g,f]
 have Q:b%(P*65536)=c+P*(E%65536):=by rw[Nat.mod_mul,O,t]
 rw[o,r,Q,f,t,g,O];refine⟨af, ?_⟩;rw[show d+P*(h%65536)+(c+P*(E%65536))=d+c+P*(h%65536+E%65536) by rw[Nat.mul_add];omega,<-Nat.div_div_eq_div_mul,Nat.add_mul_div_left _ _ s];congr 1;omega
variable{a b:Nat}
def abB(ha:a<340282366920938463463374607431768211456)(hb:b<340282366920938463463374607431768211456):lz a b 8=0↔a+b<340282366920938463463374607431768211456:=by unfold lz;rw[show(65536:Nat)^8=340282366920938463463374607431768211456 by rfl,Nat.mod_eq_of_lt ha,Nat.mod_eq_of_lt hb];omega
def abC(a b:Nat):lz a b 0=0:=by unfold lz;simp[Nat.mod_one]
def LW{a b i:Nat}(h:a/65536^(i+1)=b/65536^(i+1)):(bP a i=bP b i->a/65536^i=b/65536^i)/\(bP a i<bP b i->a<b):=by
 have s:0<65536^i:=Nat.pow_pos ah;unfold bP;rw[Nat.pow_succ,<-Nat.div_div_eq_div_mul,<-Nat.div_div_eq_div_mul]at h;refine⟨fun e=>af,fun e=> ?_⟩;have d:a/65536^i<b/65536^i:=af;refine Nat.lt_of_not_le fun h2=> ?_;have:=Nat.div_le_div_right (c:=65536^i) h2
 omega
def abD(ha:a<340282366920938463463374607431768211456)(hb:b<340282366920938463463374607431768211456):a/65536^8=b/65536^8:=by rw[show(65536:Nat)^8=340282366920938463463374607431768211456 by rfl,Nat.div_eq_of_lt ha,Nat.div_eq_of_lt hb]
variable{n:Nat}
def mG{m:Nat}(h:n<m):m-(intOf (aY ((n:Int)+1))).toNat<m-(intOf (aY (n:Int))).toNat:=by simp[intOf];omega
def Fc(x:Nat)(hx:x<18446744073709551616)(w:bD):bG 41 #[aX 0,aX x] w (bi (.agg (dA (dU x))) w):=by
 let⟨M,X⟩:=aH w.heap.size;have hz:dA (gW x 0)=bt:=rfl;let⟨g,ac⟩:=aH (w.alloc (bH bt 104));have D:g.heap.size=M+1:=by rw[<-ac,<-X];simp
 have ae:bI g M 104 (dA (gW x 0)):=by rw[<-ac,<-X,hz];exact bI.new w 104 _
 have b:Below M w g:=by rw[<-ac,<-X];exact aI
 let⟨k,R⟩:=aH (g.alloc (bH bt 104));have f:Below M w k:=by rw[<-R];exact b.alloc af _
 have F:bI k (M+1) 104 (dA (gW x 0)):=by rw[<-R,<-D,hz];exact bI.new g 104 _
 have d:bI k M 104 (dA (gW x 0)):=by rw[<-R];exact ae.keep aI
 let⟨Z,P,Q,HM,u,T⟩:=Jh6 F d f X D hx;clear b f ae F d hz;rw[X];go_enter func41,ntmps41;go_wp2;go_loopw[6] (fun(vi:bE) (wr:bD)=>∃(i:Nat),i<=4/\vi=i/\bI wr (M+1) 104 (dA (gW x i))/\bI wr M 104 (dA (gW x 0))/\Below M w wr) (fun(vi:bE) (_:bD)=>4-(intOf vi).toNat);exact⟨0,af,rfl,Z.o,P.o,Q.o⟩;obtain⟨i,hi,rfl,m,O,a⟩:=hrel;by_cases h:i<4
 ·have C:(i:Int)<4:=af;have e2:wrap64 (16*(i:Int))=((16*i:Nat):Int):=aC;have U:wrap64 ((i:Int)+4)=((i+4:Nat):Int):=aC;have n:bits BinOp.and IntKind.u64 ((x:Int)/2^(16*i)) 65535=(bP x i:Int):=by
   rw[abu,Fa _ (tZ (Nat.div_le_self _ _) T.o)];rfl
  have a0:bits BinOp.and IntKind.u64 0 65535=0:=ah;have c0:wr.cell? ⟨M+1,i,none⟩=some (.int .u64 ((gW x i).getD i 0:Nat)):=(m.c i).bu (po _ _ Qci);have f0:wr.frozen? ⟨M+1,i,none⟩=false:=m.free i;have L:=m.set i (aX (bP x i));rw[rL,Fb x i af]at L;have G:=L.set (i+4) (aX ((0:Nat):Int));rw[rL,show(gW x (i+1)).set (i+4) 0=gW x (i+1) by
   have:=abw (l:=gW x (i+1)) (j:=i+4) Qci
   rw[abv _ _ _ af,ya af]at this;exact this]at G
  have b:(wr.setCell ⟨M+1,i,none⟩ (aX (bP x i))).cell? ⟨M+1,i+4,none⟩=some (.int .u64 ((gW x (i+1)).getD (i+4) 0:Nat)):=(L.c (i+4)).bu (po _ _ Qci);have y:(wr.setCell ⟨M+1,i,none⟩ (aX (bP x i))).frozen? ⟨M+1,i+4,none⟩=false:=L.free (i+4);have z:0<=((i+4:Nat):Int):=af;have b2:((i+4:Nat):Int)<8:=af;have V:=aa G;have s:Below M w ((wr.setCell ⟨M+1,i,none⟩ (aX (bP x i))).setCell ⟨M+1,i+4,none⟩ (aX ((0:Nat):Int))):=(a.setCell (p:=⟨M+1,i,none⟩) (by show M<=M+1;omega) _).setCell (p:=⟨M+1,i+4,none⟩) (by show M<=M+1;omega) _;have ab:bI ((wr.setCell ⟨M+1,i,none⟩ (aX (bP x i))).setCell ⟨M+1,i+4,none⟩ (aX ((0:Nat):Int))) M 104 (dA (gW x 0)):=(O.far i _ af).far (i+4) _ af;let⟨J,ad⟩:=Jh2 s ab;clear m O a L G s ab;go_wp2;go_roundw;exact⟨i+1,af,aw,V.o,ad.o,J.o⟩;exact mG h
 ·have ag:¬((i:Int)<4):=af;have HI:Hid (i=4):=aa af;have L:bI wr (M+1) 104 (dA (dU x)):=by rw[<-aby x i T.o (by rw[HI.o];decide)];exact m
  have ad:Hid (bI wr M 104 bt):=aa O;have J:=aa a;let⟨A,E,H,B,N,q5,q6,r⟩:wr.cell? ⟨M+1,0,none⟩=some (.int .u64 (bP x 0:Int))/\wr.cell? ⟨M+1,1,none⟩=some (.int .u64 (bP x 1:Int))/\wr.cell? ⟨M+1,2,none⟩=some (.int .u64 (bP x 2:Int))/\wr.cell? ⟨M+1,3,none⟩=some (.int .u64 (bP x 3:Int))/\wr.cell? ⟨M+1,4,none⟩=some (.int .u64 (bP x 4:Int))/\wr.cell? ⟨M+1,5,none⟩=some (.int .u64 (bP x 5:Int))/\wr.cell? ⟨M+1,6,none⟩=some (.int .u64 (bP x 6:Int))/\wr.cell? ⟨M+1,7,none⟩=some (.int .u64 (bP x 7:Int)):=⟨L.c 0,L.c 1,L.c 2,L.c 3,L.c 4,L.c 5,L.c 6,L.c 7⟩;clear m O a L hi;go_wp2_with(refine fQ rfl 104 _ _ rfl rfl M (bf x) rfl rfl aj aD _ ad.o rfl ?_;intro W5 P5;have q:=aa P5;have W:=P5.row.c 0;have I:=P5.row.c 1;have s2:=P5.row.c 2;have K:=P5.row.c 3;have t:=P5.row.c 4;have S:=P5.row.c 5;have Y:=P5.row.c 6;have s7:=P5.row.c 7);refine wb (v:=.agg (bf x)) (by simp[results,results41,go_sem,W,I,s2,K,t,S,Y,s7]) rfl ?_;have h1:Below w w wr:=by rw[HM.o];exact J.o
  have h2:=q.o.low h1 (by rw[HM.o];exact bL _);rw[HM.o]at h2;exact⟨rfl,h2⟩
def Fd(n:Nat)(h:n<18446744073709551616):IntKind.u64.wrap n=(n:Int):=by simp only[IntKind.wrap,IntKind.signed,IntKind.bits];simp;omega
def LY(a b:Nat)(ha:a<340282366920938463463374607431768211456)(hb:b<340282366920938463463374607431768211456)(w:bD):bG 42 #[.agg (dA (dU a)),.agg (dA (dU b))] w (bi (.tuple #[.agg (dA (dU (a+b))),.bool (decide (a+b<340282366920938463463374607431768211456))]) w):=by
 let⟨M,X⟩:=aH w.heap.size;have hz:dA (gW (a+b) 0)=bt:=rfl;have da:dA (dU a)=(bf a):=rfl;have db:dA (dU b)=(bf b):=rfl;let⟨g,ak⟩:=aH (w.alloc (bH (bf a) 104));have an:g.heap.size=M+1:=by rw[<-ak,<-X];simp
 let⟨k,R⟩:=aH (g.alloc (bH (bf b) 104));have r:k.heap.size=M+2:=by rw[<-R];simp;omega
 let⟨W3,ai⟩:=aH (k.alloc (bH bt 104));have A:W3.heap.size=M+3:=by rw[<-ai];simp;omega
 let⟨W4,f⟩:=aH (W3.alloc (bH bt 104));have z:bI g M 104 (dA (dU a)):=by rw[<-ak,<-X,da];exact bI.new w 104 _
 have t:bI k (M+1) 104 (dA (dU b)):=by rw[<-R,<-an,db];exact bI.new g 104 _
 have V:bI W3 (M+2) 104 (dA (gW (a+b) 0)):=by rw[<-ai,<-r,hz];exact bI.new k 104 _
 have G:bI W4 (M+3) 104 (dA (gW (a+b) 0)):=by rw[<-f,<-A,hz];exact bI.new W3 104 _
 have U:Below g.heap.size g k:=by rw[<-R];exact aI
 have u:Below k.heap.size k W3:=by rw[<-ai];exact aI
 have k4:Below W3.heap.size W3 W4:=by rw[<-f];exact aI
 let⟨HA,N,q,I⟩:=Jh4 (((z.keep U).keep u).keep k4) ((t.keep u).keep k4) (V.keep k4) G;have HC:Hid (Below M w W4):=aa (by
  rw[<-f,<-ai,<-R,<-ak,<-X];exact((aI.alloc au _).alloc aA _).alloc aA _)
 let⟨HM,ax,E,al⟩:=Jh4 X (abz a b) (abA a b) (abB ha hb);let⟨s,hs⟩:=aH (a+b);have K:=aa (abC a b);rw[hs]at E q I al⊢;rw[da,db,X,show decide (s<340282366920938463463374607431768211456)=decide (lz a b 8=0) by
  by_cases h:lz a b 8=0
  ·rw[decide_eq_true h,decide_eq_true (al.o.1 h)]
  ·rw[decide_eq_false h,decide_eq_false fun h2=>h (al.o.2 h2)]]
 clear z t V G U u k4 hz da db ha hb hs;go_enter func42,ntmps42;go_wp2;go_loopw[8,7] (fun(vi:bE) (vc:bE) (wr:bD)=>∃(i:Nat),i<=8/\vi=i/\vc=.int .u64 (lz a b i:Nat)/\bI wr (M+3) 104 (dA (gW s i))/\bI wr (M+2) 104 (dA (gW s 0))/\bI wr (M+1) 104 (dA (dU b))/\bI wr M 104 (dA (dU a))/\Below M w wr) (fun(vi:bE) (_:bE) (_:bD)=>8-(intOf vi).toNat);exact⟨0,af,rfl,by rw[K.o];rfl,I.o,q.o,N.o,HA.o,HC.o⟩;obtain⟨i,hi,rfl,rfl,m,D,ae,ah,ac⟩:=hrel;by_cases ab:i<8
 ·have ay:(i:Int)<8:=af;have O:0<=(i:Int):=af;have p0:wr.cell? ⟨M,i,none⟩=some (.int .u64 (bP a i:Nat)):=(ah.c i).bu QcL;have Z:wr.cell? ⟨M+1,i,none⟩=some (.int .u64 (bP b i:Nat)):=(ae.c i).bu QcL;have c0:wr.cell? ⟨M+3,i,none⟩=some (.int .u64 ((gW s i).getD i 0:Nat)):=(m.c i).bu (po _ _ Qci);have f0:wr.frozen? ⟨M+3,i,none⟩=false:=m.free i;let⟨g1,g2⟩:=E.o i;have l1:=wT a i;have l2:=wT b i;have l3:=ax.o i;let⟨x,j⟩:=aH (bP a i);let⟨y,B⟩:=aH (bP b i);let⟨c,hc⟩:=aH (lz a b i);rw[j]at p0 l1 g1 g2;rw[B]at Z l2 g1 g2;rw[hc]at l3 g1 g2⊢;have m1:IntKind.u64.wrap ((x:Int)+(y:Int))=((x+y:Nat):Int):=by have:=Fd (x+y) af;simpa using this
  have T:IntKind.u64.wrap ((x:Int)+(y:Int)+(c:Int))=((x+y+c:Nat):Int):=by have:=Fd (x+y+c) af;simpa using this
  have a1:=Fa (x+y+c) af;have ad:=(m.set i (aX ((x+y+c:Nat):Int))).set i (aX ((bP s i:Nat):Int));rw[rL,rL,List.set_set,Fb s i ab]at ad;rw[<-g1]at ad;let⟨az,C,l,W,ar,Q⟩:=Jh6 ad g1 g2 m D ae;let⟨L,J⟩:=Jh2 ah ac;clear m D ae ah ac ad g1 g2 j B hc;go_wp2;go_region;have ag:Hid (bI (wr.setCell ⟨M+3,i,none⟩ (aX ((x:Int)+(y:Int)+(c:Int)))).drew (M+3) 104 (dA ((gW s i).set i (x+y+c)))):=aa (by
   have d:=W.o.set i (aX ((x+y+c:Nat):Int));rw[rL]at d;rw[show((x:Int)+(y:Int)+(c:Int))=((x+y+c:Nat):Int) by omega];exact d)
  have aq:Hid (bI (wr.setCell ⟨M+3,i,none⟩ (aX ((x:Int)+(y:Int)+(c:Int)))).drew (M+2) 104 (dA (gW s 0))):=aa (ar.o.far i _ af);have P:Hid (bI (wr.setCell ⟨M+3,i,none⟩ (aX ((x:Int)+(y:Int)+(c:Int)))).drew (M+1) 104 (dA (dU b))):=aa (Q.o.far i _ af);have ao:Hid (bI (wr.setCell ⟨M+3,i,none⟩ (aX ((x:Int)+(y:Int)+(c:Int)))).drew M 104 (dA (dU a))):=aa (L.o.far i _ af);have ap:Hid (Below M w (wr.setCell ⟨M+3,i,none⟩ (aX ((x:Int)+(y:Int)+(c:Int)))).drew):=aa (J.o.setCell (p:=⟨M+3,i,none⟩) (by show M<=M+3;omega) _).drew;generalize(wr.setCell ⟨M+3,i,none⟩ (aX ((x:Int)+(y:Int)+(c:Int)))).drew=W5 at*
  have H:∃n:Nat,n=x+y+c:=⟨_,rfl⟩;obtain⟨n,H⟩:=H;have c5:W5.cell? ⟨M+3,i,none⟩=some (.int .u64 (n:Int)):=by
   rw[ag.o.c i,po _ _ (by rw[js,wV];omega),dy,List.getElem?_set_self Qci,H];rfl
  have f5:W5.frozen? ⟨M+3,i,none⟩=false:=ag.o.free i;rw[<-H]at ag C l a1;have am:Hid (bI (W5.setCell ⟨M+3,i,none⟩ (aX ((n%65536:Nat):Int))) (M+3) 104 (dA (gW s (i+1)))):=aa (by
   have d:=ag.o.set i (aX ((n%65536:Nat):Int));rw[rL,List.set_set,C.o,Fb s i ab]at d;rw[C.o];exact d)
  have e9:(n:Int)/65536=((lz a b (i+1):Nat):Int):=by rw[<-l.o];simp
  clear c0 f0 p0 Z m1 T H;go_wp2;go_roundw;exact⟨i+1,af,aw,rfl,am.o,aq.o.far i _ af,P.o.far i _ af,ao.o.far i _ af,ap.o.setCell (p:=⟨M+3,i,none⟩) (by show M<=M+3;omega) _⟩;exact mG ab
 ·have aB:¬((i:Int)<8):=af;obtain rfl:i=8:=af;rw[LV]at m;have av:Hid (bI wr (M+2) 104 bt):=aa D;have J:=aa ac;let⟨q0,q1,q2,q3,q4,q5,q6,q7⟩:wr.cell? ⟨M+3,0,none⟩=some (.int .u64 (bP s 0:Int))/\wr.cell? ⟨M+3,1,none⟩=some (.int .u64 (bP s 1:Int))/\wr.cell? ⟨M+3,2,none⟩=some (.int .u64 (bP s 2:Int))/\wr.cell? ⟨M+3,3,none⟩=some (.int .u64 (bP s 3:Int))/\wr.cell? ⟨M+3,4,none⟩=some (.int .u64 (bP s 4:Int))/\wr.cell? ⟨M+3,5,none⟩=some (.int .u64 (bP s 5:Int))/\wr.cell? ⟨M+3,6,none⟩=some (.int .u64 (bP s 6:Int))/\wr.cell? ⟨M+3,7,none⟩=some (.int .u64 (bP s 7:Int)):=⟨m.c 0,m.c 1,m.c 2,m.c 3,m.c 4,m.c 5,m.c 6,m.c 7⟩;have F:(((lz a b 8:Nat):Int)==0)=decide (lz a b 8=0):=by rw[Bool.eq_iff_iff];simp
  clear m D ae ah ac;go_wp2_with(refine fQ rfl 104 _ _ rfl rfl (M+2) (bf s) rfl rfl aj aD _ av.o rfl ?_;intro W5 P5;have PX:=aa P5;have s0:=P5.row.c 0;have s1:=P5.row.c 1;have s2:=P5.row.c 2;have s3:=P5.row.c 3;have s4:=P5.row.c 4;have S:=P5.row.c 5;have Y:=P5.row.c 6;have s7:=P5.row.c 7);refine wb (v:=.tuple #[.agg (bf s),.bool (decide (lz a b 8=0))]) (by simp[results,results42,go_sem,s0,s1,s2,s3,s4,S,Y,s7,F]) rfl ?_;have d:Below w w wr:=by rw[HM.o];exact J.o
  have h2:=PX.o.low d (by rw[HM.o];omega);rw[HM.o]at h2;exact⟨rfl,h2⟩
def qN(a b:Nat):Int:=if a<b then-1 else if b<a then 1 else 0
def LZ(a b:Nat)(ha:a<340282366920938463463374607431768211456)(hb:b<340282366920938463463374607431768211456)(w:bD):bG 43 #[.agg (dA (dU a)),.agg (dA (dU b))] w (bi (qN a b) w):=by
 let⟨M,X⟩:=aH w.heap.size;have f:dA (dU a)=(bf a):=rfl;have m:dA (dU b)=(bf b):=rfl;let⟨g,v⟩:=aH (w.alloc (bH (bf a) 104));have D:g.heap.size=M+1:=by rw[<-v,<-X];simp
 let⟨T,R⟩:=aH (g.alloc (bH (bf b) 104));have z:bI g M 104 (dA (dU a)):=by rw[<-v,<-X,f];exact bI.new w 104 _
 have t:bI T (M+1) 104 (dA (dU b)):=by rw[<-R,<-D,m];exact bI.new g 104 _
 have U:Below g.heap.size g T:=by rw[<-R];exact aI
 let⟨HA,N⟩:=Jh2 (z.keep U) t;have G:Hid (Below M w T):=aa (by
  rw[<-R,<-v,<-X];exact aI.alloc au _)
 have HU:=aa (fun i=>@LW a b i);have HT:=aa (abD ha hb);have I:Hid ((a<b->qN a b=-1)/\(b<a->qN a b=1)/\(a=b->qN a b=0)):=aa (by unfold qN;refine⟨fun h=>by rw[yc h],fun h=>by rw[ya af,yc h],fun h=>by rw[ya af,ya af]⟩);have E:=aa (fun i=>@LW b a i);let⟨V,P⟩:=aH (qN a b);rw[P]at I⊢;rw[f,m,X];clear z t U f m ha hb P;go_enter func43,ntmps43;go_wp2;go_loopw[5] (fun(vi:bE) (wr:bD)=>∃(k:Nat),k<=8/\vi=.int .i64 ((k:Int)-1)/\a/65536^k=b/65536^k/\bI wr (M+1) 104 (dA (dU b))/\bI wr M 104 (dA (dU a))/\Below M w wr) (fun(vi:bE) (_:bD)=>(intOf vi+1).toNat);exact⟨8,af,rfl,HT.o,N.o,HA.o,G.o⟩;obtain⟨k,W,rfl,u,p,n,l⟩:=hrel;cases k with
 |zero=>
  have F:¬((0:Int)<=((0:Nat):Int)-1):=af;rw[Nat.pow_zero,Nat.div_one,Nat.div_one]at u;have H:=I.o.2.2 u;have J:=aa l;clear u p n l;go_wp2;go_ret;exact⟨rfl,J.o⟩
 |succ i=>
  rw[show((i+1:Nat):Int)-1=(i:Int) by omega];have O:0<=(i:Int):=af;have C:(i:Int)<8:=af;have p0:wr.cell? ⟨M,i,none⟩=some (.int .u64 (bP a i:Nat)):=(n.c i).bu QcM;have Z:wr.cell? ⟨M+1,i,none⟩=some (.int .u64 (bP b i:Nat)):=(p.c i).bu QcM;have d:=HU.o i u;have q:=E.o i u.symm;let⟨x,j⟩:=aH (bP a i);let⟨y,B⟩:=aH (bP b i);rw[j]at p0 d q;rw[B]at Z d q;let⟨J,L,Q,r,Y⟩:=Jh5 l n p d q;have HI:Hid (i+1<=8):=aa W;clear u p n l j B d q W;by_cases A:x<y
  ·have g1:x<(y:Int):=af;have H:=I.o.1 (r.o.2 A);clear A;go_wp2;go_region;go_wp2;go_ret;exact⟨by rw[H];rfl,J.o.drew⟩
  have g1:¬x<(y:Int):=af;by_cases S:y<x
  ·have s:y<(x:Int):=af;have H:=I.o.2.1 (Y.o.2 S);clear A S;go_wp2;go_region;go_wp2;go_region;go_wp2;go_ret;exact⟨by rw[H];rfl,J.o.drew.drew⟩
  ·have s:¬y<(x:Int):=af;have he:=r.o.1 af;have K:=aa he;have e1:wrap64 ((i:Int)-1)=(i:Int)-1:=by unfold wrap64;have:=HI.o;omega
   clear A S he;go_wp2;go_region;go_wp2;go_region;go_wp2;go_roundw;exact⟨i,by have:=HI.o;omega,aw,K.o,Q.o,L.o,J.o.drew.drew⟩;simp[intOf]
def fO(x y:Nat):Nat->List Nat
 |0=>List.replicate 8 0
 |n+1=>(fO x y n).set (n/4+n%4) ((fO x y n).getD (n/4+n%4) 0+bP x (n/4)*bP y (n%4))
def L0(x y:Nat):∀n,(fO x y n).length=8:=by
 intro n;induction n with
 |zero=>rfl
 |succ n ih=>unfold fO;rw[js,ih]
def Ma(x y:Nat):∀n,∀z∈fO x y n,z<=4294836225*n:=by
 intro n;induction n with
 |zero=>intro z a;rw[List.eq_of_mem_replicate a];exact cH _
 |succ n ih=>
  intro z a;unfold fO at a;have d:bP x (n/4)*bP y (n%4)<=65535*65535:=qm (by have:=wT x (n/4);omega) (by have:=wT y (n%4);omega);have c:(fO x y n).getD (n/4+n%4) 0<=4294836225*n:=by
   rw[dy];cases h:(fO x y n)[n/4+n%4]? with
   |none=>exact cH _
   |some v=>exact ih v (vy h)
  rcases rT a with a|a
  ·have:=ih z a;omega
  ·rw[a];omega
def abE(x y i k:Nat)(hk:k<4):fO x y (4*i+k+1)=(fO x y (4*i+k)).set (i+k) ((fO x y (4*i+k)).getD (i+k) 0+bP x i*bP y k):=by have o:(4*i+k)/4=i:=af;have r:(4*i+k)%4=k:=af;rw[fO,o,r]
def jq(D:List Nat):Nat->List Nat×Nat
 |0=>(D,0)
 |j+1=>((jq D j).1.set j (((jq D j).1.getD j 0+(jq D j).2)%65536),((jq D j).1.getD j 0+(jq D j).2)/65536)
def abF(D:bF Nat)(h:D.length=8)(hb:∀z∈D,z<=68717379600):∀j,(jq D j).1.length=8/\(∀z∈(jq D j).1,z<=68717379600)/\(jq D j).2<=68717379600:=by
 intro j;induction j with
 |zero=>exact⟨h,hb,cH _⟩
 |succ j ih=>
  obtain⟨d,c,x⟩:=ih;have M:(jq D j).1.getD j 0<=68717379600:=by
   rw[dy];cases h:(jq D j).1[j]? with
   |none=>exact cH _
   |some v=>exact c v (vy h)
  unfold jq;refine⟨by rw[List.length_set];exact d, ?_,by dsimp only;omega⟩;intro z a;rcases rT a with a|a
  ·exact c z a
  ·rw[a];omega
def abG(x0 x1 x2 x3 y0 y1 y2 y3:Nat):(x0+65536*x1+4294967296*x2+281474976710656*x3)*(y0+65536*y1+4294967296*y2+281474976710656*y3)=x0*y0+65536*(x0*y1+x1*y0)+4294967296*(x0*y2+x1*y1+x2*y0)+281474976710656*(x0*y3+x1*y2+x2*y1+x3*y0)+18446744073709551616*(x1*y3+x2*y2+x3*y1)+1208925819614629174706176*(x2*y3+x3*y2)+79228162514264337593543950336*(x3*y3):=by grind
def abH(a b:Nat)(h1:a<65536)(h2:b<65536):a*b<=4294836225:=bW (qm (Nat.le_of_lt_succ h1) (Nat.le_of_lt_succ h2)) ah
variable{p:Nat}
def abI{v c d:Nat}(h:c*d=p)(hp:p<=4294836225)(hv:v<=68717379600):IntKind.u64.wrap ((c:Int)*(d:Int))=(p:Int)/\IntKind.u64.wrap ((v:Int)+(p:Int))=((v+p:Nat):Int):=by rw[<-Int.natCast_mul,h];simp only[IntKind.wrap,IntKind.signed,IntKind.bits];simp;omega
def abJ{v c:Nat}(hv:v<=68717379600)(hc:c<=68717379600):IntKind.u64.wrap ((v:Int)+(c:Int))=((v+c:Nat):Int):=by simp only[IntKind.wrap,IntKind.signed,IntKind.bits];simp;omega
def Mc(x:Nat)(h:x<18446744073709551616):x=bP x 0+65536*bP x 1+4294967296*bP x 2+281474976710656*bP x 3:=by unfold bP;simp only[Nat.pow_zero,Nat.div_one,Nat.reducePow];omega
def uO(P s T:Nat)(h:P=s+65536*T):bP P 0=s%65536:=by unfold bP;rw[Nat.pow_zero,Nat.div_one];omega
def Md(P s:Nat)(h:P=s):bP P 0=s%65536:=uO P s 0 af
def abK(x y:Nat)(hx:x<18446744073709551616)(hy:y<18446744073709551616):(jq (fO x y 16) 8).1=dU (x*y):=by
 have Y:=abG (bP x 0) (bP x 1) (bP x 2) (bP x 3) (bP y 0) (bP y 1) (bP y 2) (bP y 3);rw[<-Mc x hx,<-Mc y hy]at Y;have Z:fO x y 16=[0+bP x 0*bP y 0,0+bP x 0*bP y 1+bP x 1*bP y 0,0+bP x 0*bP y 2+bP x 1*bP y 1+bP x 2*bP y 0,0+bP x 0*bP y 3+bP x 1*bP y 2+bP x 2*bP y 1+bP x 3*bP y 0,0+bP x 1*bP y 3+bP x 2*bP y 2+bP x 3*bP y 1,0+bP x 2*bP y 3+bP x 3*bP y 2,0+bP x 3*bP y 3,0]:=by
  simp[fO,qY,-Nat.zero_add]
 simp only[fW]at Z;rw[Z];generalize R:bP x 0*bP y 0=c0 at*;generalize t:bP x 0*bP y 1+bP x 1*bP y 0=c1 at*;generalize d:bP x 0*bP y 2+bP x 1*bP y 1+bP x 2*bP y 0=c2 at*;generalize i:bP x 0*bP y 3+bP x 1*bP y 2+bP x 2*bP y 1+bP x 3*bP y 0=c3 at*;generalize H:bP x 1*bP y 3+bP x 2*bP y 2+bP x 3*bP y 1=c4 at*;generalize a:bP x 2*bP y 3+bP x 3*bP y 2=c5 at*;generalize b:bP x 3*bP y 3=c6 at*;generalize x*y=P at*;clear Z R t d i H a b hx hy;have A:P=c0+65536*(c1+65536*(c2+65536*(c3+65536*(c4+65536*(c5+65536*c6))))):=af;clear Y;have p:∀s T c:Nat,(s+65536*(c+T))/65536=(c+s/65536)+T:=fun s T c=>af;have G:=uO _ _ _ A;have E:=ym (·/65536) A;simp only[p]at E;have o:=uO _ _ _ E;have g:=ym (·/65536) E;simp only[p]at g;have k:=uO _ _ _ g;have B:=ym (·/65536) g;simp only[p]at B;have Q:=uO _ _ _ B;have N:=ym (·/65536) B;simp only[p]at N;have U:=uO _ _ _ N;have l:=ym (·/65536) N;simp only[p]at l;have h:=uO _ _ _ l;have u:=ym (·/65536) l;simp only[show∀s c:Nat,(s+65536*c)/65536=c+s/65536 from fun s c=>af]at u;have f:=Md _ _ u;have r:=ym (·/65536) u;have j:=Md _ _ r;unfold dU;simp only[abt];rw[G,o,k,Q,U,h,f,j];simp only[jq,List.getD_cons_zero,List.getD_cons_succ,iO,iP,gg,fW]
def Me(x y:Nat)(hx:x<18446744073709551616)(hy:y<18446744073709551616)(w:bD):bG 40 #[aX x,aX y] w (bi (.agg (dA (dU (x*y)))) w):=by
 let⟨M,hM⟩:=aH w.heap.size;have T:=aa (fun W=>Fc x hx W);have HY:=aa (fun W=>Fc y hy W);let⟨U,aS,aL,X⟩:=Jh4 (abK x y hx hy) (Ma x y) (L0 x y) (abE x y);have V:=aa (abF (fO x y 16) (L0 x y 16) (fun z hz=>by have:=Ma x y 16 z hz;omega));let⟨g,ar⟩:=aH (w.alloc (bH bt 104));have R:Hid (bI g M 104 bt):=aa (by rw[<-ar,<-hM];exact bI.new w 104 _);have s:Hid (Below w w g):=aa (by rw[<-ar];exact aI);have HM:=aa hM;let⟨P,hP⟩:=aH (x*y);rw[hP]at U⊢;have aG:dA (dU x)=(bf x):=rfl;have aE:dA (dU y)=(bf y):=rfl;rw[aG]at T;rw[aE]at HY;clear hx hy hP aG aE;go_enter func40,ntmps40;go_wp2_with fail;refine(T.o _).bC ?_;rintro e w2⟨rfl,c2⟩;let⟨Z,Q⟩:=Jh2 (R.o.keep c2) (s.o.bu (c2.bC s.o.size));have Y:Hid (bI (aZ w2 bt 104) w2 104 bt):=aa (bI.new w2 104 _);have C:Hid (Below w w (aZ w2 bt 104)):=aa (Q.o.alloc Q.o.size _);have ad:=aa (Z.o.alloc (bH bt 104));clear ar c2;go_wp2_with(refine fQ rfl 104 _ _ rfl rfl w2 (bf x) rfl rfl aj aD _ Y.o rfl ?_;intro W5 P5;have q:=aa P5;clear P5);have K:Hid (bI W5 w2 104 (dA (dU x))):=aa q.o.row;have ap:Hid (bI W5 M 104 bt):=aa ((q.o.far M (mi Z.o.lt)).bu ad.o);have ak:Hid (Below w w W5):=aa (q.o.low C.o Q.o.size);have aO:Hid (M≠w2):=aa (mi Z.o.lt);clear R Z ad s Q C Y q;let⟨A,aK⟩:=aH w2.heap.size;rw[aK]at K aO⊢;clear aK;refine(HY.o _).bC ?_;rintro e F⟨rfl,D⟩;let⟨N,an,d⟩:=Jh3 (K.o.keep D) (ap.o.keep D) (ak.o.bu (D.bC ak.o.size));have Y:Hid (bI (aZ F bt 104) F 104 bt):=aa (bI.new F 104 _);clear D;go_wp2_with(refine fQ rfl 104 _ _ rfl rfl F (bf y) rfl rfl aj aD _ Y.o rfl ?_;intro h P7;have q:=aa P7;clear P7);have ao:Hid (bI h F 104 (dA (dU y))):=aa q.o.row;have av:Hid (bI h A 104 (dA (dU x))):=aa ((q.o.far A (mi N.o.lt)).bu (N.o.alloc _));have b:Hid (bI h M 104 bt):=aa ((q.o.far M (mi an.o.lt)).bu (an.o.alloc _));have am:Hid (Below w w h):=aa (q.o.low (d.o.alloc d.o.size _) d.o.size);have aV:Hid (M≠F.heap.size/\A≠F):=aa ⟨mi an.o.lt,mi N.o.lt⟩;clear K ap ak N an d Y q T HY;let⟨g6,aB⟩:=aH F.heap.size;rw[aB]at ao aV⊢;clear aB;have az:Hid (bI (aZ h bt 104) h 104 (dA (fO x y 0))):=aa (bI.new h 104 _);let⟨J,u,aU,aP⟩:=Jh4 (av.o.alloc (bH bt 104)) (ao.o.alloc (bH bt 104)) (b.o.alloc (bH bt 104)) (am.o.alloc am.o.size (bH bt 104));have n:Hid (M≠h.heap.size/\A≠h.heap.size/\g6≠h.heap.size/\w.heap.size<=h):=aa ⟨mi b.o.lt,mi av.o.lt,mi ao.o.lt,am.o.size⟩;clear av ao b am;let⟨g7,aA⟩:=aH h.heap.size;rw[aA]at az n⊢;clear aA;generalize h.alloc (bH bt 104)=W8 at*;go_loopw[8] (fun(vi:bE) (wr:bD)=>∃(i:Nat),i<=4/\vi=i/\bI wr g7 104 (dA (fO x y (4*i)))/\bI wr A 104 (dA (dU x))/\bI wr g6 104 (dA (dU y))/\bI wr M 104 bt/\Below w w wr) (fun(vi:bE) (_:bD)=>4-(intOf vi).toNat);exact⟨0,af,rfl,az.o,J.o,u.o,aU.o,aP.o⟩;obtain⟨i,hi,rfl,m,ae,ag,O,ab⟩:=hrel;let⟨H,ai⟩:=Jh2 ae ag
 let⟨ac,R,aq⟩:=Jh3 O m ab;clear m ae ag O ab;by_cases aQ:i<4
 ·have aW:(i:Int)<4:=af;go_wp2;go_loopw[9] (fun(vk:bE) (wr:bD)=>∃(k:Nat),k<=4/\vk=k/\bI wr g7 104 (dA (fO x y (4*i+k)))/\bI wr A 104 (dA (dU x))/\bI wr g6 104 (dA (dU y))/\bI wr M 104 bt/\Below w w wr) (fun(vi:bE) (_:bD)=>4-(intOf vi).toNat);exact⟨0,af,rfl,R.o,H.o,ai.o,ac.o,aq.o⟩;clear H ai ac R aq;obtain⟨k,hk,rfl,m,ae,ag,O,ab⟩:=hrel;by_cases a:k<4
  ·have a2:(k:Int)<4:=af;let⟨Z,au,H,ai⟩:=Jh4 m ab ae ag
   have ac:=aa O;have a0:=aL.o (4*i+k);have e1:wrap64 ((i:Int)+(k:Int))=((i+k:Nat):Int):=aC;have c0:wr.cell? ⟨g7,i+k,none⟩=some (.int .u64 ((fO x y (4*i+k)).getD (i+k) 0:Nat)):=(m.c (i+k)).bu (po _ _ af);have f0:wr.frozen? ⟨g7,i+k,none⟩=false:=m.free (i+k);have px:wr.cell? ⟨A,i,none⟩=some (.int .u64 (bP x i:Nat)):=(ae.c i).bu (by rw[po _ _ (show i<8 from af),wU _ _ af]);have py:wr.cell? ⟨g6,k,none⟩=some (.int .u64 (bP y k:Nat)):=(ag.c k).bu (by rw[po _ _ (show k<8 from af),wU _ _ af]);have hv:((fO x y (4*i+k)).getD (i+k) 0)<=68717379600:=by
    rw[dy,dG af];have:=aS.o (4*i+k) _ (cZ (show i+k<(fO x y (4*i+k)).length by omega))
    show(fO x y (4*i+k))[i+k]<=_
    omega
   let⟨v,al⟩:=aH ((fO x y (4*i+k)).getD (i+k) 0);have f:=aa (X.o i k a);rw[al]at c0 hv f;have b1:0<=((i+k:Nat):Int):=af;have b2:((i+k:Nat):Int)<8:=af;have b3:(i:Int)<8:=af;have b4:(k:Int)<8:=af;have b5:0<=(i:Int):=af;have b6:0<=(k:Int):=af;have ay:=abH (bP x i) (bP y k) (wT x i) (wT y k);let⟨p,hp⟩:=aH (bP x i*bP y k);rw[hp]at ay;let⟨m1,m2⟩:=abI hp ay hv;rw[hp]at f;clear m ab ae ag O al ay hp;go_wp2;go_region;have ad:Hid (bI (wr.setCell ⟨g7,i+k,none⟩ (aX ((v:Int)+(p:Int)))).drew g7 104 (dA (fO x y (4*i+k+1)))):=aa (by
    have h1:=Z.o.set (i+k) (aX (((v+p:Nat)):Int));rw[rL,<-f.o]at h1;rw[show((v:Int)+(p:Int))=((v+p:Nat):Int) by omega];exact h1)
   have r:Hid (bI (wr.setCell ⟨g7,i+k,none⟩ (aX ((v:Int)+(p:Int)))).drew A 104 (dA (dU x))):=aa (H.o.far (i+k) _ n.o.2.1);have aT:Hid (bI (wr.setCell ⟨g7,i+k,none⟩ (aX ((v:Int)+(p:Int)))).drew g6 104 (dA (dU y))):=aa (ai.o.far (i+k) _ n.o.2.2.1);have aM:Hid (bI (wr.setCell ⟨g7,i+k,none⟩ (aX ((v:Int)+(p:Int)))).drew M 104 bt):=aa (ac.o.far (i+k) _ n.o.1);have E:Hid (Below w w (wr.setCell ⟨g7,i+k,none⟩ (aX ((v:Int)+(p:Int)))).drew):=aa (by
    exact(au.o.setCell (p:=⟨g7,i+k,none⟩) n.o.2.2.2 _).drew)
   generalize(wr.setCell ⟨g7,i+k,none⟩ (aX ((v:Int)+(p:Int)))).drew=W4 at*
   clear c0 f0 px py m1 m2 e1 hv b1 b2;go_wp2;go_roundw;exact⟨k+1,af,aw,ad.o,r.o,aT.o,aM.o,E.o⟩;exact mG a
  ·have a3:¬((k:Int)<4):=af;have B:Hid (k=4):=aa af;have ad:Hid (bI wr g7 104 (dA (fO x y (4*(i+1))))):=aa (by rw[show 4*(i+1)=4*i+k by rw[B.o];omega];exact m);have E:Hid (bI wr A 104 (dA (dU x))/\bI wr g6 104 (dA (dU y))/\bI wr M 104 bt/\Below w w wr):=aa ⟨ae,ag,O,ab⟩;clear m ab ae ag O;go_wp2;go_roundw;exact⟨i+1,af,aw,ad.o,E.o⟩;exact mG aQ
 ·have a5:¬((i:Int)<4):=af;have HI:Hid (i=4):=aa af;have ad:Hid (bI wr g7 104 (dA (jq (fO x y 16) 0).1)):=aa (by have:=R.o;rw[HI.o]at this;exact this);clear H ai R;go_wp2;go_loopw[11,10] (fun(vj:bE) (vc:bE) (wr:bD)=>∃(j:Nat),j<=8/\vj=j/\vc=.int .u64 ((jq (fO x y 16) j).2:Nat)/\bI wr g7 104 (dA (jq (fO x y 16) j).1)/\bI wr M 104 bt/\Below w w wr) (fun(vi:bE) (_:bE) (_:bD)=>8-(intOf vi).toNat);exact⟨0,af,rfl,rfl,ad.o,ac.o,aq.o⟩;clear ad ac aq;obtain⟨j,hj,rfl,rfl,m,O,ab⟩:=hrel;by_cases a:j<8
  ·have a6:(j:Int)<8:=af;have G:0<=(j:Int):=af;let⟨o1,o2,S⟩:=V.o j;have ah:Hid (jq (fO x y 16) (j+1)=((jq (fO x y 16) j).1.set j (((jq (fO x y 16) j).1.getD j 0+(jq (fO x y 16) j).2)%65536),((jq (fO x y 16) j).1.getD j 0+(jq (fO x y 16) j).2)/65536)):=aa rfl;let⟨CN,ax⟩:=aH (jq (fO x y 16) (j+1));have aF:=aa ax;rw[ax]at ah;clear ax;let⟨CJ,aJ⟩:=aH (jq (fO x y 16) j);rw[aJ]at ah o1 o2 S m⊢;clear aJ;obtain⟨L,c⟩:=CJ;dsimp only at o1 o2 S ah m⊢;have c0:wr.cell? ⟨g7,j,none⟩=some (.int .u64 (L.getD j 0:Nat)):=(m.c j).bu (po _ _ af);have f0:wr.frozen? ⟨g7,j,none⟩=false:=m.free j;have hv:L.getD j 0<=68717379600:=by
    rw[dy,dG af];exact o2 _ (cZ (show j<L from af))
   let⟨v,al⟩:=aH (L.getD j 0);rw[al]at c0 hv ah;have m2:=abJ hv S;have a1:=Fa (v+c) af;let⟨Z,au,ac⟩:=Jh3 m ab O;clear m ab O al o1 o2;have aR:Hid (bI ((wr.setCell ⟨g7,j,none⟩ (aX ((v:Int)+(c:Int)))).setCell ⟨g7,j,none⟩ (aX (bits BinOp.and IntKind.u64 ((v:Int)+(c:Int)) 65535))) g7 104 (dA CN.1)):=aa (by
    rw[show((v:Int)+(c:Int))=((v+c:Nat):Int) by omega,a1];have h1:=(Z.o.set j (aX ((v+c:Nat):Int))).set j (aX (((v+c)%65536:Nat):Int));rw[rL,rL,List.set_set]at h1;rw[ah.o];exact h1)
   have ak:Hid (((v:Int)+(c:Int))/65536=(CN.2:Int)):=aa (by rw[ah.o];dsimp only;omega);have ap:Hid (bI ((wr.setCell ⟨g7,j,none⟩ (aX ((v:Int)+(c:Int)))).setCell ⟨g7,j,none⟩ (aX (bits BinOp.and IntKind.u64 ((v:Int)+(c:Int)) 65535))) M 104 bt):=aa ((ac.o.far j _ n.o.1).far j _ n.o.1);have aN:Hid (Below w w ((wr.setCell ⟨g7,j,none⟩ (aX ((v:Int)+(c:Int)))).setCell ⟨g7,j,none⟩ (aX (bits BinOp.and IntKind.u64 ((v:Int)+(c:Int)) 65535)))):=aa ((au.o.setCell (p:=⟨g7,j,none⟩) n.o.2.2.2 _).setCell (p:=⟨g7,j,none⟩) n.o.2.2.2 _);go_wp2_with fail;exact⟨⟨j+1,af,aw,by rw[ak.o,aF.o],by rw[aF.o];exact aR.o,ap.o,aN.o⟩,mG a⟩
  ·have a4:¬((j:Int)<8):=af;have HJ:Hid (j=8):=aa af;rw[HJ.o,U.o]at m;let⟨q0,q1,q2,q3,q4,q5,q6,q7⟩:wr.cell? ⟨g7,0,none⟩=some (.int .u64 (bP P 0:Int))/\wr.cell? ⟨g7,1,none⟩=some (.int .u64 (bP P 1:Int))/\wr.cell? ⟨g7,2,none⟩=some (.int .u64 (bP P 2:Int))/\wr.cell? ⟨g7,3,none⟩=some (.int .u64 (bP P 3:Int))/\wr.cell? ⟨g7,4,none⟩=some (.int .u64 (bP P 4:Int))/\wr.cell? ⟨g7,5,none⟩=some (.int .u64 (bP P 5:Int))/\wr.cell? ⟨g7,6,none⟩=some (.int .u64 (bP P 6:Int))/\wr.cell? ⟨g7,7,none⟩=some (.int .u64 (bP P 7:Int)):=⟨m.c 0,m.c 1,m.c 2,m.c 3,m.c 4,m.c 5,m.c 6,m.c 7⟩;let⟨t,ac⟩:=Jh2 ab O;clear m ab O;go_wp2_with(refine fQ rfl 104 _ _ rfl rfl M (bf P) rfl rfl aj aD _ ac.o rfl ?_;intro W5 P5;have q:=aa P5;have s0:=P5.row.c 0;have I:=P5.row.c 1;have s2:=P5.row.c 2;have s3:=P5.row.c 3;have s4:=P5.row.c 4;have s5:=P5.row.c 5;have s6:=P5.row.c 6;have s7:=P5.row.c 7);refine wb (v:=.agg (bf P)) (by simp[results,results40,go_sem,s0,I,s2,s3,s4,s5,s6,s7]) rfl ?_;have l:=q.o.low t.o (Nat.le_of_eq HM.o);rw[HM.o]at l;exact⟨rfl,l⟩
variable{w:bD}{g:Nat}
def tP(h:bI w g 104 (dA (dU n))):w.cell? (be g 0)=some (.int .u64 (bP n 0:Int))/\w.cell? (be g 1)=some (.int .u64 (bP n 1:Int))/\w.cell? (be g 2)=some (.int .u64 (bP n 2:Int))/\w.cell? (be g 3)=some (.int .u64 (bP n 3:Int))/\w.cell? (be g 4)=some (.int .u64 (bP n 4:Int))/\w.cell? (be g 5)=some (.int .u64 (bP n 5:Int))/\w.cell? (be g 6)=some (.int .u64 (bP n 6:Int))/\w.cell? (be g 7)=some (.int .u64 (bP n 7:Int)):=⟨h.c 0,h.c 1,h.c 2,h.c 3,h.c 4,h.c 5,h.c 6,h.c 7⟩
structure AM(gs ls:List Int):Prop where
 len:ls.length=gs.length
 n:gs.length<=1000
 pos:(∀x∈gs,0<=x)/\∀x∈ls,0<=x
 fit:cd gs+cd ls<=9223372036854775807
 qd:(∀x∈ls,x=0)∨(0<cd gs+cd ls/\∀i,i<gs.length->cd gs*(gs.getD i 0+ls.getD i 0)<gs.getD i 0*(cd gs+cd ls)+(cd gs+cd ls)/\gs.getD i 0*(cd gs+cd ls)<cd gs*(gs.getD i 0+ls.getD i 0)+(cd gs+cd ls))
def qO:∀(l:bF Int) (k:Nat),(∀x∈l,0<=x)->0<=cd (l.take k)/\cd (l.take k)<=cd l:=by
 intro l k h;have d:∀x∈l.take k,0<=x:=fun x hx=>h x (rW hx);have c:∀x∈l.drop k,0<=x:=fun x hx=>h x (tW hx);have e:cd l=cd (l.take k)+cd (l.drop k):=by rw[<-uD,rV]
 have a:∀m:bF Int,(∀x∈m,0<=x)->0<=cd m:=by
  intro m;induction m with
  |nil=>intro _;exact kh _
  |cons x m ih=>
   intro Z;rw[i6];have:=Z x au
   have:=ih fun y hy=>Z y (by simp[hy])
   omega
 have:=a _ d
 have:=a _ c
 omega
variable{ls:bF Int}
def abL(h:k<ls):(ls.take (k+1)).any (fun x=>decide (0<x))=((ls.take k).any (fun x=>decide (0<x))||decide (0<ls[k])):=by rw[fj h,List.any_append];simp
def abM{gs:bF Int}(h:AM gs ls)(hi:i<gs)(hl:¬∀x∈ls,x=0):∃G A x y:Nat,cd gs=G/\cd gs+cd ls=A/\gs.getD i 0=x/\ls.getD i 0=y/\x+y<=9223372036854775807/\G<=A/\A<=9223372036854775807/\G*(x+y)<x*A+A/\x*A<G*(x+y)+A:=by
 let⟨O,g⟩:=h.qd.resolve_left hl;have C:i<ls.length:=by rw[h.len];exact hi
 have a:gs.getD i 0=gs[i]:=by rw[dy,dG hi];rfl
 have c:ls.getD i 0=ls[i]:=by rw[dy,dG C];rfl
 let⟨Z,Y,q,u,K,r⟩:=Jt6 (h.pos.1 _ (cZ hi)) (h.pos.2 _ (cZ C)) (qO gs (i+1) h.pos.1) (qO ls (i+1) h.pos.2) (qO gs i h.pos.1) (qO ls i h.pos.2);rw[xK hi]at q;rw[xK C]at u;have E:=h.fit;let⟨b,v⟩:=g i hi;rw[a,c]at b v⊢;let⟨G,n⟩:∃G:Nat,cd gs=G:=⟨(cd gs).toNat,af⟩;let⟨A,d⟩:∃A:Nat,cd gs+cd ls=A:=⟨(cd gs+cd ls).toNat,af⟩;let⟨x,j⟩:∃x:Nat,gs[i]=x:=⟨gs[i].toNat,af⟩;let⟨y,B⟩:∃y:Nat,ls[i]=y:=⟨ls[i].toNat,af⟩;rw[d]at b v;rw[n,j,B]at b v;refine⟨G,A,x,y,n,d,j,B,af,af,af, ?_, ?_⟩
 ·have:((G*(x+y):Nat):Int)<((x*A+A:Nat):Int):=aG b
  omega
 ·have:((x*A:Nat):Int)<((G*(x+y)+A:Nat):Int):=aG v
  omega
def Mf(ha:a<=9223372036854775807)(hb:b<=9223372036854775807):a*b<=85070591730234615847396907784232501249:=bW (qm ha hb) ah
def AN(n:Nat)(h:n<=9223372036854775807):IntKind.u64.wrap n=(n:Int):=Fd n af
def abN{G A x y:Nat}(b1:x+y<=9223372036854775807)(b3:G<=A)(b4:A<=9223372036854775807)(f1:G*(x+y)<x*A+A)(f2:x*A<G*(x+y)+A):
  (G<18446744073709551616/\x+y<18446744073709551616/\x<18446744073709551616/\A<18446744073709551616)/\(G*(x+y)<340282366920938463463374607431768211456/\x*A<340282366920938463463374607431768211456/\A<340282366920938463463374607431768211456)/\(x*A+A<340282366920938463463374607431768211456/\G*(x+y)+A<340282366920938463463374607431768211456)/\qN (x*A+A) (G*(x+y))=1/\qN (x*A) (G*(x+y)+A)=-1/\IntKind.u64.wrap G=(G:Int)/\IntKind.u64.wrap x=(x:Int)/\IntKind.u64.wrap A=(A:Int)/\IntKind.u64.wrap ((x+y:Nat):Int)=((x+y:Nat):Int)/\wrap64 ((x:Int)+(y:Int))=((x+y:Nat):Int)/\IntKind.i64.wrap ((x:Int)+(y:Int))=((x+y:Nat):Int):=by
 have E:=Mf (a:=G) (b:=x+y) af b1;have H:=Mf (a:=x) (b:=A) af b4;refine⟨⟨af,af,af,af⟩,⟨af,af,af⟩,⟨af,af⟩, ?_, ?_,AN _ af,AN _ af,AN _ af,AN _ af, ?_, ?_⟩
 ·unfold qN;rw[ya af,yc af]
 ·unfold qN;rw[yc af]
 ·rw[jF _ af];rfl
 ·rw[gI _ af];rfl
variable{W:bD}
def Mg{z:Array bE}(h8:z.size=8)(hz:bI W g 104 z)(n:Nat):Sem.run prog (storeCells (be g 0) (List.map (fun n:Nat=>Value.int .u64 (n:Int)) (dU n))) W=.ok () (W.setRow g (dA (dU n)))/\pJ W g 104 (dA (dU n)) (W.setRow g (dA (dU n))):=by
 refine⟨?_,setRow_heap _ _ _ _ _ _ hz,⟨rfl,rfl,rfl,au,fun k _ hk=>setRow_other _ _ _ _ (aG hk)⟩,au,fun i hi=>setRow_other _ _ _ _ hi⟩;have h:=run_storeCells_from (P:=prog) g 104 (List.map (fun n:Nat=>Value.int .u64 (n:Int)) (dU n)) 0 z W hz (by rw[h8];rfl) (fun v hv=>by
  obtain⟨m,_,rfl⟩:=Fy.1 hv;rfl)
 simpa using h
variable{cs:Array bE}
def AO{w6 W7:bD}(c6:Below W W w6)(P:pJ (aZ w6 bt 104) w6 104 cs W7):Below W W W7/\bI W7 w6 104 cs:=⟨P.low (c6.alloc c6.size _) c6.size,P.row⟩
def abO(vg vl:bE)(gs ls:bF Int)(w:bD)(hg:Sl eI 1 w vg gs)(hl:Sl eI 1 w vl ls)(h:AM gs ls):bG 12 #[.agg #[vg,vl]] w (bi (.bool true) w):=by
 obtain⟨ag,kg,rfl,b6,cq,bh⟩:=hg.oy;obtain⟨al,l,rfl,bk,ai,bv⟩:=hl.oy;let⟨W1,v⟩:=aH (w.alloc (bH #[.slice ag gs kg,.slice al ls.length l] 47));have ap:Hid (bI W1 w 47 #[.slice ag gs kg,.slice al ls.length l]):=aa (by rw[<-v];exact bI.new w 47 _);have s:Hid (Below w w W1):=aa (by rw[<-v];exact aI);let⟨M,hM⟩:=aH w.heap.size;let⟨HM,bx,bs,S⟩:=Jh4 hM bh bv h;have hn:=h.n;have g:=h.len;rw[g]at v ap bk⊢;have av:=aa g;let⟨n,a6⟩:=aH gs.length;have ah:=aa a6;rw[a6]at v ap hn b6 bk⊢;let⟨p0,p1⟩:=ap.o.k2 0 1;rw[hM]at ap p0 p1;unfold maxLen at cq ai;clear hg hl bh bv h g a6;go_enter func12,ntmps12;go_wp2;go_loopw[6,3,4,5] (fun(vi:bE) (vg:bE) (va:bE) (vb:bE) (wr:bD)=>∃(i:Nat),i<=n/\vi=.int .i64 i/\vg=.int .i64 (cd (gs.take i))/\va=.int .i64 (cd (gs.take i)+cd (ls.take i))/\vb=.bool ((ls.take i).any fun x=>decide (0<x))/\bI wr M 47 #[.slice ag n kg,.slice al n l]/\Below w w wr) (fun(vi:bE) (_:bE) (_:bE) (_:bE) (_:bD)=>n-(intOf vi).toNat);exact⟨0,cH _,rfl,rfl,rfl,rfl,ap.o,s.o⟩;obtain⟨i,hi,rfl,rfl,rfl,rfl,hb,ax⟩:=hrel;let⟨N,HL⟩:=Jh2 hb ax;let⟨p0,p1⟩:=N.o.k2 0 1;clear hb ax;by_cases ad:i<n
 ·have cw:0<=(i:Int):=af;have cv:i<(n:Int):=af;obtain⟨b,m,rfl,ar,am⟩:=bx.o (by rw[ah.o];omega);obtain⟨t,I,rfl,ak,ab⟩:=bs.o (by rw[av.o,ah.o];omega);have C:i<gs.length:=by rw[ah.o];exact ad
  have Z:i<ls.length:=by rw[av.o,ah.o];exact ad
  let⟨g0,l0,t1,t2,t3,t4⟩:=Jt6 ((HL.o.c (p:=⟨b,m+i,none⟩) ar).bu (am i C)) ((HL.o.c (p:=⟨t,I+i,none⟩) ak).bu (ab i Z)) (qO gs (i+1) S.o.pos.1) (qO ls (i+1) S.o.pos.2) (qO gs i S.o.pos.1) (qO ls i S.o.pos.2);let⟨e1,r,e3,bA,y1,y2⟩:=Jt6 (xK C) (xK Z) (abL Z) S.o.fit (S.o.pos.1 _ (cZ C)) (S.o.pos.2 _ (cZ Z));let⟨S1,a4⟩:=aH (cd (gs.take i));let⟨S2,R⟩:=aH (cd (ls.take i));let⟨S3,aE⟩:=aH ((ls.take i).any (fun x=>decide (0<x)));rw[a4,R,aE];rw[a4]at e1 t3;rw[R]at r t4;rw[aE]at e3;let⟨E1,E2,E3⟩:=Jh3 e1 r e3;let⟨x,hx⟩:=aH (gs[i]);let⟨y,hy⟩:=aH (ls[i]);rw[hx]at g0 e1 E1 y1;rw[hy]at l0 r E2 E3 y2;have D:Hid (S1+S2+x+y=cd (gs.take (i+1))+cd (ls.take (i+1))):=aa (by rw[E1.o,E2.o];omega);have m1:wrap64 (S1+x)=S1+x:=aC;have m2:wrap64 (S1+S2+x)=S1+S2+x:=aC;have m3:wrap64 (S1+S2+x+y)=S1+S2+x+y:=aC;clear am ab hx hy a4 R aE t1 t2 t3 t4 e1 r e3 bA C Z;cases S3 with
  |true=>
   go_wp2;go_region;go_wp2_with fail;exact⟨⟨i+1,ad,rfl,by first|rw[m1,E1.o]|rw[E1.o],by first|rw[m3,D.o]|rw[D.o],by rw[E3.o];rfl,N.o,HL.o.drew⟩,mG ad⟩
  |false=>
   by_cases bB:0<y
   ·go_wp2;go_region;go_wp2_with fail;exact⟨⟨i+1,ad,rfl,by first|rw[m1,E1.o]|rw[E1.o],by first|rw[m3,D.o]|rw[D.o],by rw[E3.o];simp[bB],N.o,HL.o.drew⟩,mG ad⟩
   ·go_wp2;go_region;go_wp2_with fail;exact⟨⟨i+1,ad,rfl,by first|rw[m1,E1.o]|rw[E1.o],by first|rw[m3,D.o]|rw[D.o],by rw[E3.o];simp[bB],N.o,HL.o.drew⟩,mG ad⟩
 ·have bw:¬(i<(n:Int)):=af;have HI:Hid (i=n):=aa af;have e1:gs.take i=gs:=eU (by rw[ah.o];omega);have r:ls.take i=ls:=eU (by rw[av.o,ah.o];omega);rw[e1,r];clear e1 r;by_cases hz:∀x∈ls,x=0
  ·have ae:(ls.any fun x=>decide (0<x))=false:=by
    rw[mP];intro x hx;rw[hz x hx];decide
   rw[ae];clear hz ae bw;go_wp2;go_loopw[7] (fun(vi:bE) (wr:bD)=>∃(j:Nat),j<=n/\vi=j/\bI wr M 47 #[.slice ag n kg,.slice al n l]/\Below w w wr) (fun(vi:bE) (_:bD)=>n-(intOf vi).toNat);exact⟨0,cH _,rfl,N.o,HL.o⟩;obtain⟨j,hj,rfl,F,ai⟩:=hrel;have q0:=bI.c F 0;have a:=aa ai;clear F ai;by_cases ac:j<n
   ·have a9:j<(n:Int):=af;clear ac;go_wp2;go_ret;exact⟨rfl,by have:=a.o;rwa[HM.o]at this⟩
   ·have a9:¬(j<(n:Int)):=af;clear ac;go_wp2;go_ret;exact⟨rfl,by have:=a.o;rwa[HM.o]at this⟩
  ·have b7:=aa (fun i (hi:i<gs.length)=>abM S.o hi hz);have ae:(ls.any fun x=>decide (0<x))=true:=by
    refine Classical.byContradiction fun hne=>hz fun x hx=> ?_;rw[Bool.not_eq_true,mP]at hne;have h1:=hne x hx;have h2:=S.o.pos.2 x hx;simp at h1;omega
   rw[ae];clear hz ae bw;go_wp2;go_loopw[7] (fun(vi:bE) (wr:bD)=>∃(j:Nat),j<=n/\vi=j/\bI wr M 47 #[.slice ag n kg,.slice al n l]/\Below w w wr) (fun(vi:bE) (_:bD)=>n-(intOf vi).toNat);exact⟨0,cH _,rfl,N.o,HL.o⟩;obtain⟨j,hj,rfl,F,ai⟩:=hrel;have q0:=bI.c F 0;have q1:=bI.c F 1;let⟨aG,a⟩:=Jh2 F ai;clear F ai p0 p1;by_cases ac:j<n
   rotate_left
   ·have a9:¬(j<(n:Int)):=af;clear ac;go_wp2;go_ret;exact⟨rfl,by have:=a.o;rwa[HM.o]at this⟩
   have a9:j<(n:Int):=af;have cx:0<=(j:Int):=af;have C:j<gs:=by rw[ah.o];exact ac
   have Z:j<ls.length:=by rw[av.o,ah.o];exact ac
   obtain⟨b,m,rfl,ar,am⟩:=bx.o af;obtain⟨t,I,rfl,ak,ab⟩:=bs.o af;have g0:=(a.o.c (p:=(b,m+j)) ar).bu (am j C);have l0:=(a.o.c (p:=(t,I+j)) ak).bu (ab j Z);let⟨G,A,x,y,e1,r,e3,e4,b1,b3,b4,f1,f2⟩:=b7.o j C;rw[dy,dG C]at e3;rw[dy,dG Z]at e4;have e3:gs[j]=x:=e3;have e4:ls[j]=y:=e4;rw[e3]at g0;rw[e4]at l0;rw[r,e1];let⟨ck,bT⟩:=Jh2 (am j C) (ab j Z);rw[e3]at ck;rw[e4]at bT;clear e3 e4;have cf:Hid (IntKind.i64.wrap ((j:Int)+1)=((j+1:Nat):Int)):=aa (by rw[gI _ af];rfl);have H:=aa ac;let⟨⟨k1,k2,k3,k4⟩,⟨k5,k6,k7⟩,⟨k8,k9⟩,aN,aS,u1,u5,u6,u4,u3,u2⟩:=abN b1 b3 b4 f1 f2;let⟨z,hz⟩:=aH (x+y);rw[hz]at k2 k5 k9 aN aS u4 u3 u2;have a2:=fun W=>Me G z k1 k2 W;have bN:=aa (fun W=>Me x A k3 k4 W);have bX:=aa (fun W=>Fc A k4 W);have aq:=aa (fun W=>LY (x*A) A k6 k7 W);have P:=aa (fun W=>LY (G*z) A k5 k7 W);have s:=aa (fun W=>LZ (x*A+A) (G*z) k8 k5 W);have Q:=aa (fun W=>LZ (x*A) (G*z+A) k6 k9 W);rw[decide_eq_true k8]at aq;rw[decide_eq_true k9]at P;rw[aN]at s;rw[aS]at Q;let⟨X,aT⟩:=aH (G*z);let⟨Y,K⟩:=aH (x*A);rw[aT]at a2;have bO:=aa a2;clear a2;rw[aT]at P s Q;rw[K]at bN aq s Q;let⟨U,hU⟩:=aH (Y+A);let⟨V,hV⟩:=aH (X+A);rw[hU]at aq s;rw[hV]at P Q;rw[show dA (dU Y)=(bf Y)from rfl,show dA (dU A)=(bf A)from rfl]at aq;rw[show dA (dU X)=(bf X)from rfl,show dA (dU A)=(bf A)from rfl]at P;rw[show dA (dU U)=(bf U)from rfl,show dA (dU X)=(bf X)from rfl]at s;rw[show dA (dU Y)=(bf Y)from rfl,show dA (dU V)=(bf V)from rfl]at Q;clear e1 r am ab hz aT K hU hV f1 f2 b1 b3 b4 k1 k2 k3 k4 k5 k6 k7 k8 k9 aN aS ac;have bJ:Hid (Below wr wr (aZ wr bt 104)):=aa aI;have D:=aa (fun(W:bD) (hW:Below wr wr W)=>(show W.cell? ⟨M,0,none⟩=some (.slice (some (b,m)) n kg)/\W.cell? ⟨M,1,none⟩=some (.slice (some (t,I)) n l)/\W.cell? (b,m+j)=some (.int .i64 x)/\W.cell? (t,I+j)=some (.int .i64 y)from⟨(hW.c (p:=⟨M,0,none⟩) aG.o.lt).bu q0,(hW.c (p:=⟨M,1,none⟩) aG.o.lt).bu q1,(hW.c (p:=(b,m+j)) (iN ar a.o.size)).bu g0,(hW.c (p:=(t,I+j)) (iN ak a.o.size)).bu l0⟩));have br:=D.o wr (bM _ _);have bq:=D.o _ bJ.o;clear q0 q1 g0 l0;go_wp2;go_region_held3(fun W=>W.cell? ⟨M,0,none⟩=some (.slice (some (b,m)) n kg)/\W.cell? ⟨M,1,none⟩=some (.slice (some (t,I)) n l)/\W.cell? (b,m+j)=some (.int .i64 x)/\W.cell? (t,I+j)=some (.int .i64 y)) (first|exact br|exact bq|assumption|exact R|exact hA|exact q|go_keep)
    (first
     |(go_at_call 40;refine(bO.o wr.drew).bC ?_;rintro e w2⟨rfl,f⟩;have HZ:=aa (bI.new w2 104 bt);have L1:=(bM wr wr).drew.bu f;have L2:=aa (L1.alloc f.size (bH bt 104));obtain⟨bn,P5⟩:=Mg rfl HZ.o X;have H5:=aa P5.row;have c5:=P5.low L2.o f.size;have R:=D.o w2 L1;have hA:=D.o _ L2.o;have q:=D.o _ c5;have J:=aa c5;obtain⟨W5,ao⟩:=aH ((w2.alloc (bH bt 104)).setRow w2 (dA (dU X)));have aW:=aa ao;clear f P5 ao L1 c5)
     |(go_at_call 40;refine(bO.o (wr.alloc (bH bt 104)).drew).bC ?_;rintro e w2⟨rfl,f⟩;have L1:=bJ.o.drew.bu (f.bC au);have HZ:=aa (bI.keep (show bI (wr.alloc (bH bt 104)).drew wr 104 bt from bI.new wr 104 bt) f);obtain⟨bn,P5⟩:=Mg rfl HZ.o X;have H5:=aa P5.row;have c5:=P5.low L1 (bL _);have R:=D.o w2 L1;have q:=D.o _ c5;have J:=aa c5;obtain⟨W5,ao⟩:=aH (w2.setRow wr (dA (dU X)));have aW:=aa ao;clear f P5 ao L1 c5))
   all_goals
    clear bn br bq R q;rw[aW.o]at H5 J⊢;clear aW HZ;try clear L2
    have S5:=D.o W5 J.o;obtain⟨q2,q3,g2,l2⟩:=S5;go_wp2_with fail;refine(bN.o _).bC ?_;rintro e w6⟨rfl,c6⟩;let⟨ct,C6⟩:=Jh2 (bI.new w6 104 bt) c6;clear c6 q2 q3 g2 l2;go_wp2_with(refine fQ rfl 104 _ _ rfl rfl _ (dA (dU Y)) rfl rfl aj aj _ ct.o rfl ?_;intro W7 P7;have K7:=aa (AO C6.o P7);clear P7);refine(bX.o _).bC ?_;rintro e w8⟨rfl,c8⟩;let⟨bS,C8⟩:=Jh2 (bI.new w8 104 bt) c8;clear c8;go_wp2_with(refine fQ rfl 104 _ _ rfl rfl _ (dA (dU A)) rfl rfl aj aj _ bS.o rfl ?_;intro W9 P9;have K9:=aa (AO C8.o P9);have X9:=aa ((H5.o.keep K7.o.1).keep K9.o.1);have Y9:=aa (K7.o.2.keep K9.o.1);have A9:=aa K9.o.2;have L9:=aa (K7.o.1.bu (K9.o.1.bC K7.o.1.size));clear P9;obtain⟨aR,ay,k,az,aM,a1,a0,aB⟩:=tP Y9.o;obtain⟨B,aQ,aD,aV,d,aL,a3,aJ⟩:=tP A9.o);refine(aq.o _).bC ?_;rintro e cm⟨rfl,bb⟩;let⟨bo,cc⟩:=Jh2 (bI.new cm 104 bt) bb;clear bb aR ay k az aM a1 a0 aB B aQ aD aV d aL a3 aJ;go_wp2_with(refine fQ rfl 104 _ _ rfl rfl _ (dA (dU U)) rfl rfl aj aj _ bo.o rfl ?_;intro cy ba;have an:=aa (AO cc.o ba);have bl:=aa (X9.o.keep an.o.1);have bW:=aa (Y9.o.keep an.o.1);have bV:=aa (A9.o.keep an.o.1);have cb:=aa an.o.2;have bc:=aa (L9.o.bu (an.o.1.bC L9.o.size));clear ba;obtain⟨a8,a7,a5,aF,aA,aO,aP,aK⟩:=tP bl.o;obtain⟨u,ce,b8,b9,ci,cl,bU,bY⟩:=tP cb.o);refine(s.o _).bC ?_;rintro e cB⟨rfl,L⟩;let⟨ca,cn,cp,bz⟩:=Jh4 (bl.o.keep L) (bW.o.keep L) (bV.o.keep L) (bc.o.bu (L.bC bc.o.size));clear L a8 a7 a5 aF aA aO aP aK u ce b8 b9 ci cl bU bY;let⟨a8,a7,a5,aF,aA,aO,aP,aK⟩:=tP ca.o;let⟨B,aQ,aD,aV,d,aL,a3,aJ⟩:=tP cp.o;go_wp2_with fail;refine(P.o _).bC ?_;rintro e ch⟨rfl,T⟩;let⟨bp,cg⟩:=Jh2 (bI.new ch 104 bt) T;clear T a8 a7 a5 aF aA aO aP aK B aQ aD aV d aL a3 aJ;go_wp2_with(refine fQ rfl 104 _ _ rfl rfl _ (dA (dU V)) rfl rfl aj aj _ bp.o rfl ?_;intro cA O;have aU:=aa (AO cg.o O);have bQ:=aa (cn.o.keep aU.o.1);have cr:=aa aU.o.2;have bK:=aa (bz.o.bu (aU.o.1.bC bz.o.size));clear O;obtain⟨aR,ay,k,az,aM,a1,a0,aB⟩:=tP bQ.o;obtain⟨bZ,cu,b0,bP,cs,bR,co,cj⟩:=tP cr.o);refine(Q.o _).bC ?_;rintro e cz⟨rfl,bm⟩;have b5:=aa (bK.o.bu (bm.bC bK.o.size));have E:=aa (J.o.bu (b5.o.bC J.o.size));clear bm aR ay k az aM a1 a0 aB bZ cu b0 bP cs bR co cj;have hw:=cf.o;go_wp2;go_roundw;exact⟨j+1,H.o,aw,aG.o.keep E.o,a.o.bu (E.o.bC a.o.size)⟩;exact mG H.o
end
def j9(M:Nat)(ev:List Ev)(a:Int):List Int×List Int:=((fe M).map (gS ev a),(fe M).map (lS ev a))
def gB(S M:Nat)(ev:List Ev):List (List Int×List Int):=(List.range (S+1)).map fun(a:Nat)=>j9 M ev (a:Int)
def wW(M:Nat):(fe M).length=M:=by unfold fe;simp
def wX(M i:Nat)(h:i<M):(fe M)[i]?=some ((i:Int)+1):=by unfold fe;rw[ke,vA h];rfl
def tQ(S M:Nat)(ev:bF Ev):(gB S M ev).length=S+1:=by unfold gB;simp
def yJ(S M:Nat)(ev:bF Ev)(a:Nat)(h:a<=S):(gB S M ev)[a]?=some (j9 M ev (a:Int)):=by unfold gB;rw[ke,vA af];rfl
def wY(ev:bF Ev)(x:Ev)(a m:Int):gS (ev++[x]) a m=gS ev a m+oh a m x:=by rw[tL];simp[gS,cd]
def uP(ev:bF Ev)(x:Ev)(a m:Int):lS (ev++[x]) a m=lS ev a m+nB a m x:=by rw[tM];simp[lS,cd]
def wZ(l:List Int)(i:Nat)(y:Int):List Int:=l.set i (l.getD i 0+y)
def Mh(M:Nat)(f f':Int->Int)(m y:Int)(h1:1<=m)(h2:m<=(M:Int))(hf:∀m',f' m'=f m'+if m'=m then y else 0):(fe M).map f'=wZ ((fe M).map f) (m-1).toNat y:=by
 let⟨i,p⟩:∃i:Nat,(m-1).toNat=i:=⟨_,rfl⟩;have Z:m=(i:Int)+1:=af;have a:i<M:=af;rw[p];unfold wZ;apply mR;intro j;have b:((fe M).map f).getD i 0=f m:=by
  rw[dy,ke,wX M i a,Z];rfl
 rw[b,sd];by_cases J:j<M
 ·rw[ke,wX M j J];by_cases e:i=j
  ·subst e;rw[yc rfl,yc (by rw[cR,wW];exact J),Option.map_some,hf,yc Z.symm,<-Z]
  ·rw[ya e,ke,wX M j J,Option.map_some,Option.map_some,hf,ya af];simp
 ·rw[pC (by rw[cR,wW];omega),ya af,pC (by rw[cR,wW];omega)]
def tR(M:Nat)(f f':Int->Int)(hf:∀m',f' m'=f m'):(fe M).map f'=(fe M).map f:=by rw[show f'=f from funext hf]
def abP(S M:Nat)(ev:bF Ev)(x:Ev)(h:x.cq<13∨15<x.cq):gB S M (ev++[x])=gB S M ev:=by unfold gB;refine List.map_congr_left fun a _=> ?_;unfold j9;rw[tR M (gS ev (a:Int)) (gS (ev++[x]) (a:Int)) (fun m'=>by rw[wY];unfold oh;rw[ya af];omega),tR M (lS ev (a:Int)) (lS (ev++[x]) (a:Int)) (fun m'=>by rw[uP];unfold nB;rw[ya af];omega)]
def Mi(S M:Nat)(ev:bF Ev)(x:Ev)(a:Nat)(ha:a<=S)(g:bF Int×bF Int)(h1:j9 M (ev++[x]) (a:Int)=g)(h2:∀b:Nat,b≠a->j9 M (ev++[x]) (b:Int)=j9 M ev (b:Int)):gB S M (ev++[x])=(gB S M ev).set a g:=by
 apply mR;intro j;rw[sd,tQ];by_cases J:j<=S
 ·rw[yJ S M _ j J];by_cases e:a=j
  ·subst e;rw[yc rfl,yc af,h1]
  ·rw[ya e,yJ S M _ j J,h2 j (fun h=>e h.symm)]
 ·rw[pC (by rw[tQ];omega),ya af,pC (by rw[tQ];omega)]
def abQ(S M:Nat)(ev:bF Ev)(x:Ev)(a:Nat)(ha:a<=S)(hk:x.cq=13)(hx:x.bK=(a:Int))(h1:1<=x.mem)(h2:x.mem<=(M:Int)):gB S M (ev++[x])=(gB S M ev).set a (wZ (j9 M ev (a:Int)).1 (x.mem-1).toNat x.bJ,(j9 M ev (a:Int)).2):=by
 refine Mi S M ev x a ha _ ?_ fun b hb=> ?_
 ·unfold j9;rw[Mh M (gS ev a) (gS (ev++[x]) a) x.mem x.bJ h1 h2 (fun m'=>by
   rw[wY];unfold oh;by_cases e:m'=x.mem
   ·rw[yc ⟨hk,hx,e.symm⟩,yc e]
   ·rw[ya (fun h=>e h.2.2.symm),ya e]),tR M (lS ev (a:Int)) (lS (ev++[x]) (a:Int)) (fun m'=>by rw[uP];unfold nB;rw[ya af];omega)]
 ·exact QaK
def abR(S M:Nat)(ev:bF Ev)(x:Ev)(a:Nat)(ha:a<=S)(hk:x.cq=14/\x.bK=(a:Int)∨x.cq=15/\a=0)(h1:1<=x.mem)(h2:x.mem<=(M:Int)):gB S M (ev++[x])=(gB S M ev).set a ((j9 M ev (a:Int)).1,wZ (j9 M ev (a:Int)).2 (x.mem-1).toNat x.bJ):=by
 refine Mi S M ev x a ha _ ?_ fun b hb=> ?_
 ·unfold j9;rw[Mh M (lS ev a) (lS (ev++[x]) a) x.mem x.bJ h1 h2 (fun m'=>by
   rw[uP];unfold nB;by_cases e:m'=x.mem
   ·rw[yc ⟨af,e.symm⟩,yc e]
   ·rw[ya (fun h=>e h.2.symm),ya e]),tR M (gS ev (a:Int)) (gS (ev++[x]) (a:Int)) (fun m'=>by rw[wY];unfold oh;rw[ya af];omega)]
 ·exact QaK
def abS(S M:Nat):gB S M []=List.replicate (S+1) (List.replicate M 0,List.replicate M 0):=by
 unfold gB;rw[show(fun(a:Nat)=>j9 M [] (a:Int))=fun _=>(List.replicate M 0,List.replicate M 0)from funext fun a=>by
  unfold j9;rw[show gS [] (a:Int)=fun _=>0 from funext fun m=>rfl,show lS [] (a:Int)=fun _=>0 from funext fun m=>rfl];have e:(fe M).map (fun _=>(0:Int))=List.replicate M 0:=by rw[List.map_const',wW]
  rw[e]]
 rw[List.map_const',rZ]
def Mj(h:tN S M ev)(k:Nat)(a m:Int):0<=gS (ev.take k) a m/\gS (ev.take k) a m<=gS ev a m/\0<=lS (ev.take k) a m/\lS (ev.take k) a m<=lS ev a m:=by
 have Z:∀x∈ev,0<=oh a m x:=fun x j=>by
  unfold oh;exact Qcw
 have Y:∀x∈ev,0<=nB a m x:=fun x j=>by
  unfold nB;exact Qcw
 have q:=qO (ev.map (oh a m)) k (fun y hy=>by obtain⟨x,j,rfl⟩:=Fy.1 hy;exact Z x j);have u:=qO (ev.map (nB a m)) k (fun y hy=>by obtain⟨x,j,rfl⟩:=Fy.1 hy;exact Y x j);rw[<-List.map_take]at q u;exact⟨q.1,q.2,u.1,u.2⟩
def Mk{f:Int->Int}(hf:∀m,0<=f m)(m:Int)(h1:1<=m)(h2:m<=(M:Int)):f m<=cd ((fe M).map f):=by
 refine(qx _ fun x hx=> ?_).2 _ ?_
 ·obtain⟨y,_,rfl⟩:=Fy.1 hx;exact hf y
 ·refine Fy.2 ⟨m, ?_,rfl⟩;unfold fe;exact Fy.2 ⟨(m-1).toNat,FC.2 af,af⟩
def abT(h:tN S M ev)(k:Nat)(a m:Int)(h1:1<=m)(h2:m<=(M:Int)):gS (ev.take k) a m<=9223372036854775807/\lS (ev.take k) a m<=9223372036854775807:=by
 have f:=h.qd a;have l:=Mj h k a m;have b:=Mk (M:=M) (fun m=>(f.pos m).1) m h1 h2;have s:=Mk (M:=M) (fun m=>(f.pos m).2) m h1 h2;have I:=(qx ((fe M).map (gS ev a)) fun x hx=>by obtain⟨y,_,rfl⟩:=Fy.1 hx;exact(f.pos y).1).1;have c:=(qx ((fe M).map (lS ev a)) fun x hx=>by obtain⟨y,_,rfl⟩:=Fy.1 hx;exact(f.pos y).2).1;have:=f.fit
 omega
def abU(hM:M<=1000){g l:Int->Int}(f:qc M g l):AM ((fe M).map g) ((fe M).map l):=by
 refine⟨by rw[cR,cR],by rw[cR,wW];exact hM,⟨fun x hx=> ?_,fun x hx=> ?_⟩,f.fit, ?_⟩
 ·obtain⟨y,_,rfl⟩:=Fy.1 hx;exact(f.pos y).1
 ·obtain⟨y,_,rfl⟩:=Fy.1 hx;exact(f.pos y).2
 ·rcases f.qd with h|⟨h0,h⟩
  ·refine bS fun x hx=> ?_;obtain⟨y,B,rfl⟩:=Fy.1 hx;exact h y B
  ·refine ci ⟨h0,fun i p=> ?_⟩;have p:i<M:=by rw[cR,wW]at p;exact p
   have e:∀u:Int->Int,((fe M).map u).getD i 0=u ((i:Int)+1):=fun u=>by
    rw[dy,ke,wX M i p];rfl
   rw[e,e];exact h _ (vy (wX M i p))
def rM(M:Nat)(p:Nat×Nat):List Value:=[.slice (some (be p.1 0)) M M,.slice (some (be p.2 0)) M M]
def xe(M:Nat)(p:Nat×Nat):(rM M p).length=2:=rfl
def Fe(M:Nat)(p:Nat×Nat):∀u∈rM M p,u.oneCell'=true:=by intro u X;simp[rM]at X;rcases X with rfl|rfl<;>rfl
def abV:(prog.info? 47).map (fun i=>(i.zero,i.size,i.bytes))=some (some (.agg #[bd,bd]),2,48):=aj
structure fP(w wr:World)(M:Nat)(vo:Value)(P:List (Nat×Nat))(F:List (List Int×List Int)):Prop where
 len:P.length=F.length
 own:wr.ownsRow w.heap.size 47 2 vo P.length (bN (rM M) P)
 blk:∀a (h:a<P.length) (h2:a<F.length),(bI wr P[a].1 2 (dP F[a].1)/\bI wr P[a].2 2 (dP F[a].2))/\F[a].1.length=M/\F[a].2.length=M
 base:∀p∈P,w.heap.size<=p.1/\w.heap.size<=p.2
 d1:∀a b (ha:a<P.length) (hb:b<P.length),P[a].1=P[b].1∨P[a].2=P[b].2->a=b
 d2:∀a b (ha:a<P.length) (hb:b<P.length),P[a].1≠P[b].2
 low:Bw w wr
variable{w wr W:bD}{vo:bE}{P:bF (Nat×Nat)}{F:bF (bF Int×bF Int)}
def fP.keep(h:fP w wr M vo P F)(c:Bw wr W):fP w W M vo P F:=⟨h.len,cJ h.own c,fun a h1 h2=>⟨⟨(h.blk a h1 h2).1.1.keep c,(h.blk a h1 h2).1.2.keep c⟩,(h.blk a h1 h2).2⟩,h.base,h.d1,h.d2,h.low.bu (c.bC h.low.size)⟩
def fP.lt(h:fP w wr M vo P F):∀p∈P,p.1<wr.heap.size/\p.2<wr.heap.size:=fun p hp=>by
 obtain⟨a,ha,rfl⟩:=eW hp;have:=(h.blk a ha (by rw[<-h.len];exact ha)).1
 exact⟨this.1.lt,this.2.lt⟩
def fP.grow{W':bD}{x y:Nat}{vo':bE}(h:fP w wr M vo P F)(c:Bw wr W)(hx:bI W x 2 (dP (List.replicate M 0)))(hy:bI W y 2 (dP (List.replicate M 0)))(hx0:wr.heap.size<=x)(hy0:wr.heap.size<=y)(hxy:x≠y)(hown:W'.ownsRow w 47 2 vo' (P++[(x,y)]).length (bN (rM M) (P++[(x,y)])))(hg:W.grownBy W' vo.ownBlock):fP w W' M vo' (P++[(x,y)]) (F++[(List.replicate M 0,List.replicate M 0)]):=by
 have k:=h.keep c;have u:∀(g:Nat) (cs:Array bE),bI W g 2 cs->bI W' g 2 cs:=fun g cs u=>bI.grown u k.own hg ah;have i:=h.lt;have d:∀a (ha:a<(P++[(x,y)]).length),(a<P.length/\∃j:a<P.length,(P++[(x,y)])[a]=P[a])∨(a=P.length/\(P++[(x,y)])[a]=(x,y)):=fun a ha=>by
  rcases fA a P with h1|h1
  ·exact bS ⟨h1,h1,lC h1⟩
  ·have j:a=P.length:=by simp at ha;omega
   subst j;exact ci ⟨rfl,au⟩
 have f:∀a (ha:a<P.length),P[a].1<wr.heap.size/\P[a].2<wr.heap.size:=fun a ha=>i _ (cZ ha);refine⟨by simp[h.len],hown,fun a h1 j=> ?_,fun p hp=> ?_,fun a b ha hb2 he=> ?_,fun a b ha hb2 he=> ?_,k.low.grown hg k.low.size (vB k.own)⟩
 ·rcases d a h1 with⟨h3,h4,e⟩|⟨rfl,e⟩
  ·have V:a<F.length:=by rw[<-h.len];exact h3
   have r:(F++[(List.replicate M (0:Int),List.replicate M (0:Int))])[a]=F[a]:=lC V;rw[e,r];have:=k.blk a h3 V
   exact⟨⟨u _ _ this.1.1,u _ _ this.1.2⟩,this.2⟩
  ·have r:(F++[(List.replicate M (0:Int),List.replicate M (0:Int))])[P.length]=(List.replicate M 0,List.replicate M 0):=by simp[h.len]
   rw[e,r];exact⟨⟨u _ _ hx,u _ _ hy⟩,au,au⟩
 ·rcases xq.1 hp with hp|hp
  ·exact h.base p hp
  ·have S:=h.low.size;simp at hp;subst hp;exact⟨bW S hx0,bW S hy0⟩
 ·rcases d a ha with⟨a1,_,ea⟩|⟨rfl,ea⟩<;>rcases d b hb2 with⟨b1,_,eb⟩|⟨rfl,eb⟩
  ·rw[ea,eb]at he;exact h.d1 a b a1 b1 he
  ·rw[ea,eb]at he;have:=f a a1
   dsimp only at he;omega
  ·rw[ea,eb]at he;have:=f b b1
   dsimp only at he;omega
  ·rfl
 ·rcases d a ha with⟨a1,_,ea⟩|⟨rfl,ea⟩<;>rcases d b hb2 with⟨b1,_,eb⟩|⟨rfl,eb⟩
  ·rw[ea,eb]at he;exact h.d2 a b a1 b1 he
  ·rw[ea,eb]at he;have:=f a a1
   dsimp only at he;omega
  ·rw[ea,eb]at he;have:=f b b1
   dsimp only at he;omega
  ·rw[ea]at he;exact hxy he
variable{n g:Nat}{cs:Array bE}
def Ml{B:Nat}{v:bE}{xs:bF bE}(ho:w.ownsRow B 47 2 v n xs)(hb:bI w g 2 cs):∀k,v.ownBlock=some k->k≠g:=fun k hk=>fp hb ho ah k hk
variable{a:Nat}
def fP.abW(h:fP w wr M vo P F)(ha:a<P)(ha2:a<F)(i:Nat)(y:Int):fP w (wr.setCell (P[a].1,i) y) M vo P (F.set a (F[a].1.set i y,F[a].2)):=by
 have d:=(h.blk a ha ha2).1;refine⟨by rw[js];exact h.len,ed h.own (fun g hg=>fV _ _ _ _ (Ml h.own d.1 g hg)),fun b hb hb2=> ?_,h.base,h.d1,h.d2,h.low.setCell (p:=(P[a].1,i)) (h.base _ (cZ ha)).1 _⟩;rw[js]at hb2;have c:=h.blk b hb hb2;by_cases e:a=b
 ·subst e;rw[xG];refine⟨⟨?_,c.1.2.far i _ (fun e=>h.d2 a a ha ha e.symm)⟩,by rw[js];exact c.2.1,c.2.2⟩;have:=c.1.1.set i y
  rwa[yb]at this
 ·rw[List.getElem_set_ne e];exact⟨⟨c.1.1.far i _ (fun e2=>e (h.d1 a b ha hb (bS e2.symm))),c.1.2.far i _ (fun e2=>h.d2 a b ha hb e2.symm)⟩,c.2⟩
def fP.abX(h:fP w wr M vo P F)(ha:a<P)(ha2:a<F)(i:Nat)(y:Int):fP w (wr.setCell (P[a].2,i) y) M vo P (F.set a (F[a].1,F[a].2.set i y)):=by
 have d:=(h.blk a ha ha2).1;refine⟨by rw[js];exact h.len,ed h.own (fun g hg=>fV _ _ _ _ (Ml h.own d.2 g hg)),fun b hb hb2=> ?_,h.base,h.d1,h.d2,h.low.setCell (p:=(P[a].2,i)) (h.base _ (cZ ha)).2 _⟩;rw[js]at hb2;have c:=h.blk b hb hb2;by_cases e:a=b
 ·subst e;rw[xG];refine⟨⟨c.1.1.far i _ (fun e=>h.d2 a a ha ha e), ?_⟩,c.2.1,by rw[js];exact c.2.2⟩;have:=c.1.2.set i y
  rwa[yb]at this
 ·rw[List.getElem_set_ne e];exact⟨⟨c.1.1.far i _ (fun e2=>h.d2 b a hb ha e2),c.1.2.far i _ (fun e2=>e (h.d1 a b ha hb (ci e2.symm)))⟩,c.2⟩
def Ff(l:bF Int)(i:Nat)(h:i<l):(dP l)[i]?=some (.int .i64 (l.getD i 0)):=by unfold dP;rw[li,ke,dy,dG h];rfl
def AP(M i:Nat)(f:Int->Int)(h:i<M):((fe M).map f).getD i 0=f ((i:Int)+1):=by rw[dy,ke,wX M i h];rfl
def fP.at{no:Option Addr}{ko:Nat}(h:fP w wr M (.slice no n ko) P (gB S M ev))(ha:a<=S):∃b off p q,no=some ⟨b,off,none⟩/\n=S+1/\S+1<=ko/\ko<=maxLen/\(∃h9:a<P,P[a]=(p,q))/\wr.cell? ⟨b,off+a*2,none⟩=some (.slice (some ⟨p,0,none⟩) M M)/\wr.cell? ⟨b,off+a*2+1,none⟩=some (.slice (some ⟨q,0,none⟩) M M)/\b<wr.heap.size/\p<wr.heap.size/\q<wr.heap.size:=by
 have g:P.length=S+1:=by rw[h.len,tQ]
 have U:a<P:=af;let⟨Y,z,R,_,F,c,L⟩:=Sl.own (xe M) h.own;let⟨o,Q,r⟩:no=Y/\n=P.length/\ko=z:=aG R;subst o r;obtain⟨b,off,rfl,y,f⟩:=L af;have d:=h.lt _ (cZ U);exact⟨b,off,P[a].1,P[a].2,rfl,af,af,c,⟨U,rfl⟩,f a U 0 _ rfl,f a U 1 _ rfl,y,d.1,d.2⟩
variable{p:Nat}
def fP.ct(h:fP w wr M vo P F){v:bE}{ds:Array bE}(hb:bI wr g 26 cs)(hp:bI wr p 2 ds):bI (wr.setCell (p,i) v) g 26 cs:=hb.far i v (fun e=>by
 subst e;have:=hb.symm.bu hp
 simp at this)
variable{q:Nat}
def fP.abY(h:fP w wr M vo P (gB S M ev))(ha:a<=S)(hp:∃h9:a<P,P[a]=(p,q))(x:Ev)(hk:x.cq=13)(hx:x.bK=(a:Int))(hi:x.mem=(i:Int)+1)(hiM:i<M):
  wr.cell? (p,i)=some (.int .i64 (gS ev a ((i:Int)+1)))/\wr.frozen? (p,i)=false/\fP w (wr.setCell (p,i) (aY (gS ev a ((i:Int)+1)+x.bJ))) M vo P (gB S M (ev++[x]))/\∀(g:Nat) (cs:Array bE),bI wr g 26 cs->bI (wr.setCell (p,i) (aY (gS ev a ((i:Int)+1)+x.bJ))) g 26 cs:=by
 obtain⟨h9,hp⟩:=hp;have f:a<(gB S M ev).length:=by rw[tQ];omega
 have u:=h.blk a h9 f;have b:(gB S M ev)[a]=j9 M ev (a:Int):=(ada.1 (yJ S M ev a ha)).2;have d:=h.abW h9 f i (gS ev a ((i:Int)+1)+x.bJ);rw[b]at u d;rw[hp]at u d;refine⟨?_,u.1.1.free i, ?_,fun g cs hb9=>h.ct hb9 u.1.1⟩
 ·rw[u.1.1.c i,Ff _ _ (by rw[u.2.1];exact hiM)];show some (Value.int .i64 (((fe M).map (gS ev a)).getD i 0))=_;rw[AP M i _ hiM]
 ·rw[abQ S M ev x a ha hk hx af af];have r:(x.mem-1).toNat=i:=af;rw[r];unfold wZ;rw[show(j9 M ev (a:Int)).1.getD i 0=gS ev a ((i:Int)+1)from AP M i _ hiM];exact d
def fP.mH(h:fP w wr M vo P (gB S M ev))(ha:a<=S)(hp:∃h9:a<P,P[a]=(p,q))(x:Ev)(hk:x.cq=14/\x.bK=(a:Int)∨x.cq=15/\a=0)(hi:x.mem=(i:Int)+1)(hiM:i<M):
  wr.cell? (q,i)=some (.int .i64 (lS ev a ((i:Int)+1)))/\wr.frozen? (q,i)=false/\fP w (wr.setCell (q,i) (aY (lS ev a ((i:Int)+1)+x.bJ))) M vo P (gB S M (ev++[x]))/\∀(g:Nat) (cs:Array bE),bI wr g 26 cs->bI (wr.setCell (q,i) (aY (lS ev a ((i:Int)+1)+x.bJ))) g 26 cs:=by
 obtain⟨h9,hp⟩:=hp;have f:a<(gB S M ev).length:=by rw[tQ];omega
 have u:=h.blk a h9 f;have b:(gB S M ev)[a]=j9 M ev (a:Int):=(ada.1 (yJ S M ev a ha)).2;have d:=h.abX h9 f i (lS ev a ((i:Int)+1)+x.bJ);rw[b]at u d;rw[hp]at u d;refine⟨?_,u.1.2.free i, ?_,fun g cs hb9=>h.ct hb9 u.1.2⟩
 ·rw[u.1.2.c i,Ff _ _ (by rw[u.2.2];exact hiM)];show some (Value.int .i64 (((fe M).map (lS ev a)).getD i 0))=_;rw[AP M i _ hiM]
 ·rw[abR S M ev x a ha hk af af];have r:(x.mem-1).toNat=i:=af;rw[r];unfold wZ;rw[show(j9 M ev (a:Int)).2.getD i 0=lS ev a ((i:Int)+1)from AP M i _ hiM];exact d
def xg(C:bZ)(k:Nat)(Y:YS):Prop:=St C k Y/\rI Y
def xg.log{Y:YS}(hv:dz C)(hk:k<=150)(h:xg C k Y):Y.log.length<=1000000:=by
 rcases h.1 with rfl|⟨n,hn,i,j,N,d,_⟩
 ·show([]:bF Ev).length<=_;simp
 ·have:=(d.ld hv af).2;omega
def abZ{B:Nat}{Y:YS}(hv:dz C)(hk:k<=150)(h:xg C k Y)(c:Cm)(hf:c.Fit):jb B Y c fun _ _ Y'=>xg C (k+1) Y'/\∃ev,Y'.log=Y.log++ev/\tN C.secs C.mem ev:=by
 obtain⟨h,F⟩:=h;rcases h with rfl|⟨n,hn,d⟩
 ·exact fun W A hA=>(LA hv c W A hA).bC fun e w' ⟨er,m,A',Y',he,st,hq'⟩=>⟨er,m,A',Y',he,st,by
   rcases hq' with rfl|⟨g,q,o⟩
   ·exact⟨⟨bS rfl,F⟩,[],by rw[ix],E9 nofun⟩
   ·exact⟨⟨ci ⟨2,af,g⟩,q⟩,Y'.log,by show _=[]++_;rw[lU],E9 o⟩⟩
 ·exact fun W A hA=>(Lx hv af d c hf W A hA).bC fun e w' ⟨er,m,A',Y',he,st,q1,⟨_,ev,h1,h2⟩,q3⟩=>⟨er,m,A',Y',he,st,⟨ci ⟨n+1,af,q1⟩,q3 F⟩,ev,by
   have a:Y'.heard=Y'.log:=q3 F;have r:Y.heard=Y.log:=F;rw[<-a,<-r];exact h1,abr h2⟩
def st0(C:bZ):xg C 0 (Y0 C):=⟨bS rfl,rfl⟩
def Mm{L:bF Int}(hb:bI w p 2 (dP L))(hl:L.length=M)(hM:M<=1000):Sl eI 1 w (.slice (some (be p 0)) M M) L:=by
 subst hl;refine⟨some (be p 0),L.length,rfl,(fun h=>by cases h),bL _,az,fun _=>⟨p,0,rfl,hb.lt,fun i hi j u hu=> ?_⟩⟩;have O:j=0:=by
  cases j with
  |zero=>rfl
  |succ j=>simp[eI]at hu
 subst O;rw[show((p,0+i*1+0):Addr)=(p,i) by simp,hb.c i,Ff L i hi,<-hu];simp[eI,dy,hi]
def fP.qd(h:fP w wr M vo P (gB S M ev))(hM:M<=16)(ok:tN S M ev)(ha:a<=S)(hp:∃h9:a<P,P[a]=(p,q)):∃gs ls,Sl eI 1 wr (.slice (some (be p 0)) M M) gs/\Sl eI 1 wr (.slice (some (be q 0)) M M) ls/\AM gs ls:=by
 obtain⟨h9,hp⟩:=hp;have i:a<(gB S M ev).length:=by rw[tQ];omega
 have u:=h.blk a h9 i;have b:(gB S M ev)[a]=j9 M ev (a:Int):=(ada.1 (yJ S M ev a ha)).2;rw[b,hp]at u;exact⟨_,_,Mm u.1.1 u.2.1 af,Mm u.1.2 u.2.2 af,abU af (ok.qd (a:Int))⟩
section
attribute [local go_sem ↓] wp_at_zero wp_at_succ
def aca(vm vs vc v:bE)(C:bZ)(l:bF Ev)(t:Nat)(w:bD)(hc:dM w vm vs vc C)(hM:C.mem.length<=16)(hS:C.secs.length<=8)(hv:Sl eE 5 w v l)(ht:t<=l)(hn:l.length<=1000000)(ok:tN C.secs C.mem (l.drop t)):
  bG 11 #[eT vm vs vc C,v,t] w fun e w'=>∃vo P,e=.returned (.tuple #[vo,.bool true])/\fP w w' C.mem vo P (gB C.secs C.mem (l.drop t)):=by
 obtain⟨X,T,rfl,_⟩:=hc.m;obtain⟨az,aD,rfl,_⟩:=hc.s;obtain⟨z,R,rfl,_⟩:=hc.c;let⟨i0,hi,aV,bc,a9⟩:=wm abV;have bp:=hv;obtain⟨av,kv,rfl,bk,aU,a6,_⟩:=bp;have bo:=fun W=>GF W av l kv t ht aU a6 bk;have aN:=aa (GG hv ht);let⟨EV,r⟩:=aH (l.drop t);have aK:l.length-t=EV.length:=by rw[<-r,fc]
 rw[r]at ok aN⊢;rw[aK]at bo aN;let⟨M,a2⟩:=aH C.mem.length;let⟨S,bh⟩:=aH C.secs.length;rw[a2]at hM ok⊢;rw[bh]at hS ok⊢;let⟨W1,a5⟩:=aH (w.alloc (bH (cU (.slice X M T) (.slice az S aD) (.slice z C.bU R) C) 26));have HB:Hid (bI W1 w 26 (cU (.slice X M T) (.slice az S aD) (.slice z C.bU R) C)):=aa (by rw[<-a5];exact bI.new w 26 _);have bn:Hid (Bw w W1):=aa (by rw[<-a5];exact aI);have aQ:=aa ok;have hm:=Du M af;have bw:¬(l.length<(t:Int)):=af;have a7:fP w W1 M bd [] (List.replicate 0 (List.replicate M 0,List.replicate M 0)):=⟨rfl,mQ _ _ _ _,fun a h=>by simp at h,nofun,fun a b ha=>by simp at ha,fun a b ha=>by simp at ha,bn.o⟩;have ba:=aa a7;have aS:Hid (EV.length<=1000000):=aa af;clear hc hv r ok a7 aK aU a6 bk ht hn a2 bh;go_enter func11,ntmps11;go_wp2;go_loopw[10,8] (fun(vi:bE) (vo:bE) (wr:bD)=>∃(a:Nat) (P:bF (Nat×Nat)),a<=S+1/\vi=a/\fP w wr M vo P (List.replicate a (List.replicate M 0,List.replicate M 0))/\bI wr w 26 (cU (.slice X M T) (.slice az S aD) (.slice z C.bU R) C)) (fun(vi:bE) (_:bE) (_:bD)=>S+1-(intOf vi).toNat);exact⟨0,[],cH _,rfl,ba.o,HB.o⟩;obtain⟨a,P,ha,rfl,hg,u⟩:=hrel;let⟨H,Q⟩:=Jh2 hg u;have HP:Hid (P.length=a):=aa (by rw[hg.len,oq]);let⟨A,q1⟩:=Q.o.k2 0 1;have q2:=(Q.o.alloc (bH (dP (List.replicate M 0)) 2)).c 0;obtain⟨V,ko,rfl⟩:=bV hg.own;clear hg u;by_cases ae:a<=S
 ·as_aux_lemma=>
  have U:a<=(S:Int):=af;have br:P.length<=9:=by rw[HP.o];omega
  have aT:Hid (a<S+1):=aa af;have G:Hid (List.replicate (a+1) (List.replicate M (0:Int),List.replicate M (0:Int))=List.replicate a (List.replicate M 0,List.replicate M 0)++[(List.replicate M 0,List.replicate M 0)]):=aa List.replicate_succ';have bq:=H.o.low.size;have ar:Hid (Bw wr ((wr.alloc (bH (dP (List.replicate M 0)) 2)).alloc (bH (dP (List.replicate M 0)) 2))):=aa (aI.alloc au _);let⟨aE,ai⟩:=Jh2 (cJ H.o.own ar.o) (Q.o.keep ar.o);have a4:Hid (bI ((wr.alloc (bH (dP (List.replicate M 0)) 2)).alloc (bH (dP (List.replicate M 0)) 2)) wr 2 (dP (List.replicate M 0))):=aa ((bI.new wr 2 _).alloc _);have a1:Hid (bI ((wr.alloc (bH (dP (List.replicate M 0)) 2)).alloc (bH (dP (List.replicate M 0)) 2)) (wr.heap.size+1) 2 (dP (List.replicate M 0))):=aa (by
   have:=bI.new (aZ wr (dP (List.replicate M 0)) 2) 2 (dP (List.replicate M 0))
   simpa using this)
  go_wp2;go_region_law(first
   |(refine lV (xe M) ah (Fe M) _ aB _ _ 41 aB w 47 i0 (.agg #[.slice none 0 0,.slice none 0 0]) 48 underlying41 hi aV bc a9 aB (.slice V P.length ko) P aB (by exact aE.o.alloc _) (some (be (wr.heap.size+2) 0)) 1 1 [(wr.heap.size,wr.heap.size+1)] aB aB (by exact Sl.fg (rM M) (xe M) ((wr.alloc (bH (dP (List.replicate M 0)) 2)).alloc (bH (dP (List.replicate M 0)) 2)) 47 (wr.heap.size,wr.heap.size+1) aB _ au) aP aO aA ?_;intro v' w2 ak ab aR;have G2:=aa (fP.grow (W:=(((wr.alloc (bH (dP (List.replicate M 0)) 2)).alloc (bH (dP (List.replicate M 0)) 2)).alloc (bH #[.slice (some (be wr 0)) M M,.slice (some (be (wr.heap.size+1) 0)) M M] 47))) (x:=wr.heap.size) (y:=wr.heap.size+1) H.o (ar.o.alloc ar.o.size _) (a4.o.alloc _) (a1.o.alloc _) af af af ak ⟨ab.os,ab.tape,ab.output,ab.size,ab.block⟩);have B2:=aa (bI.grown (w:=(((wr.alloc (bH (dP (List.replicate M 0)) 2)).alloc (bH (dP (List.replicate M 0)) 2)).alloc (bH #[.slice (some (be wr 0)) M M,.slice (some (be (wr.heap.size+1) 0)) M M] 47))) (ai.o.alloc _) (aE.o.alloc _) ⟨ab.os,ab.tape,ab.output,ab.size,ab.block⟩ ah);clear ak ab aR)
   |(refine lV (xe M) ah (Fe M) _ aB _ _ 41 aB w 47 i0 (.agg #[.slice none 0 0,.slice none 0 0]) 48 underlying41 hi aV bc a9 aB (.slice V P.length ko) P aB (by exact aE.o.alloc _) (some (be (wr.heap.size+2) 0)) 1 1 [(wr.heap.size+1,wr.heap.size)] aB aB (by exact Sl.fg (rM M) (xe M) ((wr.alloc (bH (dP (List.replicate M 0)) 2)).alloc (bH (dP (List.replicate M 0)) 2)) 47 (wr.heap.size+1,wr.heap.size) aB _ au) aP aO aA ?_;intro v' w2 ak ab aR;have G2:=aa (fP.grow (W:=(((wr.alloc (bH (dP (List.replicate M 0)) 2)).alloc (bH (dP (List.replicate M 0)) 2)).alloc (bH #[.slice (some (be (wr.heap.size+1) 0)) M M,.slice (some (be wr 0)) M M] 47))) (x:=wr.heap.size+1) (y:=wr.heap.size) H.o (ar.o.alloc ar.o.size _) (a1.o.alloc _) (a4.o.alloc _) af af af ak ⟨ab.os,ab.tape,ab.output,ab.size,ab.block⟩);have B2:=aa (bI.grown (w:=(((wr.alloc (bH (dP (List.replicate M 0)) 2)).alloc (bH (dP (List.replicate M 0)) 2)).alloc (bH #[.slice (some (be (wr.heap.size+1) 0)) M M,.slice (some (be wr 0)) M M] 47))) (ai.o.alloc _) (aE.o.alloc _) ⟨ab.os,ab.tape,ab.output,ab.size,ab.block⟩ ah);clear ak ab aR))
  all_goals
   go_wp2_with fail;exact⟨⟨a+1,_,aT.o,aw,by rw[G.o];exact G2.o,B2.o⟩,mG aT.o⟩
 ·as_aux_lemma=>
  have ax:¬(a<=(S:Int)):=af;have HA:Hid (a=S+1):=aa af;have ac:Hid (fP w wr M (.slice V P.length ko) P (gB S M (EV.take 0))):=aa (by
   rw[List.take_zero,abS,<-HA.o];exact H.o)
  let⟨N,hN⟩:=aH P.length;rw[hN]at ac⊢;clear HP hN A q2 H ae ha ba hm;go_wp2_with fail;clear q1;go_loopw[11] (fun(vi:bE) (wr:bD)=>∃(k:Nat),k<=EV.length/\vi=k/\fP w wr M (.slice V N ko) P (gB S M (EV.take k))/\bI wr w 26 (cU (.slice X M T) (.slice az S aD) (.slice z C.bU R) C)) (fun(vi:bE) (_:bD)=>EV.length-(intOf vi).toNat);exact⟨0,cH _,rfl,ac.o,Q.o⟩;clear ac Q;obtain⟨k,hk,rfl,hg,u⟩:=hrel;let⟨H,Q⟩:=Jh2 hg u;let⟨A,q1⟩:=Q.o.k2 0 1;clear hg u;by_cases ae:k<EV.length
  rotate_left
  ·have bm:¬(k<(EV:Int)):=af;have D:Hid (EV.take k=EV):=aa (eU af);rw[D.o]at H;clear ae hk;go_wp2;go_ret2;exact⟨_,rfl,P,H.o⟩
  have bm:k<(EV:Int):=af;have bA:0<=(k:Int):=af;have Y:=aa ae;have bv:IntKind.i64.wrap ((k:Int)+1)=((k+1:Nat):Int):=by have:=aS.o;rw[gI _ af];rfl
  let⟨a',aW,bb,_,bB,bz,L⟩:=aN.o;let⟨e1,e2⟩:oH av kv t 5=a'/\kv-t=aW:=aG bb;let⟨b,ay,aL,ap,bl⟩:=L af;rw[<-e1]at aL;have am:=bl k ae;have D:Hid (EV.take (k+1)=EV.take k++[EV[k]'ae]):=aa (fj ae);have K:=aa (fun h1 h2=>aQ.o.ok (EV[k]'ae) (cZ ae) h1 h2);let⟨x,hx⟩:=aH (EV[k]'ae);rw[hx]at am D K;have aq:=H.o.low;let⟨c0,c1,c2,c3,c4⟩:=Jt5 ((aq.c (p:=(b,ay+k*5)) ap).bu (am 0 _ rfl)) ((aq.c (p:=(b,ay+k*5+1)) ap).bu (am 1 _ rfl)) ((aq.c (p:=(b,ay+k*5+2)) ap).bu (am 2 _ rfl)) ((aq.c (p:=(b,ay+k*5+3)) ap).bu (am 3 _ rfl)) ((aq.c (p:=(b,ay+k*5+4)) ap).bu (am 4 _ rfl));clear bl am L bb e1 e2 hx aq ae;have C2:Hid (Bw wr (aZ wr (lp x) 101)):=aa aI;let⟨ac,Z⟩:=Jh2 (H.o.keep C2.o) (Q.o.keep C2.o);have ao:Hid (bI (aZ wr (lp x) 101) wr 101 (lp x)):=aa (bI.new wr 101 (lp x));rw[aL];clear aL A q1 ap;by_cases aj:x.cq<13∨15<x.cq
  ·as_aux_lemma=>
   have HF:Hid (fP w (aZ wr (lp x) 101) M (.slice V N ko) P (gB S M (EV.take (k+1)))):=aa (by
    rw[D.o,abP S M _ x aj];exact ac.o)
   let⟨W2,aM⟩:=aH (wr.alloc (bH (lp x) 101));rw[aM]at ao Z HF;have x0:=ao.o.c 0;clear H ac Q K;rcases aj with aj|aj
   ·exact Qc2
   ·have bs:¬x.cq<13:=af;exact Qc2
  ·as_aux_lemma=>
   let⟨⟨aJ,B⟩,⟨aC,aF⟩,j⟩:=K.o af af;have d:=aa (fun a m h1 h2=>abT aQ.o (k+1) a m h1 h2);have ag:=aa (fun a m=>Mj aQ.o k a m);rw[D.o]at d;obtain⟨xk,F,xa,O,xo⟩:=x;dsimp only at aj aJ B aC aF j;obtain⟨a,rfl⟩:∃a:Nat,xa=a:=⟨xa.toNat,af⟩;obtain⟨i,rfl⟩:∃i:Nat,F=(i:Int)+1:=⟨(F-1).toNat,af⟩;have J:i<M:=af;have an:a<=S:=af;let⟨W2,aM⟩:=aH (wr.alloc (bH (lp ⟨xk,(i:Int)+1,(a:Int),O,xo⟩) 101));rw[aM]at ao Z ac;have x0:W2.cell? (be wr 0)=xk:=ao.o.c 0;have x1:W2.cell? (be wr 1)=some (.int .i64 ((i:Int)+1)):=ao.o.c 1;have x2:W2.cell? (be wr 2)=some (.int .i64 (a:Int)):=ao.o.c 2;have x3:W2.cell? (be wr 3)=O:=ao.o.c 3;let⟨A,q1⟩:=Z.o.k2 0 1;have n1:¬xk<13:=af;have n2:¬15<xk:=af;have n3:¬(a:Int)<0:=af;have n4:¬S<(a:Int):=af;have n5:¬(i:Int)+1<1:=af;have n6:¬(M:Int)<(i:Int)+1:=af;have n7:¬O<1:=af;have bx:=aa J;rcases(show xk=13∨xk=14∨xk=15 from af)with rfl|rfl|rfl
   ·as_aux_lemma=>obtain⟨b2,I,p,q,rfl,rfl,a8,ax,al,d1,d2,g,a3,n⟩:=ac.o.at (a:=a) an;let⟨f0,f1,f2,f3⟩:=ac.o.abY an al ⟨13,(i:Int)+1,(a:Int),O,xo⟩ rfl rfl rfl J;have E:=(d.o (a:Int) ((i:Int)+1) af af).1;have ad:=(ag.o (a:Int) ((i:Int)+1)).1;rw[wY,show oh (a:Int) ((i:Int)+1) ⟨13,(i:Int)+1,(a:Int),O,xo⟩=O from yc ⟨rfl,rfl,rfl⟩]at E;dsimp only at f2 f3;let⟨y,hy⟩:=aH (gS (EV.take k) (a:Int) ((i:Int)+1));rw[hy]at f0 f2 f3 E ad;have HF:Hid (fP w (W2.setCell (p,i) (y+O:Int)) M (.slice (some (b2,I)) (S+1) ko) P (gB S M (EV.take (k+1)))):=aa Qc9;exact Qbv
   ·as_aux_lemma=>obtain⟨b2,I,p,q,rfl,rfl,a8,ax,al,d1,d2,g,a3,n⟩:=ac.o.at (a:=a) an;let⟨f0,f1,f2,f3⟩:=ac.o.mH an al ⟨14,(i:Int)+1,(a:Int),O,xo⟩ (bS ⟨rfl,rfl⟩) rfl J;have E:=(d.o (a:Int) ((i:Int)+1) af af).2;have ad:=(ag.o (a:Int) ((i:Int)+1)).2.2.1;rw[uP,show nB (a:Int) ((i:Int)+1) ⟨14,(i:Int)+1,(a:Int),O,xo⟩=O from yc ⟨bS ⟨rfl,rfl⟩,rfl⟩]at E;dsimp only at f2 f3;let⟨y,hy⟩:=aH (lS (EV.take k) (a:Int) ((i:Int)+1));rw[hy]at f0 f2 f3 E ad;have HF:Hid (fP w (W2.setCell (q,i) (y+O:Int)) M (.slice (some (b2,I)) (S+1) ko) P (gB S M (EV.take (k+1)))):=aa Qc9;exact Qbv
   ·as_aux_lemma=>obtain⟨b2,I,p,q,rfl,rfl,a8,ax,al,d1,d2,g,a3,n⟩:=ac.o.at (a:=0) (cH _);let⟨f0,f1,f2,f3⟩:=ac.o.mH (cH _) al ⟨15,(i:Int)+1,(a:Int),O,xo⟩ (ci ⟨rfl,rfl⟩) rfl J;have E:=(d.o ((0:Nat):Int) ((i:Int)+1) af af).2;have ad:=(ag.o ((0:Nat):Int) ((i:Int)+1)).2.2.1;rw[uP,show nB ((0:Nat):Int) ((i:Int)+1) ⟨15,(i:Int)+1,(a:Int),O,xo⟩=O from yc ⟨ci ⟨rfl,rfl⟩,rfl⟩]at E;dsimp only at f2 f3;let⟨y,hy⟩:=aH (lS (EV.take k) ((0:Nat):Int) ((i:Int)+1));rw[hy]at f0 f2 f3 E ad;have HF:Hid (fP w (W2.setCell (q,i) (y+O:Int)) M (.slice (some (b2,I)) (S+1) ko) P (gB S M (EV.take (k+1)))):=aa Qc9;have ai:=aa (f3 _ _ Z.o);have i1:0<=(a:Int):=af;have i2:a<((S+1:Nat):Int):=af;have a0:(a:Int)<(S:Int)+1:=af;have i5:(0:Int)<(S:Int)+1:=af;rw[Nat.zero_mul,gg]at d1 d2;exact Qan
def acP(vm vs vc v:bE)(C:bZ)(l:bF Cm)(w:bD)(hc:dM w vm vs vc C)(hl:Sl rJ 7 w v l)(hin:∀c∈l,c.Fit)(hw:kO w):bG 3 #[eT vm vs vc C,v] w (bi (.bool true) w):=by
 obtain⟨al,T,rfl,_⟩:=hc.m;obtain⟨O,t,rfl,_⟩:=hc.s;obtain⟨z,R,rfl,_,_,a6,Z⟩:=hc.c;let⟨W1,am⟩:=aH (w.alloc (bH (cU (.slice al C.mem T) (.slice O C.secs t) (.slice z C.bU R) C) 26));have b1:Bw w W1:=by rw[<-am];exact aI
 have J:=aa b1;have HB:Hid (bI W1 w 26 (cU (.slice al C.mem T) (.slice O C.secs t) (.slice z C.bU R) C)):=aa (by rw[<-am];exact bI.new w 26 _);let⟨aM,HC,a5,HL,a3⟩:=Jh5 am (hc.keep b1) hc (hl.keep b1) (hw.keep b1);have aF:=aa (fun W (h:Bw w W)=>Mu W (hw.keep h));have L:=aa hin;obtain⟨ad,aR,rfl,_,h1,h2,_⟩:=hl;have K:=aa (Mv _ _ _ C W1 (hc.keep b1) ad l.length aR 150);unfold maxLen at h2;let⟨s0,s1,s2,s3,s4,s5,s6,s7⟩:=s8 HB.o;clear hc hw hin b1 am Z;by_cases hv:dz C/\(l:Int)<=150
 rotate_left
 ·go_enter func3,ntmps3;go_wp2_with fail;rw[show w.alloc (bH #[.slice al C.mem.length T,.slice O C.secs.length t,.slice z C.bU.length R,C.line,C.capital,C.lead,C.cj,C.cv] 26)=W1 from aM.o];go_wp2_with fail;refine K.o.bC ?_;rintro e w2⟨b,rfl,hb,c2⟩;obtain rfl:b=false:=by
   cases b with
   |false=>rfl
   |true=>exact xl (hb.1 rfl) hv
  have L2:=aa (J.o.bu (c2.bC J.o.size));clear hb c2;go_wp2_with(go_at_call 7;refine(aF.o _ L2.o).bC ?_;rintro e w3⟨rfl,F⟩);go_ret;exact⟨rfl,L2.o.bu (F.bC L2.o.size)⟩
 have HV:=aa hv.1;have ae:l.length<=150:=by have:=hv.2;omega
 go_enter func3,ntmps3;go_wp2_with fail;rw[show w.alloc (bH #[.slice al C.mem.length T,.slice O C.secs.length t,.slice z C.bU.length R,C.line,C.capital,C.lead,C.cj,C.cv] 26)=W1 from aM.o];go_wp2_with fail;refine K.o.bC ?_;rintro e w2⟨b,rfl,hb,c2⟩;obtain rfl:b=true:=hb.2 hv;let⟨L2,K2,au,HN⟩:=Jh4 (J.o.bu (c2.bC J.o.size)) (HB.o.keep c2) (HL.o.keep c2) (EP _ _ _ C w2 (HC.o.keep c2) hv.1 (a3.o.keep c2));let⟨t0,t1,t2,t3,t4,t5,t6,I⟩:=s8 K2.o;clear hb c2 K hv s0 s1 s2 s3 s4 s5 s6 s7;go_wp2_with fail;refine HN.o.bC ?_;rintro e w3⟨A,rfl,ao,F⟩;let⟨D3,L3,bk⟩:=Jh3 ao (L2.o.bu (F.bC L2.o.size)) (au.o.keep F);let⟨g,hg⟩:=aH A.gy;have HG:=aa hg;rw[hg];let⟨B,hB⟩:=aH w2.heap.size;have a4:=aa hB;rw[hB]at D3;have bc:Hid (w.heap.size<=B):=aa (by rw[<-hB];exact L2.o.size);have aP:Hid (Sl rJ 7 w2 (.slice ad l.length aR) l):=au;have E:=aa F;clear ao F hg hB HN t0 t1 t2 t3 t4 t5 t6 I au;go_wp2;go_loopw[8,7] (fun vi vf wr=>∃(k:Nat) (Y:YS) (A1:YA),k<=l.length/\vi=k/\vf=Y.log.length/\dp wr B A1 Y/\A1.gy=g/\xg C k Y/\Bw w2 wr) (fun vi _ _=>l.length-(intOf vi).toNat);exact⟨0,Y0 C,A,cH _,rfl,rfl,D3.o,HG.o,st0 C,E.o⟩;obtain⟨k,Y,A1,hk,rfl,rfl,hd,aS,aC,aK⟩:=hrel;let⟨HD,aB,ak,ai⟩:=Jh4 hd aS aC aK;clear hd aS aC aK;by_cases ag:k<l.length
 ·obtain⟨bl,bh,bb,ar,rfl,_,aT⟩:=(aP.o.keep ai.o).hd;let⟨r0,r1,r2,r3,r4,r5,r6⟩:=LC (aT k ag);have a9:0<=(k:Int):=af;have a8:k<(l:Int):=af;have aG:=aa ((abZ (B:=B) HV.o af ak.o l[k] (L.o _ (cZ ag))).at HD.o aB.o);clear aT;generalize l[k]=x at*;let⟨av,i⟩:∃f,Y.log.length=f:=⟨_,rfl⟩;have y:=aa i;rw[i];clear i;go_wp2_with(go_at_call 9;refine aG.o.bC ?_;rintro e w5⟨er,n9,A5,Y5,rfl,ac,u,ev,U,aj⟩;have G:=aa ac;have Q:=aa u;have n:=aa U;have aD:=aa aj;have ap:=aa (ac.mod.low ai.o (Nat.le_of_eq a4.o));have az:Hid (A5.gy=g):=aa (ac.gy.bu aB.o);have D:=aa (u.log HV.o (bW ag ae));have aq:=aa (aaZ ac.at' D.o);rw[az.o]at aq;clear ac u U aj);let⟨d,an⟩:=Jh2 HV.o.m2 HV.o.s2;refine aq.o.bC ?_;rintro e X⟨v6,rfl,o6,c6⟩;let⟨O6,C6,BX⟩:=Jh3 o6 c6 (ap.o.bu (c6.bC ap.o.size));let⟨WX,DX⟩:=Jh2 (L2.o.bu (BX.o.bC L2.o.size)) (G.o.at'.keep c6);have ax:Hid (Y5.log.drop av=ev):=aa (by rw[n.o,<-y.o,List.drop_left]);have aQ:Hid (av<=Y5.log.length):=aa (by rw[n.o,cO,y.o];exact Nat.le_add_right _ _);have ak:=aa (aca _ _ _ v6 C Y5.log av X (a5.o.keep WX.o) d.o an.o (Sl.own jg o6) aQ.o D.o (by rw[ax.o];exact aD.o));rw[ax.o]at ak;obtain⟨n6,k6,rfl⟩:=bV o6;let⟨t0,t1,t2,t3,t4,t5,t6,I⟩:=s8 (K2.o.keep BX.o);clear o6 c6 aG aq ax aQ r0 r1 r2 r3 r4 r5 r6;go_wp2_with fail;refine ak.o.bC ?_;rintro e x7⟨vo,P,rfl,j⟩;have G7:=aa j;have C7:Hid (Bw X x7):=aa j.low;let⟨S,hS⟩:=aH C.secs.length;let⟨M,hM⟩:=aH C.mem.length;rw[hS,hM]at G7;rw[hM]at d;rw[hS]at an;have aA:Hid (tN S M ev):=aa (by rw[<-hS,<-hM];exact aD.o);obtain⟨no,ko,rfl⟩:=bV j.own;have H:Hid (P.length=S+1):=aa (by rw[G7.o.len,tQ]);let⟨N,hN⟩:=aH P.length;rw[hN]at H G7⊢;clear j hS hM hN ak t0 t1 t2 t3 t4 t5 t6 I;go_wp2;go_loopw[12] (fun va wr=>∃a:Nat,a<=N/\va=a/\Bw x7 wr) (aW N);exact⟨0,cH _,rfl,bM _ _⟩;obtain⟨a,ha,rfl,aJ⟩:=hrel;have r:=aa aJ;clear aJ;by_cases ab:a<N
  ·have V:a<=S:=by
    have h:=ab;rw[H.o]at h;exact Nat.le_of_lt_succ h
   obtain⟨b,ar,p,q,rfl,a1,aL,ay,aO,d1,d2,aE,a2,a0⟩:=G7.o.at (a:=a) V;let⟨gs,ls,sg,sl,fl⟩:=(G7.o.keep r.o).qd d.o aA.o (a:=a) V aO;have u1:=(r.o.c (p:=(b,ar+a*2)) aE).bu d1;have u2:=(r.o.c (p:=(b,ar+a*2+1)) aE).bu d2;have HF:=aa (abO _ _ gs ls wr sg sl fl);have ba:0<=(a:Int):=ub a;have bm:a<(N:Int):=adb.2 ab;have aN:=aa ab;have a7:N<=ko:=by rw[H.o];exact aL
   unfold maxLen at ay;have aV:=(gJ a (bW V (bW an.o ah))).1;have aU:=(gJ a (bW V (bW an.o ah))).2;clear a1 aL aO d1 d2 a2 a0 sg sl fl ab V;go_wp2_with(go_at_call 12;refine HF.o.bC ?_;rintro e y1⟨rfl,cy⟩;have CY:=aa (r.o.bu (cy.bC r.o.size));clear cy);go_roundw;exact⟨a+1,aN.o,aw,CY.o⟩;exact eZ aN.o
  ·have ay:¬(a<(N:Int)):=fun h=>ab (adb.1 h);have aV:=(gJ k (bW hk (bW ae ah))).1;have aU:=(gJ k (bW hk (bW ae ah))).2;clear ab ha;go_wp2_with fail;exact⟨⟨k+1,Y5,A5,ag,aw,rfl,(DX.o.keep C7.o).keep r.o,az.o,Q.o,(BX.o.bu (C7.o.bC BX.o.size)).bu (r.o.bC (BX.o.bu (C7.o.bC BX.o.size)).size)⟩,eZ ag⟩
 ·have ay:¬(k<(l:Int)):=af;go_wp2_with(go_at_call 7;refine(aF.o _ (L2.o.bu (ai.o.bC L2.o.size))).bC ?_;rintro e w3⟨rfl,F⟩);go_ret;exact⟨rfl,(L2.o.bu (ai.o.bC L2.o.size)).bu (F.bC (L2.o.bu (ai.o.bC L2.o.size)).size)⟩
