/- Lemmas for TopShares and TopKept; no law is closed here. -/
import Derived.Test.YtmhohaanddglbaaGreatDoorM01
import Derived.Shelf.SlicesQ.IndexFunc
import Derived.Shelf.SlicesE.IndexFunc
import Derived.Shelf.SlSortCmp.Insertion
import Derived.Shelf.Spec.SlicesGrow
import Derived.Shelf.SlIterI.Nil
import Derived.Shelf.SortM.Plain
import Derived.Shelf.SortM.SortNone
import Derived.Deep.OwnRows
set_option linter.all false
set_option maxRecDepth 100000
set_option maxHeartbeats 16000000
namespace Go.Proofs.YtmhohaanddglbaaGreatDoor
open Go.RowKit Go.Proofs.Tryz ZA ZU ZI ZD ZP ZR ZT ZS ZE ZO
variable{p:Prop}
def Qae(h:p:=by
  go_enter func259,ntmps259;go_wp2_with(first
   |(go_at_call 241;refine S.o.bC ?_;rintro e w1⟨rfl,Y⟩;rw[r.o];have j:=(D.o.keep Y).blk.c 0;obtain⟨A,E,H,q3,q4,q5⟩:=ab.o w1 Y)
   |(go_at_call 242;refine(p.o _).bC ?_;rintro e w2⟨rfl,f⟩;have L:=Y.bu (f.bC Y.size);clear j A E H q3 q4 q5;have j:=(D.o.keep L).blk.c 0;obtain⟨A,E,H,q3,q4,q5⟩:=ab.o w2 L))
  go_ret;rw[T.o];exact kR.same D.o L):p:=h
def Qag(h:p:=by clear u a ad;go_enter func251,ntmps251;go_wp2_with(first|(go_at_call 227;refine(pI ⟨k,m⟩ _).bC ?_;rintro e L⟨rfl,rfl⟩;rw[S.o];have F:=b.alloc b.size (bH (cT ⟨k,m⟩) 81);have H:=aa (M.o.keep (C _));have A:=aa (T.o.keep (C _));have d0:=A.o.c 0;have d1:=A.o.c 1;have Q:=A.o.c 2;have l:=A.o.c 3)|(go_at_call 307;refine(wc B gv gb gh vb vh ms na hms hna bal hl hbl dd room holds af ⟨k,m⟩ bK _ H.o).bC ?_;rintro e R⟨rfl,p⟩;rw[HU.o];have I:=aa (H.o.keep p);have U:=aa (A.o.keep p);have c5:=F.bu (p.bC F.size);have Z:=I.o.blk.c 1;clear p)|(go_at_call 308;refine(vZ gh room vh holds id _ I.o.hblk (Sl.own kK I.o.hown) af ag.o).bC ?_;rintro e x6⟨x,rfl,_,D⟩;rw[ae.o];have ab:=aa ((I.o.keep D).keep (cB x _));have N:=aa ((U.o.keep D).keep (cB x _));have i:=(c5.bu (D.bC c5.size)).alloc (c5.bu (D.bC c5.size)).size (.cells #[x.cq,x.mem,x.bK,x.bJ] 182);have Y:=ab.o.blk.c 1;clear D)|(go_at_call 309;refine(CE gh vh room holds _ ab.o.hblk (Sl.own kK ab.o.hown) af af).bC ?_;rintro e x8⟨rfl,c8⟩;have O:=aa (ab.o.keep c8);have J:=aa (N.o.keep c8);have E:=i.bu (c8.bC i.size);have y:=O.o.blk.c 1;have G:=J.o.c 0;have e1:=J.o.c 1;have e2:=J.o.c 2;have e3:=J.o.c 3;clear c8));go_ret;rw[q.o];exact pM.same f.o E):p:=h
def Qai(h:p:=by
  have s2:(r:Int)+(m:Int)-1-((i:Int)+(j:Int))/2=(p:Int):=af;have s:=aE.o p af q;have P:=aE.o ((i+j)/2) af q;rw[<-C]at s P;have F:(i+j)/2<d.size:=af;let⟨x,hx⟩:=aH (d[p]!);let⟨y,B⟩:=aH (d[(i+j)/2]!);rw[hx]at s;rw[B]at P;have L:∀n,bG g (#[cG x,cG y]++cb) (wr.drewN n) fun e w'=>e=.returned (cf x y)/\∃q',w'=(wr.drewN n).drewN q':=fun n=>by
   have:=HC.o (q+n) x y
   rw[<-World.drewN_drewN,<-C]at this;exact this
  let⟨aD,T,HY,ax⟩:=Jh4 L hx B hp;clear C L hx B hp;by_cases hv:cf x y<0
  ·have hd:=dT hv;go_wp2_with fail;go_quiet(first|(go_at_fn g;refine Calls.quiet_of (aD.o _)));go_wp2;go_roundw;exact⟨i,(i+j)/2,q+nq,rfl,aw,af,af,af,by rw[O.o,World.drewN_drewN],an.o,ci (by rw[show r+m-(i+j)/2-1=p by have:=ax.o;omega,T.o,HY.o];exact zF hv)⟩;simp[intOf];omega
  ·have hd:=dF hv;go_wp2_with fail;go_quiet(first|(go_at_fn g;refine Calls.quiet_of (aD.o _)));go_wp2;go_roundw;exact⟨(i+j)/2+1,j,q+nq,aw,rfl,af,af,af,by rw[O.o,World.drewN_drewN],ci (by rw[show(i+j)/2+1-1=(i+j)/2 by omega,show r+m-((i+j)/2+1)=p by have:=ax.o;omega,T.o,HY.o];exact zH hv),Z.o⟩;simp[intOf];omega):p:=h
def Qaj(h:p:=by show L.length+1<=maxLen;unfold maxLen;omega):p:=h
def Qao(h:p:=by
  go_enter func259,ntmps259;go_wp2_with(first
   |(go_at_call 241;refine S.o.bC ?_;rintro e w1⟨rfl,Y⟩;rw[r.o];have j:=(D.o.keep Y).blk.c 0;obtain⟨A,E,H,q3,q4,q5⟩:=ab.o w1 Y)
   |(go_at_call 242;refine(p.o _).bC ?_;rintro e w2⟨rfl,f⟩;have L:=Y.bu (f.bC Y.size);clear j A E H q3 q4 q5;have j:=(D.o.keep L).blk.c 0;obtain⟨A,E,H,q3,q4,q5⟩:=ab.o w2 L))
  have R:=G.o w2 L (i*6+4);have J:=G.o w2 L (i*6+5);go_region
  all_goals
   go_wp2;go_ret;rw[T.o];obtain⟨h1,h2⟩:=ad.o w2.drew (gM L 1) _ (by first|exact bS rfl|exact ci rfl);exact⟨rfl,h1,h2⟩):p:=h
def Qaq(h:p:=by
  go_enter func195,ntmps195;go_wp2_with(go_at_call 241;refine S.o.bC ?_;rintro e k⟨rfl,d⟩;rw[r.o];have j:=(D.o.keep d).blk.c 0;obtain⟨_,_,_,s,_,_⟩:=f.o k d);try go_quiet(fail)
  go_wp2;go_ret2;exact⟨by rw[T.o];rfl,by first|exact d|exact gM d _⟩):p:=h
def Qav(h:p:=by go_enter func258,ntmps258;go_wp2_with fail;go_quiet(fail);go_wp2;go_ret2;exact⟨by rw[q.o];rfl,by first|exact C|exact gM C _⟩):p:=h
def QaA(h:p:=by go_wp2;go_loopw[8] (fun vi wr=>vi=.int .i64 0/\wr=w) (fun _ _=>0);exact⟨rfl,rfl⟩;obtain⟨rfl,rfl⟩:=hrel;go_wp2;go_ret;exact⟨rfl,rfl⟩):p:=h
def QaN(h:p:=by show(L.length+1)*8<=_;omega):p:=h
def QaO(h:p:=by go_enter func291,ntmps291;go_wp2;go_ret;exact⟨by rw[Q.o,K.o];rfl,C⟩):p:=h
def QaQ(h:p:=by rw[q.o,yc (by unfold mr;simp;omega)]):p:=h
def QaU(h:p:=by
  have:=hcmp q #[] d rfl x y
  rw[sortWorld_none,putRow_self cG w blk off d hH]at this;exact this):p:=h
def QaX(h:p:=by show(L.length+1)*24<=_;omega):p:=h
def Qa5(h:p:=by have i:¬(((l1.length+l2.length:Nat):Int)<0):=af;have u:=c.o;have K:¬((l1:Int)+(l2:Int)<0):=af;go_wp2;go_roundw;exact⟨aE,ci (ci ⟨rfl,au⟩)⟩;decide):p:=h
def Qbm(h:p:=by go_enter func316,ntmps316;go_wp2;go_ret;exact⟨by rw[q.o];rfl,C⟩):p:=h
def Qbn(h:p:=by have i:¬((l1:Int)<0):=af;have u:wrap64 (0+(l1:Int))=(l1:Int):=aC;go_wp2;go_roundw;exact⟨aE,ci (bS ⟨rfl,rfl⟩)⟩;decide):p:=h
def Qbp(h:p:=by go_wp2_with(go_at_call 275;refine H.o.bC ?_;rintro e i⟨v,rfl,h,b⟩);obtain⟨a,c,rfl⟩:=bV h;go_ret;exact⟨_,rfl,h,b⟩):p:=h
def Qbt(h:p:=by rw[y.o,show eJ p x=none from(by unfold eJ;rw[ya (fun h=>by rw[d.o]at h;cases h.2)])];simp):p:=h
def QbC(h:p:=by go_wp2_with(go_at_call 195;refine E.o.bC ?_;rintro e H⟨rfl,u⟩;rw[f.o]);go_ret;rw[q.o];exact kR.same D.o u):p:=h
def QbM(h:p:=by rw[y.o,show eJ p x=none from(by unfold eJ;rw[ya (fun h=>X.o h.1)])];simp):p:=h
def QbO(h:p:=by rw[y.o,show eJ p x=some x from(by unfold eJ;rw[yc ⟨X.o,d.o⟩])];rfl):p:=h
def QbP(h:p:=by have Q:=aa ho;rw[cO]at ho;obtain⟨P,x,rfl⟩:=bV ho;clear ho;go_wp2;go_ret;exact⟨_,rfl,Q.o,F⟩):p:=h
def Qb7(h:p:=by show(L.length+1)*48<=_;omega):p:=h
def Qce(h:p:=by rw[aj.o];exact hb):p:=h
def Qcf(h:p:=by go_end0;exact⟨rfl,S,v,ac,ae.o,(ab.o af).done af af,by first|rfl|exact ag.o⟩):p:=h
def Qcn(h:p:=by rw[<-aC];exact h):p:=h
def Qcp(h:p:=by apply Array.toList_inj.1;refine h.bu ?_;rw[nN,List.map_replicate];simp[gR]):p:=h
def QcC(h:p:=by clear t j;go_wp2;go_roundw;exact⟨k+1,af,aw,by rw[I.o],r⟩;exact aV):p:=h
def QcD(h:p:=by
  by_cases h:t<a
  ·rw[yc h]
  ·rw[ya h,ya af,ya af]):p:=h
def QcJ(h:p:=by rw[q.o,ya (by unfold mr;simp;omega)]):p:=h
def QcK(h:p:=by unfold maxLen;omega):p:=h
def QcP(h:p:=by go_ret2;exact⟨by rw[q.o];rfl,by first|exact C|exact gM C _⟩):p:=h
def QcU(h:p:=by go_roundw;exact⟨k+1,af,aw,by rw[I.o];exact A.o,V⟩;exact aV):p:=h
def QcX(h:p:=by simp[results,results341,go_sem,W,I,h]):p:=h
def QcY(h:p:=by
  have:=h.eq
  generalize q*y1=a at*;generalize q*y0=b at*;omega):p:=h
def Qc4(h:p:=by obtain⟨rfl,rfl⟩:=hrel;go_wp2;go_end0;exact⟨rfl,rfl⟩):p:=h
def Qdb(h:p:=by rw[putRow_self cG w blk off d z.o]):p:=h
def Qdc(h:p:=by rw[q.o,yc F]):p:=h
def Qdf(h:p:=by rw[u.o,ya (aG a)];simp[ad,ac]):p:=h
def Qdk(h:p:=by go_ret;rw[T.o];let⟨d,Y⟩:=J.o _ cD;exact⟨rfl,d,Y⟩):p:=h
section
attribute [local go_sem ↓] wp_at_zero wp_at_succ
variable{ms:Nat}{bal:bF Int}
def Hs{na:Nat}(h:ep bal)(a:Ac)(bK:Int):bO (jU ms na bal a bK).1:=by
 unfold jU;split
 ·dsimp only;rw[dy];cases hq:bal[(gF ms na a bK).1.toNat]? with
  |none=>decide
  |some x=>
   obtain⟨p,rfl⟩:=ada.1 hq;exact h _ (cZ p)
 ·decide
def oK(ms na:Nat)(holds:List RH)(bal:List Int)(a:Ac)(bK:Int):Int×Int:=if(jU ms na bal a bK).2≠0 then(0,(jU ms na bal a bK).2)else dK ((jU ms na bal a bK).1-nR holds a bK)
def CR(B gv gb gh:Nat)(vb vh:bE)(ms na:Nat)(hms:ms<=16)(hna:na<=9)(bal:bF Int)(hl:bal.length=na*(6+3*ms))(dd room:Int)(holds:bF RH)(a:Ac)(bK:Int)(w:bD)(hV:gY w B gv gb gh vb vh ms na bal dd room holds):
  bG 89 #[ptr gv,fo a,bK] w (bi (bg (jU ms na bal a bK)) w):=
 Ou gv gb #[ptr gb,ptr gh] rfl a bK _ _ w hV.blk (fun W hW=>Ck B gb vb ms na bal dd hms hna hl a bK W (hV.book.keep hW))
def wc(B gv gb gh:Nat)(vb vh:bE)(ms na:Nat)(hms:ms<=16)(hna:na<=9)(bal:bF Int)(hl:bal.length=na*(6+3*ms))(hbl:ep bal)(dd room:Int)(holds:bF RH)(hn:holds.length<=1000)(a:Ac)(bK:Int)(w:bD)(hV:gY w B gv gb gh vb vh ms na bal dd room holds):
  bG 307 #[ptr gv,fo a,bK] w (bi (bg (oK ms na holds bal a bK)) w):=by
 have K:=Hs (ms:=ms) (na:=na) hbl a bK;have z:=PJ holds a bK;let⟨⟨n,y⟩,t⟩:∃r,jU ms na bal a bK=r:=⟨_,rfl⟩;let⟨u,x⟩:∃r,nR holds a bK=r:=⟨_,rfl⟩;let⟨h,q⟩:=Jh2 t x;have f:Hid (oK ms na holds bal a bK=if y≠0 then(0,y)else dK (n-u)):=aa (by unfold oK;rw[t,x]);rw[t]at K;rw[x]at z;dsimp only at K;obtain⟨k,m⟩:=a;have C:Bw w (aZ w (cT ⟨k,m⟩) 81):=aI;let⟨M,V⟩:=Jh2 (hV.keep C) (bI.new w 81 (cT ⟨k,m⟩));have N:=aa (CR B gv gb gh vb vh ms na hms hna bal hl dd room holds ⟨k,m⟩ bK _ M.o);clear hV t x;by_cases v:y=0
 ·subst v;let⟨⟨s,P⟩,g⟩:∃r,dK (n-u)=r:=⟨_,rfl⟩;have d:Hid (oK ms na holds bal ⟨k,m⟩ bK=(s,P)):=aa (by rw[f.o,ya au,g]);have S:=aa g;clear f g;go_enter func307,ntmps307;go_wp2_with(first
   |(go_at_call 89;refine N.o.bC ?_;rintro e i⟨rfl,b⟩;rw[h.o];have F:=C.bu (b.bC C.size);have j:=aa (M.o.keep b);have p:=V.o.keep b;have A:=p.c 0;have E:=p.c 1;clear b p)
   |(go_at_call 228;refine(Hb gv gb gh vh room holds ⟨k,m⟩ bK _ j.o.blk j.o.hblk (Sl.own kK j.o.hown) hn).bC ?_;rintro e I⟨rfl,G⟩;rw[q.o];have l:=F.bu (G.bC F.size);clear G)
   |(go_at_call 204;refine(yW n u K z _).bC ?_;rintro e O⟨rfl,D⟩;rw[S.o];try subst D))
  go_ret2;exact⟨by rw[d.o];rfl,l⟩
 ·have H:(y !=0)=true:=aG v;have d:Hid (oK ms na holds bal ⟨k,m⟩ bK=(0,y)):=aa (by rw[f.o,yc v]);clear f v;go_enter func307,ntmps307;go_wp2_with(go_at_call 89;refine N.o.bC ?_;rintro e i⟨rfl,b⟩;rw[h.o];have F:=C.bu (b.bC C.size));go_ret2;exact⟨by rw[d.o];rfl,F⟩
def lY(ms na:Nat)(room:Int)(holds:List RH)(bal:List Int)(h:RH):Int×List RH:=
 if h.bJ<0∨nL ⟨h.cq,h.mem⟩=true then(1,holds)
 else if(oK ms na holds bal ⟨h.cq,h.mem⟩ h.bK).2≠0 then((oK ms na holds bal ⟨h.cq,h.mem⟩ h.bK).2,holds)
 else if dJ RH.bR holds h.bR=true then(7,holds)
 else if room<=holds then(6,holds)
 else if(oK ms na holds bal ⟨h.cq,h.mem⟩ h.bK).1<h.bJ then(13,holds)
 else(0,ef holds (dQ RH.bR holds h.bR) h)
def pM(B gv gb gh:Nat)(vb:Value)(ms na:Nat)(bal:List Int)(dd room:Int)(K:List Nat)(vh:Value)(r:Int×List RH)(w:World)(e:Ending)(w':World):Prop:=∃vh',e=.returned r.1/\gY w' B gv gb gh vb vh' ms na bal dd room r.2/\cg B [227,333] K w w'/\kP w vh vh'
variable{w:bD}{g:Nat}{cs:Array bE}
def bI.d{wd:bD}{T:TypeId}(h:bI w g T cs)(e:wd.heap=w.heap:=by rfl):bI wd g T cs:=by unfold bI;rw[e];exact h
variable{v:bE}{n:Nat}{xs:bF bE}
def lu{wd:bD}{base:Nat}{e:TypeId}{size:Nat}(h:w.ownsRow base e size v n xs)(eh:wd.heap=w.heap:=by rfl):wd.ownsRow base e size v n xs:=ed h fun k hk=>by rw[eh]
variable{B gv gb gh:Nat}{vb vh:bE}{dd:Int}{holds:bF RH}
def gY.d{wd:bD}{na:Nat}{room:Int}(h:gY w B gv gb gh vb vh ms na bal dd room holds)(e:wd.heap=w.heap:=by rfl):gY wd B gv gb gh vb vh ms na bal dd room holds:=⟨h.blk.d e,⟨h.book.blk.d e,lu h.book.own e⟩,h.hblk.d e,lu h.hown e,h.l1,h.l2,h.l3⟩
variable{w':bD}
def pM.same{na:Nat}{room:Int}{K:bF Nat}{n:Int}(hV:gY w B gv gb gh vb vh ms na bal dd room holds)(c:Bw w w'):pM B gv gb gh vb ms na bal dd room K vh (n,holds) w (.returned n) w':=⟨vh,rfl,hV.keep c,cg.below c,bS rfl⟩
def gY.grew{vh':bE}{na:Nat}{room:Int}{l:bF RH}{K:bF Nat}(hV:gY w B gv gb gh vb vh ms na bal dd room holds)(h:lH eX 5 333 w w' B gh 227 #[room,vh] 1 vh l K vh'):gY w' B gv gb gh vb vh' ms na bal dd room l:=⟨hV.blk.cu h.mod ah,⟨hV.book.blk.cu h.mod ah,dq hV.book.own h.mod ah⟩,h.blk,h.own,hV.l1,hV.l2,hV.l3⟩
def Qu(B gv gb gh:Nat)(vb vh:bE)(ms na:Nat)(hms:ms<=16)(hna:na<=9)(bal:bF Int)(hl:bal.length=na*(6+3*ms))(hbl:ep bal)(dd room:Int)(hroom:room<=1000)(holds:bF RH)(hn:(holds:Int)<=room)(hs:fK RH.bR holds)(h:RH)(K:bF Nat)(w:bD)(hV:gY w B gv gb gh vb vh ms na bal dd room holds)(hKg:gh∉K)(hKv:∀k,vh.ownBlock=some k->k∉K)(hBw:B<=w):
  bG 251 #[ptr gv,h.bR,.agg #[h.cq,h.mem,h.bK,h.bJ]] w (pM B gv gb gh vb ms na bal dd room K vh (lY ms na room holds bal h) w):=by
 obtain⟨id,k,m,bK,bJ⟩:=h;let⟨⟨aj,er⟩,X⟩:∃r,oK ms na holds bal ⟨k,m⟩ bK=r:=⟨_,rfl⟩;let⟨fr,al⟩:∃r,nL ⟨k,m⟩=r:=⟨_,rfl⟩;let⟨t,am⟩:∃r,dJ RH.bR holds id=r:=⟨_,rfl⟩;let⟨HU,S,ae⟩:=Jh3 X al am;have u:Hid (lY ms na room holds bal ⟨id,k,m,bK,bJ⟩=if bJ<0∨fr=true then(1,holds)else if er≠0 then(er,holds)else if t=true then(7,holds)else if room<=holds then(6,holds)else if aj<bJ then(13,holds)else(0,ef holds (dQ RH.bR holds id) ⟨id,k,m,bK,bJ⟩)):=aa (by unfold lY;dsimp only;rw[X,al,am]);let⟨W1,v⟩:∃W1,W1=w.alloc (bH #[aY k,m,bK,bJ] 182):=⟨_,rfl⟩;have b:Bw w W1:=by rw[v];exact aI
 have ak:bI W1 w 182 #[aY k,m,bK,bJ]:=by rw[v];exact bI.new _ _ _
 let⟨P,z,b2,V⟩:=ak.k4 0 1 2 3;have C:∀W:bD,Bw W (W.alloc (bH (cT ⟨k,m⟩) 81)):=fun W=>aI;let⟨T,f,M,ag,aq⟩:=Jh5 ak hV (hV.keep b) hs hKv;clear X al am ak hV hs hKv;have cB:∀(x:RH) (W:bD),Bw W (W.alloc (bH #[x.cq,x.mem,x.bK,x.bJ] 182)):=fun x W=>aI;subst v;dsimp only;by_cases a:bJ<0
 ·have hd:=dT a;have q:Hid (lY ms na room holds bal ⟨id,k,m,bK,bJ⟩=(1,holds)):=aa (by rw[u.o,yc (bS a)]);have s:=aa b;clear u a b;go_enter func251,ntmps251;go_wp2;go_ret;rw[q.o];exact pM.same f.o s.o
 have hd:=dF a;cases fr with
 |true=>
  have q:Hid (lY ms na room holds bal ⟨id,k,m,bK,bJ⟩=(1,holds)):=aa (by rw[u.o,yc (ci rfl)]);clear u a;go_enter func251,ntmps251;go_wp2_with(first|(go_at_call 227;refine(pI ⟨k,m⟩ _).bC ?_;rintro e L⟨rfl,rfl⟩;rw[S.o];have F:=b.alloc b.size (bH (cT ⟨k,m⟩) 81);have H:=aa (M.o.keep (C _));have A:=aa (T.o.keep (C _));have d0:=A.o.c 0;have d1:=A.o.c 1;have Q:=A.o.c 2;have l:=A.o.c 3));go_ret;rw[q.o];exact pM.same f.o F
 |false=>
 by_cases ai:er=0
 case neg=>
  have au:(er !=0)=true:=aG ai;have q:Hid (lY ms na room holds bal ⟨id,k,m,bK,bJ⟩=(er,holds)):=aa (by rw[u.o,ya (aG a),yc ai]);clear u a ai;go_enter func251,ntmps251;go_wp2_with(first|(go_at_call 227;refine(pI ⟨k,m⟩ _).bC ?_;rintro e L⟨rfl,rfl⟩;rw[S.o];have F:=b.alloc b.size (bH (cT ⟨k,m⟩) 81);have H:=aa (M.o.keep (C _));have A:=aa (T.o.keep (C _));have d0:=A.o.c 0;have d1:=A.o.c 1;have Q:=A.o.c 2;have l:=A.o.c 3)|(go_at_call 307;refine(wc B gv gb gh vb vh ms na hms hna bal hl hbl dd room holds af ⟨k,m⟩ bK _ H.o).bC ?_;rintro e R⟨rfl,p⟩;rw[HU.o];have I:=aa (H.o.keep p);have U:=aa (A.o.keep p);have c5:=F.bu (p.bC F.size);have Z:=I.o.blk.c 1;clear p));go_ret;rw[q.o];exact pM.same f.o c5
 subst ai;cases t with
 |true=>
  have q:Hid (lY ms na room holds bal ⟨id,k,m,bK,bJ⟩=(7,holds)):=aa (by rw[u.o,ya (aG a)];simp);clear u a;go_enter func251,ntmps251;go_wp2_with(first|(go_at_call 227;refine(pI ⟨k,m⟩ _).bC ?_;rintro e L⟨rfl,rfl⟩;rw[S.o];have F:=b.alloc b.size (bH (cT ⟨k,m⟩) 81);have H:=aa (M.o.keep (C _));have A:=aa (T.o.keep (C _));have d0:=A.o.c 0;have d1:=A.o.c 1;have Q:=A.o.c 2;have l:=A.o.c 3)|(go_at_call 307;refine(wc B gv gb gh vb vh ms na hms hna bal hl hbl dd room holds af ⟨k,m⟩ bK _ H.o).bC ?_;rintro e R⟨rfl,p⟩;rw[HU.o];have I:=aa (H.o.keep p);have U:=aa (A.o.keep p);have c5:=F.bu (p.bC F.size);have Z:=I.o.blk.c 1;clear p)|(go_at_call 308;refine(vZ gh room vh holds id _ I.o.hblk (Sl.own kK I.o.hown) af ag.o).bC ?_;rintro e x6⟨x,rfl,_,D⟩;rw[ae.o];have ab:=aa ((I.o.keep D).keep (cB x _));have N:=aa ((U.o.keep D).keep (cB x _));have i:=(c5.bu (D.bC c5.size)).alloc (c5.bu (D.bC c5.size)).size (.cells #[x.cq,x.mem,x.bK,x.bJ] 182);have Y:=ab.o.blk.c 1;clear D));go_ret;rw[q.o];exact pM.same f.o i
 |false=>
 by_cases ad:room<=holds
 ·have q:Hid (lY ms na room holds bal ⟨id,k,m,bK,bJ⟩=(6,holds)):=aa (by rw[u.o,ya (aG a)];simp[ad]);have hz:(room-(holds:Int)==0)=true:=aA;exact Qag
 have hz:(room-(holds:Int)==0)=false:=aA;by_cases ac:aj<bJ
 ·have q:Hid (lY ms na room holds bal ⟨id,k,m,bK,bJ⟩=(13,holds)):=aa Qdf;have ap:=dT ac;exact Qag
 have q:Hid (lY ms na room holds bal ⟨id,k,m,bK,bJ⟩=(0,ef holds (dQ RH.bR holds id) ⟨id,k,m,bK,bJ⟩)):=aa Qdf;have ap:=dF ac;have ao:(holds:Int)<room:=af;clear u a ad ac;go_enter func251,ntmps251;go_wp2_with(first|(go_at_call 227;refine(pI ⟨k,m⟩ _).bC ?_;rintro e L⟨rfl,rfl⟩;rw[S.o];have F:=b.alloc b.size (bH (cT ⟨k,m⟩) 81);have H:=aa (M.o.keep (C _));have A:=aa (T.o.keep (C _));have d0:=A.o.c 0;have d1:=A.o.c 1;have Q:=A.o.c 2;have l:=A.o.c 3)|(go_at_call 307;refine(wc B gv gb gh vb vh ms na hms hna bal hl hbl dd room holds af ⟨k,m⟩ bK _ H.o).bC ?_;rintro e R⟨rfl,p⟩;rw[HU.o];have I:=aa (H.o.keep p);have U:=aa (A.o.keep p);have c5:=F.bu (p.bC F.size);have Z:=I.o.blk.c 1;clear p)|(go_at_call 308;refine(vZ gh room vh holds id _ I.o.hblk (Sl.own kK I.o.hown) af ag.o).bC ?_;rintro e x6⟨x,rfl,_,D⟩;rw[ae.o];have ab:=aa ((I.o.keep D).keep (cB x _));have N:=aa ((U.o.keep D).keep (cB x _));have i:=(c5.bu (D.bC c5.size)).alloc (c5.bu (D.bC c5.size)).size (.cells #[x.cq,x.mem,x.bK,x.bJ] 182);have Y:=ab.o.blk.c 1;clear D)|(go_at_call 309;refine(CE gh vh room holds _ ab.o.hblk (Sl.own kK ab.o.hown) af af).bC ?_;rintro e x8⟨rfl,c8⟩;have O:=aa (ab.o.keep c8);have J:=aa (N.o.keep c8);have E:=i.bu (c8.bC i.size);have y:=O.o.blk.c 1;have G:=J.o.c 0;have e1:=J.o.c 1;have e2:=J.o.c 2;have e3:=J.o.c 3;clear c8));have ar:dJ RH.bR holds id=false:=ae.o;go_region_held3(fun W=>W.cell? (be gv 1)=some (ptr gh)/\W.cell? (be w 0)=some (.int .i64 k)/\W.cell? (be w 1)=m/\W.cell? (be w 2)=bK/\W.cell? (be w 3)=bJ) (first|exact⟨y,G,e1,e2,e3⟩|exact⟨p4,g0,g1,g2,j⟩|assumption|go_keep)
  (first|(go_at_call 310;refine(Qn B gh room vh holds ⟨id,k,m,bK,bJ⟩ K _ (by exact O.o.hblk) O.o.l3 (by exact bW hBw E.size) (by exact O.o.hown) af ag.o hKg aq.o ar ao).bC ?_;rintro e x9⟨v',rfl,n⟩;have an:=aa (gY.grew O.o.d n);have g:=aa (bI.cu (show bI x8.drew w 182 _ from J.o) n.mod ah);have HG:=aa n;have p4:=an.o.blk.c 1;have g0:=g.o.c 0;have g1:=g.o.c 1;have g2:=g.o.c 2;have j:=g.o.c 3;have av:=ch p4 (ch g0 (ch g1 (ch g2 j)))))
 go_wp2;go_ret;rw[q.o];exact⟨v',rfl,an.o,(cg.below E).bu (cg.Qs 1 HG.o.mod),HG.o.goes.later E.size⟩
def sJ(holds:List RH)(id:Int):Int×List RH:=if dJ RH.bR holds id=true then(0,mq holds (dQ RH.bR holds id))else(8,holds)
def Qv(B gv gb gh:Nat)(vb vh:bE)(ms na:Nat)(bal:bF Int)(dd room:Int)(holds:bF RH)(hn:holds.length<=1000)(hs:fK RH.bR holds)(id:Int)(K:bF Nat)(w:bD)(hV:gY w B gv gb gh vb vh ms na bal dd room holds)(hKg:gh∉K)(hKv:∀k,vh.ownBlock=some k->k∉K)(hBw:B<=w):
  bG 211 #[ptr gv,id] w (pM B gv gb gh vb ms na bal dd room K vh (sJ holds id) w):=by
 have Z:=hV.blk.c 1;have M:=aa hV;cases hh:dJ RH.bR holds id with
 |true=>
  have E:=aa (Qr B gh room vh holds id K w hV.hblk hV.l3 hBw hV.hown af hs hKg hKv hh);have q:Hid (sJ holds id=(0,mq holds (dQ RH.bR holds id))):=aa (by unfold sJ;rw[yc hh]);clear hV hs hKv hh;go_enter func211,ntmps211;go_wp2_with(go_at_call 261;refine E.o.bC ?_;rintro e i⟨x,j,rfl,_,n⟩;have H:=aa n;clear n);go_ret;rw[q.o];have b:∀o,Bw i (i.alloc o):=fun o=>aI;exact⟨j,rfl,(M.o.grew H.o).keep (b _),H.o.mod.bu (cg.below (b _)),H.o.goes⟩
 |false=>
  have E:=aa (Qq gh room vh holds id w hV.hblk (Sl.own kK hV.hown) af hs hh);have q:Hid (sJ holds id=(8,holds)):=aa (by unfold sJ;rw[ya (by rw[hh];decide)]);clear hV hs hKv hh;go_enter func211,ntmps211;go_wp2_with(go_at_call 261;refine E.o.bC ?_;rintro e i⟨x,rfl,b⟩);go_ret;rw[q.o];exact pM.same M.o (b.alloc b.size _)
def Sl.Qw(w:bD)(T:TypeId)(n:Int)(b:Nat)(hb:w.heap.size=b):Sl eI 1 (aZ w #[n] T) (.slice (some (be b 0)) 1 1) [n]:=by
 subst hb;refine⟨some (be w 0),1,rfl,(fun h=>by cases h),au,az,fun _=>⟨w,0,rfl,au,fun i hi j u hu=> ?_⟩⟩;have d:i=0:=aG hi;subst d;have a:j=0:=by
  have:=(ada.1 hu).1
  simpa[eI]using this
 subst a;have:=(bI.new w T #[n]).c 0
 simp[eI]at hu;subst hu;simp
def Qx(B gv gb gh:Nat)(vb vh:bE)(ms na:Nat)(bal:bF Int)(dd room:Int)(holds:bF RH)(hn:holds.length<=1000)(w:bD)(hV:gY w B gv gb gh vb vh ms na bal dd room holds):
  bG 210 #[ptr gv] w fun e w'=>∃v,e=.returned v/\w'.ownsRow w 2 1 v holds (bN eI (holds.map RH.bR))/\Bw w w':=by
 have p1:=hV.blk.c 1;have HR:=aa (G9 gh vh room holds w hV.hblk (Sl.own kK hV.hown) af);let⟨J,p,S,X,L⟩:=wm mW;clear hV;go_enter func210,ntmps210;go_wp2_with(go_at_call 260;refine HR.o.bC ?_;rintro e i⟨v1,rfl,h,H⟩;have hf:=bV h;obtain⟨W,K,rfl⟩:=hf);have D:=aa (Sl.own kK h);have m:=H.size;clear h;go_loopw[3,14] (fun vo vi wr=>∃k:Nat,k<=holds.length/\vi=k/\wr.ownsRow i 2 1 vo k (bN eI ((holds.take k).map RH.bR))/\Bw i wr) (fun _ vi _=>holds.length-(intOf vi).toNat);exact⟨0,cH _,rfl,⟨aK,bS ⟨rfl,rfl⟩⟩,bM _ _⟩;obtain⟨k,hk,rfl,h,r⟩:=hrel;have Q:=aa h;obtain⟨V,ko,rfl⟩:=bV h;clear h;by_cases y:k<holds
 ·obtain⟨ad,N,b,ac,rfl,_,n⟩:=(D.o.keep r).hd;let⟨r0,s,P,f,Y⟩:=xR (n k y);have R:0<=(k:Int):=af;have C:k<(holds:Int):=af;unfold maxLen at N;have z:Hid ((holds.take k).map RH.bR++[holds[k].bR]=(holds.take (k+1)).map RH.bR):=aa (by rw[fj y,jf];rfl);have Z:Hid (((holds.take k).map RH.bR).length=k):=aa aA;clear n;generalize holds[k]=x at*;obtain⟨j,d,F,T,O⟩:=x;dsimp only at r0 s P f Y z;have t:=r.alloc r.size (bH (oC ⟨j,d,F,T,O⟩) 333);have E:=Q.o.alloc (bH (oC ⟨j,d,F,T,O⟩) 333);have I:=E.alloc (bH #[j] 2);have A:=aa I;have u:Hid (Bw i ((wr.alloc (bH (oC ⟨j,d,F,T,O⟩) 333)).alloc (bH #[j] 2))):=aa (t.alloc t.size _);clear E I;go_wp2_with(at_builtin;refine fG kI ah kj _ rfl _ _ 45 rfl i 2 J (aY 0) 8 underlying45 p S X L aB (.slice V k ko) ((holds.take k).map RH.bR) rfl (by rw[Z.o];exact A.o) (some (be (wr.heap.size+1) 0)) 1 [j] rfl (Sl.Qw _ 2 j _ au) (by rw[Z.o];show k+1<=maxLen;unfold maxLen;omega) (by rw[Z.o];show(k+1)*8<=_;omega) u.o.size ?_;intro v' w2 h l M);rw[z.o]at h;have a:((holds.take (k+1)).map RH.bR).length=k+1:=aA;rw[a]at h;have G:Bw i w2:=u.o.grown l (by exact u.o.size) (fun q hq=>(A.o.lt q hq).1);obtain⟨n2,U,rfl⟩:=bV h;go_wp2;go_roundw;exact⟨k+1,af,aw,h,G⟩;exact aV
 ·obtain rfl:k=holds.length:=af;have ab:¬(holds.length<(holds:Int)):=af;have g:holds.take holds.length=holds:=eU (bL _);rw[g]at Q;go_wp2;go_ret;exact⟨_,rfl,d8 Q.o m,H.bu (r.bC H.size)⟩
end
end Go.Proofs.YtmhohaanddglbaaGreatDoor
namespace Go.Proofs
open Go.Proofs.Tryz
section
open Go.Shelf
def Tryz.l290_ren:Go.Shelf.Ren:=⟨fun|6=>290|n=>n,fun|22=>64|23=>71|25=>358|3=>3|0=>0|4=>4|n=>n,fun|n=>n⟩
theorem Tryz.l290:Go.Proofs.SlLaysH0.n6 prog Tryz.l290_ren:={
 mixed:=by kernel_rfl
 f6:=⟨f290.name,by decide,func290.trans (congrArg some (by kernel_rfl))⟩
 t0:=underlying0
 a0:=isAgg0
 z0:=sizeOf0
 v0:=zeroValue0
 t3:=underlying3
 a3:=isAgg3
 z3:=sizeOf3
 v3:=zeroValue3
 t4:=underlying4
 a4:=isAgg4
 z4:=sizeOf4
 v4:=zeroValue4
 t22:=underlying64
 a22:=isAgg64
 z22:=sizeOf64
 v22:=zeroValue64
 t25:=underlying358
 a25:=isAgg358
 z25:=sizeOf358
 v25:=zeroValue358}
def Tryz.l304_ren:Go.Shelf.Ren:=⟨fun|8=>304|6=>290|n=>n,fun|22=>64|23=>71|25=>358|4=>4|3=>3|0=>0|n=>n,fun|n=>n⟩
theorem Tryz.l304:Go.Proofs.SlLaysH0.n8 prog Tryz.l304_ren:={
 mixed:=by kernel_rfl
 f6:=⟨f290.name,by decide,func290.trans (congrArg some (by kernel_rfl))⟩
 f8:=⟨f304.name,by decide,func304.trans (congrArg some (by kernel_rfl))⟩
 t0:=underlying0
 a0:=isAgg0
 z0:=sizeOf0
 v0:=zeroValue0
 t3:=underlying3
 a3:=isAgg3
 z3:=sizeOf3
 v3:=zeroValue3
 t4:=underlying4
 a4:=isAgg4
 z4:=sizeOf4
 v4:=zeroValue4
 t22:=underlying64
 a22:=isAgg64
 z22:=sizeOf64
 v22:=zeroValue64
 t25:=underlying358
 a25:=isAgg358
 z25:=sizeOf358
 v25:=zeroValue358}
def Tryz.l345_ren:Go.Shelf.Ren:=⟨fun|8=>345|6=>367|n=>n,fun|22=>66|23=>120|25=>422|4=>4|3=>3|0=>0|n=>n,fun|n=>n⟩
theorem Tryz.l345:Go.Proofs.SlLaysH0.n8 prog Tryz.l345_ren:={
 mixed:=by kernel_rfl
 f6:=⟨f367.name,by decide,func367.trans (congrArg some (by kernel_rfl))⟩
 f8:=⟨f345.name,by decide,func345.trans (congrArg some (by kernel_rfl))⟩
 t0:=underlying0
 a0:=isAgg0
 z0:=sizeOf0
 v0:=zeroValue0
 t3:=underlying3
 a3:=isAgg3
 z3:=sizeOf3
 v3:=zeroValue3
 t4:=underlying4
 a4:=isAgg4
 z4:=sizeOf4
 v4:=zeroValue4
 t22:=underlying66
 a22:=isAgg66
 z22:=sizeOf66
 v22:=zeroValue66
 t25:=underlying422
 a25:=isAgg422
 z25:=sizeOf422
 v25:=zeroValue422}
def Tryz.l357_ren:Go.Shelf.Ren:=⟨fun|8=>357|6=>373|n=>n,fun|22=>173|23=>211|25=>433|4=>4|3=>3|0=>0|n=>n,fun|n=>n⟩
theorem Tryz.l357:Go.Proofs.SlLaysH0.n8 prog Tryz.l357_ren:={
 mixed:=by kernel_rfl
 f6:=⟨f373.name,by decide,func373.trans (congrArg some (by kernel_rfl))⟩
 f8:=⟨f357.name,by decide,func357.trans (congrArg some (by kernel_rfl))⟩
 t0:=underlying0
 a0:=isAgg0
 z0:=sizeOf0
 v0:=zeroValue0
 t3:=underlying3
 a3:=isAgg3
 z3:=sizeOf3
 v3:=zeroValue3
 t4:=underlying4
 a4:=isAgg4
 z4:=sizeOf4
 v4:=zeroValue4
 t22:=underlying173
 a22:=isAgg173
 z22:=sizeOf173
 v22:=zeroValue173
 t25:=underlying433
 a25:=isAgg433
 z25:=sizeOf433
 v25:=zeroValue433}
def Tryz.l374_ren:Go.Shelf.Ren:=⟨fun|8=>374|6=>393|n=>n,fun|22=>45|23=>2|25=>110|4=>4|3=>3|0=>0|n=>n,fun|n=>n⟩
theorem Tryz.l374:Go.Proofs.SlLaysH.n8 prog Tryz.l374_ren:={
 mixed:=by kernel_rfl
 f6:=⟨f393.name,by decide,func393.trans (congrArg some (by kernel_rfl))⟩
 f8:=⟨f374.name,by decide,func374.trans (congrArg some (by kernel_rfl))⟩
 t0:=underlying0
 a0:=isAgg0
 z0:=sizeOf0
 v0:=zeroValue0
 t3:=underlying3
 a3:=isAgg3
 z3:=sizeOf3
 v3:=zeroValue3
 t4:=underlying4
 a4:=isAgg4
 z4:=sizeOf4
 v4:=zeroValue4
 t22:=underlying45
 a22:=isAgg45
 z22:=sizeOf45
 v22:=zeroValue45
 a23:=isAgg2
 z23:=sizeOf2
 t25:=underlying110
 a25:=isAgg110
 z25:=sizeOf110
 v25:=zeroValue110}
def Tryz.l365_ren:Go.Shelf.Ren:=⟨fun|20=>365|n=>n,fun|24=>3|22=>74|3=>3|25=>205|4=>4|0=>0|n=>n,fun|n=>n⟩
theorem Tryz.l365:Go.Proofs.SlLaysF.n20 prog Tryz.l365_ren:={
 mixed:=by kernel_rfl
 f20:=⟨f365.name,by decide,func365.trans (congrArg some (by kernel_rfl))⟩
 t0:=underlying0
 a0:=isAgg0
 z0:=sizeOf0
 v0:=zeroValue0
 t3:=underlying3
 a3:=isAgg3
 z3:=sizeOf3
 v3:=zeroValue3
 t4:=underlying4
 a4:=isAgg4
 z4:=sizeOf4
 v4:=zeroValue4
 t22:=underlying74
 a22:=isAgg74
 z22:=sizeOf74
 v22:=zeroValue74
 a24:=isAgg3
 z24:=sizeOf3
 t25:=underlying205
 a25:=isAgg205
 z25:=sizeOf205
 v25:=zeroValue205}
end
end Go.Proofs
namespace Go.Proofs.YtmhohaanddglbaaGreatDoor
open Go.RowKit Go.Proofs.Tryz ZA ZU ZI ZD ZP ZR ZT ZS ZE ZO
section
attribute [local go_sem ↓] wp_at_zero wp_at_succ
instance:Inhabited Ob:=⟨⟨0,0,0,0,0,0⟩⟩
instance:Inhabited Lg:=⟨⟨0,0,0⟩⟩
instance:Inhabited Bd:=⟨⟨0,0,0,0,0⟩⟩
def eo{α:Type} [Inhabited α](p:α->Bool)(l:List α):Int:=Lib.idxBy (fun _ y=>p y) l default
def re{α:Type} [Inhabited α](l:bF α)(i:Nat)(h:i<l):l[i]! =l[i]:=by simp[h]
def uz{α:Type} [Inhabited α](p:α->Bool)(l:bF α):(eo p l=-1/\∀i (h:i<l.length),p l[i]=false)∨∃i,∃h:i<l.length,eo p l=(i:Nat)/\p l[i]=true/\∀j (hj:j<i),p (l[j]'(by omega))=false:=by
 have f:∀n,n<=l.length->(∀i (h:i<l.length),i<n->p l[i]=false)∨∃i,∃h:i<l.length,i<n/\p l[i]=true/\∀j (hj:j<i),p (l[j]'Qat)=false:=by
  intro n;induction n with
  |zero=>intro _;exact bS fun i h h2=>by omega
  |succ n ih=>
   intro H;rcases ih Qat with h|⟨i,h,h1,h2,h3⟩
   ·cases hp:p (l[n]'Qat)with
    |true=>exact ci ⟨n,by omega,by omega,hp,fun j hj=>h j Qat hj⟩
    |false=>
     refine bS fun i hi h2=> ?_;rcases fA i n with h4|h4
     ·exact h i hi h4
     ·obtain rfl:i=n:=by omega
      exact hp
   ·exact ci ⟨i,h,by omega,h2,h3⟩
 rcases f l.length (bL _)with h|⟨i,h,_,h2,h3⟩
 ·refine bS ⟨?_,fun i hi=>h i hi hi⟩;have:=Lib.idxBy_miss (fun _ y=>p y) l l.length default (fun j hj=>by simp only[re l j hj];exact h j hj hj)
  rwa[ic]at this
 ·refine ci ⟨i,h, ?_,h2,h3⟩;have:=Lib.idxBy_hit (fun _ y=>p y) l l.length i default h (bL _) (by simp only[re l i h];exact h2) (fun j hj=>by simp only[re l j Qat];exact h3 j hj)
  rwa[ic]at this
def Qy{α:Type} [Inhabited α](p:α->Bool)(l:bF α):l.any p=decide (0<=eo p l):=(Lib.idxBy_nonneg_iff (fun _ y=>p y) l default).symm
section
variable {α:Type} [Inhabited α] {enc:α->List Value} {k:Nat}
variable{w:bD}{b off:Nat}
def Sl.re{n cap:Nat}{l:bF α}(hc:∀i (h:i<l.length) j x,(enc l[i])[j]?=some x->w.cell? ⟨b,off+i*k+j,none⟩=some x):∀j,j<l.length->∀i v,(enc l[j]!)[i]?=some v->w.cell? ⟨b,off+j*k+i,none⟩=some v:=fun j hj i v h=>by
 rw[YtmhohaanddglbaaGreatDoor.re l j hj]at h;exact hc j hj i v h
end
def Ht(a:Option Addr)(c:Nat)(fv:bE)(w:bD):bG 290 #[.slice a 0 c,fv] w (bj (-1:Int) w):=by go_enter func290,ntmps290;exact QaA
def Hu:∀w,(Go.sizeOf 71).run prog w=.ok 6 w:=sizeOf71
def Hv:∀w,(isAgg 71).run prog w=.ok true w:=fun w=>aj
def Qz(p:Ob->Bool)(g:Nat)(lb:Array bE)(eg:∀args w,(callFunc g args).run prog w=.ok (.enter g args) w)(v:bE)(l:bF Ob)(w:bD)(hv:Sl eS 6 w v l)(hp:Go.Proofs.PredBelow prog g lb (fun x=>.agg (eS x).toArray) p w):
  bG 290 #[v,.func (.func g) #[] lb] w (bi (eo p l) w):=by
 obtain⟨a,cap,rfl,O,d,c,P⟩:=hv;unfold maxLen at c;by_cases S:l.length=0
 ·obtain rfl:=lB S;exact(Ht a cap _ w).bC fun e w' ⟨he,hw⟩=>⟨by rw[he];rfl,by rw[hw];exact bM _ _⟩
 ·obtain⟨b,m,rfl,u,f⟩:=P af;have h:=Go.Proofs.AnyQ.slices_IndexFunc l290 6 Hv Hu eS il p g lb eg b m l cap l w hp (bL _) af u (Sl.re (n:=0) (cap:=0) f);rw[ic]at h;exact h
structure fD(w:World)(B gs:Nat)(vo:Value)(l:List Ob):Prop where
 blk:bI w gs 186 #[vo]
 own:w.ownsRow B 71 6 vo l (bN eS l)
 l1:B<=gs
variable{w w':bD}{B gs:Nat}{vo:bE}{l:bF Ob}
def fD.keep(h:fD w B gs vo l)(hb:Bw w w'):fD w' B gs vo l:=⟨h.blk.keep hb,cJ h.own hb,h.l1⟩
def fD.d{wd:bD}(h:fD w B gs vo l)(e:wd.heap=w.heap:=by rfl):fD wd B gs vo l:=⟨h.blk.d e,lu h.own e,h.l1⟩
def dR(m a:Int)(x:Ob):Bool:=decide (x.cN=1)&&decide (x.mem=m)&&decide (x.bK=a)
def QA(g1 g2:Nat)(m a:Int)(x:Ob)(w:bD)(h1:bI w g1 3 #[m])(h2:bI w g2 3 #[a]):bG 291 #[.agg (eS x).toArray,ptr g1,ptr g2] w (bi (.bool (dR m a x)) w):=by
 obtain⟨g,F,T,O,l,d⟩:=x;have C:Bw w (aZ w #[g,F,T,O,l,d] 71):=aI;have Z:=(h1.keep C).c 0;have Y:=(h2.keep C).c 0;have Q:Hid (dR m a ⟨g,F,T,O,l,d⟩=(decide (d=1)&&decide (F=m)&&decide (T=a))):=aa rfl;clear h1 h2;show bG 291 #[.agg #[g,F,T,O,l,d],ptr g1,ptr g2] w _;by_cases b:d=1
 ·by_cases r:F=m
  ·by_cases f:T=a
   ·subst b r f;have K:Hid ((decide ((1:Int)=1)&&decide (F=F)&&decide (T=T))=true):=aa au;exact QaO
   ·subst b r;have u:=xp.2 f;have K:Hid ((decide ((1:Int)=1)&&decide (F=F)&&decide (T=a))=false):=aa (by simp[f]);clear f;exact QaO
  ·subst b;have u:=xp.2 r;have K:Hid ((decide ((1:Int)=1)&&decide (F=m)&&decide (T=a))=false):=aa (by simp[r]);clear r;exact QaO
 ·have u:=xp.2 b;have K:Hid ((decide (d=1)&&decide (F=m)&&decide (T=a))=false):=aa (by simp[b]);clear b;exact QaO
def QB:∀args w,(callFunc 291 args).run prog w=.ok (.enter 291 args) w:=enters_of func291 aj rfl
def CS(B gs:Nat)(vo:bE)(l:bF Ob)(m a:Int)(w:bD)(hs:fD w B gs vo l):bG 241 #[ptr gs,m,a] w (bi (eo (dR m a) l) w):=by
 let⟨g,v⟩:∃g,g=(w.alloc (bH #[m] 3)).alloc (bH #[a] 3):=⟨_,rfl⟩;have b:Bw w g:=by rw[v];exact aI.alloc au _
 have z:bI g w 3 #[m]:=by rw[v];exact(bI.new w 3 _).alloc _
 have t:bI g (w.heap.size+1) 3 #[a]:=by rw[v];have:=bI.new (aZ w #[m] 3) 3 #[a];simpa using this
 have D:=aa (hs.keep b);have d:=bV hs.own;obtain⟨h,K,rfl⟩:=d;have j:=D.o.blk.c 0;have S:=aa (Qz (dR m a) 291 #[ptr w,ptr (w.heap.size+1)] QB _ l g (Sl.own il D.o.own) (fun W x hb=>(QA w (w.heap.size+1) m a x W (z.keep hb) (t.keep hb)).bC fun e w' ⟨he,hw⟩=>⟨he,hb.bu (hw.bC hb.size)⟩));clear hs;subst v;go_enter func241,ntmps241;go_wp2_with(go_at_call 290;refine S.o.bC ?_;rintro e i⟨rfl,f⟩);go_ret;exact⟨rfl,b.bu (f.bC b.size)⟩
def lv(x:Ob):Int:=max x.cE (wrap64 (-x.cE))
def QC(x:Ob)(w:bD):bG 242 #[.agg (eS x).toArray] w (bi (lv x) w):=by obtain⟨o,F,T,O,l,a⟩:=x;have C:Bw w (aZ w #[o,F,T,O,l,a] 71):=aI;show bG 242 #[.agg #[o,F,T,O,l,a]] w _;go_enter func242,ntmps242;go_wp2;go_ret;exact⟨rfl,C⟩
def gZ(l:List Ob)(i:Int):Ob:=l.getD i.toNat default
def we(l:bF Ob)(i:Nat)(h:i<l):gZ l (i:Int)=l[i]:=by unfold gZ;simp[h]
def jj(l:List Ob)(m a bJ:Int):Int×Int:=if eo (dR m a) l<0∨(gZ l (eo (dR m a) l)).cE<0 then(0,8)else if bJ<1 then(0,1)else(eo (dR m a) l,0)
def fD.at{n1:Option Addr}{k1:Nat}(hs:fD w B gs (.slice n1 l.length k1) l)(i:Nat)(h:i<l.length):∃b,n1=some ⟨b,0,none⟩/\b≠gs/\(∀W,Below w.heap.size w W->W.cell? ⟨b,i*6,none⟩=some (.int .i64 l[i].cycle)/\W.cell? ⟨b,i*6+1,none⟩=some (.int .i64 l[i].mem)/\W.cell? ⟨b,i*6+2,none⟩=some (.int .i64 l[i].bK)/\W.cell? ⟨b,i*6+3,none⟩=some (.int .i64 l[i].cE)/\W.cell? ⟨b,i*6+4,none⟩=some (.int .i64 l[i].done)/\W.cell? ⟨b,i*6+5,none⟩=some (.int .i64 l[i].cN))/\(∀W,Below w.heap.size w W->∀j,W.frozen? ⟨b,j,none⟩=false)/\k1<=maxLen/\l.length<=k1:=by
 have J:=hs.own;have f:=fp hs.blk J ah;have k:=Sl.own il J;obtain⟨_,d⟩:=J;rcases d with⟨d,h0⟩|⟨g,cap,cur,d,_,hg,h3,h4,_,_⟩
 ·omega
 ·obtain⟨rfl,rfl⟩:n1=some ⟨g,0,none⟩/\k1=cap:=aG d;obtain⟨Y,z,R,_,_,_,L⟩:=k;obtain⟨o,r⟩:some ⟨g,0,none⟩=Y/\k1=z:=aG R;subst o r;obtain⟨b,m,u,a,n⟩:=L af;obtain⟨rfl,rfl⟩:g=b/\0=m:=aG u;have x:=n i h;simp only[fW]at x;refine⟨g,rfl,f g rfl,fun W hW=> ?_,fun W hW j=> ?_,h4,h3⟩
  ·obtain⟨A,E,H,q,N,s⟩:=oA x;exact⟨(hW.c (p:=⟨g,i*6,none⟩) a).trans A,(hW.c (p:=⟨g,i*6+1,none⟩) a).trans E,(hW.c (p:=⟨g,i*6+2,none⟩) a).trans H,(hW.c (p:=⟨g,i*6+3,none⟩) a).trans q,(hW.c (p:=⟨g,i*6+4,none⟩) a).trans N,(hW.c (p:=⟨g,i*6+5,none⟩) a).trans s⟩
  ·have:W.heap[g]?=some (.cells cur 71 (0,0)):=(hW.block g a).trans hg
   simp[World.frozen?,this]
def Hw(B gs:Nat)(vo:bE)(l:bF Ob)(m a bJ:Int)(w:bD)(hs:fD w B gs vo l)(hn:l.length<=100000):bG 195 #[ptr gs,aY m,aY a,aY bJ] w (bi (bg (jj l m a bJ)) w):=by
 let⟨D,S⟩:=Jh2 hs (CS B gs vo l m a w hs);have g:=bV hs.own;obtain⟨W,K,rfl⟩:=g;have E:Hid (jj l m a bJ=if eo (dR m a) l<0∨(gZ l (eo (dR m a) l)).cE<0 then(0,8)else if bJ<1 then(0,1)else(eo (dR m a) l,0)):=aa rfl;rcases uz (dR m a) l with⟨h1,_⟩|⟨i,hi,h1,_,_⟩
 ·have r:=aa h1;have q:Hid (jj l m a bJ=(0,8)):=aa (by rw[E.o,yc (bS (by rw[h1];decide))]);clear hs h1 E;go_enter func195,ntmps195;go_wp2_with(go_at_call 241;refine S.o.bC ?_;rintro e k⟨rfl,d⟩;rw[r.o]);go_ret2;exact⟨by rw[q.o];rfl,d⟩
 ·have r:=aa h1;obtain⟨b,rfl,v,n,_,I,h⟩:=hs.at i hi;have f:=aa n;have p:Hid (gZ l (i:Int)=l[i]):=aa (we l i hi);have q:Hid (jj l m a bJ=if l[i].cE<0 then(0,8)else if bJ<1 then(0,1)else((i:Int),0)):=aa (by
   rw[E.o,h1,p.o];by_cases F:l[i].cE<0
   ·rw[yc (ci F),yc F]
   ·rw[ya Qat,ya F])
  have O:0<=(i:Int):=by omega
  have C:i<(l:Int):=by omega
  have u:decide ((i:Int)<0)=false:=dF Qat;unfold maxLen at I;clear hs h1 E n p;generalize l[i]=x at*;by_cases F:x.cE<0
  ·have t:=dT F;have T:Hid (jj l m a bJ=(0,8)):=aa Qdc;clear q F;exact Qaq
  ·have t:=dF F;by_cases Z:bJ<1
   ·have N:=dT Z;have T:Hid (jj l m a bJ=(0,1)):=aa (by rw[q.o,ya F,yc Z]);clear q F Z;exact Qaq
   ·have N:=dF Z;have T:Hid (jj l m a bJ=((i:Int),0)):=aa (by rw[q.o,ya F,ya Z]);clear q F Z;exact Qaq
def QD{α:Type}(enc:α->bF bE)(k:Nat)(hk:∀x,(enc x).length=k)(l:bF α):∀(i:Nat) (hi:i<l) (j:Nat) (v:bE) (x':α),j<k->enc x'=(enc l[i]).set j v->(bN enc l).set (i*k+j) v=bN enc (l.set i x'):=by
 induction l with
 |nil=>intro i hi;simp at hi
 |cons c l ih=>
  intro i hi j v x' J V;have P:bN enc (c::l)=enc c++bN enc l:=aK;cases i with
  |zero=>
   simp only[jr]at V;rw[P,List.set_append_left _ _ (by rw[hk];omega),iO];simp[bN,V]
  |succ i=>
   have e:(i+1)*k+j=k+(i*k+j):=by rw[pD];omega
   rw[P,uS _ _ (by rw[hk,e];omega),iP];have a:=ih i (aG hi) j v x' J (aG V);rw[hk,e,show k+(i*k+j)-k=i*k+j by omega,a];simp[bN]
variable{k b cap:Nat}
def QE{α:Type}{enc:α->bF bE}{T:TypeId}{l:bF α}(hk:∀x,(enc x).length=k)(h:w.ownsRow B T k (.slice (some (be b 0)) l cap) l (bN enc l))(i:Nat)(hi:i<l)(j:Nat)(hj:j<k)(v:bE)(x':α)(he:enc x'=(enc l[i]).set j v):
  (w.setCell (b,i*k+j) v).ownsRow B T k (.slice (some (be b 0)) l cap) l (bN enc (l.set i x')):=by
 obtain⟨_,c⟩:=h;refine⟨by rw[ik enc k hk,js], ?_⟩;rcases c with⟨h,_⟩|⟨g,cap',cur,hv,hg,hh,h3,h4,h5,h6⟩
 ·simp at h
 ·obtain⟨rfl,rfl⟩:b=g/\cap=cap':=aG hv;refine ci ⟨b,cap,cur.setIfInBounds (i*k+j) v,rfl,hg,heap_setCell_same w b (i*k+j) cur T v hh,h3,h4,by simp[h5], ?_⟩;rw[Array.toList_setIfInBounds,List.take_set,h6,QD enc k hk l i hi j v x' hj he]
def kR(B gs:Nat)(vo:Value)(K:List Nat)(r:Int×List Ob)(w:World)(e:Ending)(w':World):Prop:=e=.returned r.1/\fD w' B gs vo r.2/\cg B [71] K w w'
def kR.same{K:bF Nat}{n:Int}(h:fD w B gs vo l)(c:Bw w w'):kR B gs vo K (n,l) w (.returned n) w':=⟨rfl,h.keep c,cg.below c⟩
def fD.one(h:fD w B gs (.slice (some (be b 0)) l cap) l)(i:Nat)(hi:i<l)(j:Nat)(hj:j<6)(v:bE)(x':Ob)(he:eS x'=(eS l[i]).set j v)(hne:b≠gs):
  fD (w.setCell (b,i*6+j) v) B gs (.slice (some (be b 0)) l cap) (l.set i x'):=by
 have c:=QE il h.own i hi j hj v x' he;exact⟨h.blk.far _ _ hne.symm,by rw[js];exact c,h.l1⟩
variable{n:Nat}{xs:bF bE}
def zB{T:TypeId}(h:w.ownsRow B T k (.slice (some (be b 0)) n cap) n xs):B<=b/\∃cur,bI w b T cur:=by
 obtain⟨_,c⟩:=h;rcases c with⟨h,_⟩|⟨g,cap',cur,hv,hg,hh,_⟩
 ·simp at h
 ·obtain⟨rfl,rfl⟩:b=g/\cap=cap':=aG hv;exact⟨hg,cur,hh⟩
def im(l:List Ob)(m a bJ:Int):Int×List Ob:=
 if(jj l m a bJ).2≠0 then((jj l m a bJ).2,l)
 else if wrap64 ((gZ l (eo (dR m a) l)).cE-(gZ l (eo (dR m a) l)).done)<bJ then(12,l)
 else(0,l.set (eo (dR m a) l).toNat {gZ l (eo (dR m a) l)with done:=wrap64 ((gZ l (eo (dR m a) l)).done+bJ)})
def jk(l:List Ob)(m a bJ:Int):Int×List Ob:=
 if(jj l m a bJ).2≠0 then((jj l m a bJ).2,l)
 else if(gZ l (eo (dR m a) l)).done<bJ then(12,l)
 else(0,l.set (eo (dR m a) l).toNat {gZ l (eo (dR m a) l)with done:=wrap64 ((gZ l (eo (dR m a) l)).done-bJ)})
def zC{m a bJ:Int}(h:(jj l m a bJ).2=0):∃i,∃hi:i<l.length,eo (dR m a) l=(i:Nat)/\dR m a l[i]=true/\0<=l[i].cE/\1<=bJ/\jj l m a bJ=((i:Int),0)/\gZ l (i:Int)=l[i]:=by
 rcases uz (dR m a) l with⟨h1,_⟩|⟨i,hi,h1,h2,_⟩
 ·unfold jj at h;rw[yc (bS (by rw[h1];decide))]at h;simp at h
 ·refine⟨i,hi,h1,h2, ?_⟩;unfold jj at h⊢;rw[h1,we l i hi]at h⊢;by_cases F:l[i].cE<0
  ·rw[yc (ci F)]at h;simp at h
  ·by_cases Z:bJ<1
   ·rw[ya Qat,yc Z]at h;simp at h
   ·rw[ya Qat,ya Z];exact⟨by omega,by omega,rfl,rfl⟩
def QF(B gs:Nat)(vo:bE)(l:bF Ob)(m a bJ:Int)(K:bF Nat)(w:bD)(hs:fD w B gs vo l)(hn:l.length<=100000)(hKv:∀k,vo.ownBlock=some k->k∉K):
  bG 154 #[ptr gs,m,a,bJ] w (kR B gs vo K (im l m a bJ) w):=by
 let⟨D,P,E⟩:=Jh3 hs hKv (Hw B gs vo l m a bJ w hs hn);have g:=bV hs.own;obtain⟨n1,S,rfl⟩:=g;by_cases t:(jj l m a bJ).2=0
 ·let⟨i,p,d,_,_,_,V,A⟩:=zC t;obtain⟨b,rfl,v,n,s,I,h⟩:=hs.at i p;have q:Hid (im l m a bJ=if wrap64 (l[i].cE-l[i].done)<bJ then(12,l)else(0,l.set i {l[i]with done:=wrap64 (l[i].done+bJ)})):=aa (by unfold im;rw[ya (aG t),d,A];rfl);let⟨L,G,f⟩:=Jh3 n s V;have J:Hid (∀W,Bw w W->fD (W.setCell (b,i*6+4) (wrap64 (l[i].done+bJ))) B gs (.slice (some (be b 0)) l S) (l.set i {l[i]with done:=wrap64 (l[i].done+bJ)})/\cg B [71] K w (W.setCell (b,i*6+4) (wrap64 (l[i].done+bJ)))):=aa (fun W hW=>by
   have M:=D.o.keep hW;let⟨hB,X,y⟩:=zB M.own;exact⟨M.one i p 4 ah _ _ rfl v,(cg.below hW).bu (cg.set y au hB (P.o b rfl))⟩)
  have O:0<=(i:Int):=af;have C:i<(l:Int):=af;unfold maxLen at I;clear hs n s d V A t hKv;generalize l[i]=x at*;by_cases F:wrap64 (x.cE-x.done)<bJ
  ·have z:=dT F;have T:Hid (im l m a bJ=(12,l)):=aa Qdc;clear q F;go_enter func154,ntmps154;go_wp2_with(go_at_call 195;refine E.o.bC ?_;rintro e H⟨rfl,u⟩;rw[f.o];have j:=(D.o.keep u).blk.c 0;obtain⟨_,_,_,Z,N,_⟩:=L.o H u);go_quiet(fail);go_wp2;go_ret;rw[T.o];exact kR.same D.o (gM u _)
  ·have z:=dF F;have T:Hid (im l m a bJ=(0,l.set i {x with done:=wrap64 (x.done+bJ)})):=aa (by rw[q.o,ya F]);clear q F;go_enter func154,ntmps154;go_wp2_with(go_at_call 195;refine E.o.bC ?_;rintro e H⟨rfl,u⟩;rw[f.o];have j:=(D.o.keep u).blk.c 0;obtain⟨_,_,_,Z,N,_⟩:=L.o H u);go_quiet(fail);have cD:=gM u nq;have R:=G.o H u (i*6+4);go_wp2;exact Qdk
 ·have q:Hid (im l m a bJ=((jj l m a bJ).2,l)):=aa (by unfold im;rw[yc t]);let⟨⟨d1,Q⟩,z⟩:∃r,jj l m a bJ=r:=⟨_,rfl⟩;have f:=aa z;rw[z]at q t;have U:(Q !=0)=true:=aG t;clear hs t z hKv;go_enter func154,ntmps154;exact QbC
def QG(B gs:Nat)(vo:bE)(l:bF Ob)(m a bJ:Int)(K:bF Nat)(w:bD)(hs:fD w B gs vo l)(hn:l.length<=100000)(hKv:∀k,vo.ownBlock=some k->k∉K):
  bG 159 #[ptr gs,m,a,bJ] w (kR B gs vo K (jk l m a bJ) w):=by
 let⟨D,P,E⟩:=Jh3 hs hKv (Hw B gs vo l m a bJ w hs hn);have g:=bV hs.own;obtain⟨n1,S,rfl⟩:=g;by_cases t:(jj l m a bJ).2=0
 ·let⟨i,p,d,_,_,_,V,A⟩:=zC t;obtain⟨b,rfl,v,n,s,I,h⟩:=hs.at i p;have q:Hid (jk l m a bJ=if l[i].done<bJ then(12,l)else(0,l.set i {l[i]with done:=wrap64 (l[i].done-bJ)})):=aa (by unfold jk;rw[ya (aG t),d,A];rfl);let⟨L,G,f⟩:=Jh3 n s V;have J:Hid (∀W,Bw w W->fD (W.setCell (b,i*6+4) (wrap64 (l[i].done-bJ))) B gs (.slice (some (be b 0)) l S) (l.set i {l[i]with done:=wrap64 (l[i].done-bJ)})/\cg B [71] K w (W.setCell (b,i*6+4) (wrap64 (l[i].done-bJ)))):=aa (fun W hW=>by
   have M:=D.o.keep hW;let⟨hB,X,y⟩:=zB M.own;exact⟨M.one i p 4 ah _ _ rfl v,(cg.below hW).bu (cg.set y au hB (P.o b rfl))⟩)
  have O:0<=(i:Int):=af;have C:i<(l:Int):=af;unfold maxLen at I;clear hs n s d V A t hKv;generalize l[i]=x at*;by_cases F:x.done<bJ
  ·have z:=dT F;have T:Hid (jk l m a bJ=(12,l)):=aa Qdc;clear q F;go_enter func159,ntmps159;go_wp2_with(go_at_call 195;refine E.o.bC ?_;rintro e H⟨rfl,u⟩;rw[f.o];have j:=(D.o.keep u).blk.c 0;obtain⟨_,_,_,Z,N,_⟩:=L.o H u);go_wp2;go_ret;rw[T.o];exact kR.same D.o u
  ·have z:=dF F;have T:Hid (jk l m a bJ=(0,l.set i {x with done:=wrap64 (x.done-bJ)})):=aa (by rw[q.o,ya F]);clear q F;go_enter func159,ntmps159;go_wp2_with(go_at_call 195;refine E.o.bC ?_;rintro e H⟨rfl,u⟩;rw[f.o];have j:=(D.o.keep u).blk.c 0;obtain⟨_,_,_,Z,N,_⟩:=L.o H u;have R:=G.o H u (i*6+4));have cD:=u;exact Qdk
 ·have q:Hid (jk l m a bJ=((jj l m a bJ).2,l)):=aa (by unfold jk;rw[yc t]);let⟨⟨d1,Q⟩,z⟩:∃r,jj l m a bJ=r:=⟨_,rfl⟩;have f:=aa z;rw[z]at q t;have U:(Q !=0)=true:=aG t;clear hs t z hKv;go_enter func159,ntmps159;exact QbC
def Hx(x:Ob){n:Int}(h:lv x=n)(w:bD):bG 242 #[.agg #[x.cycle,x.mem,x.bK,x.cE,x.done,x.cN]] w (bi n w):=by rw[<-h];exact QC x w
def mr(n cN done:Int):Bool:=decide (cN<2)||decide (5<cN)||decide (done<0)||decide (n<done)||(decide (cN=2)&&decide (done≠n))
def fL(l:List Ob)(m a cN done:Int):Int×List Ob:=
 if eo (dR m a) l<0 then(8,l)
 else if mr (lv (gZ l (eo (dR m a) l))) cN done=true then(1,l)
 else(0,l.set (eo (dR m a) l).toNat {gZ l (eo (dR m a) l)with done:=done,cN:=cN})
def QH{n s d:Int}:s<2∨(¬s<2/\5<s)∨(¬s<2/\¬5<s/\d<0)∨(¬s<2/\¬5<s/\¬d<0/\n<d)∨(¬s<2/\¬5<s/\¬d<0/\¬n<d/\s=2/\d≠n)∨(¬s<2/\¬5<s/\¬d<0/\¬n<d/\s=2/\d=n)∨(¬s<2/\¬5<s/\¬d<0/\¬n<d/\s≠2):=af
def QI(B gs:Nat)(vo:bE)(l:bF Ob)(m a cN done:Int)(K:bF Nat)(w:bD)(hs:fD w B gs vo l)(hn:l.length<=100000)(hKv:∀k,vo.ownBlock=some k->k∉K):
  bG 259 #[ptr gs,m,a,cN,done] w (kR B gs vo K (fL l m a cN done) w):=by
 let⟨D,F,S⟩:=Jh3 hs hKv (CS B gs vo l m a w hs);have g:=bV hs.own;obtain⟨n1,k1,rfl⟩:=g;rcases uz (dR m a) l with⟨h1,_⟩|⟨i,hi,h1,_,_⟩
 ·have r:=aa h1;have q:Hid (fL l m a cN done=(8,l)):=aa (by unfold fL;rw[yc (by rw[h1];decide)]);clear hs h1 hKv;go_enter func259,ntmps259;go_wp2_with(go_at_call 241;refine S.o.bC ?_;rintro e w1⟨rfl,Y⟩;rw[r.o]);go_ret;rw[q.o];exact kR.same D.o Y
 ·have r:=aa h1;obtain⟨b,rfl,v,ae,ag,I,ai⟩:=hs.at i hi;let⟨ab,G⟩:=Jh2 ae ag;have q:Hid (fL l m a cN done=if mr (lv l[i]) cN done=true then(1,l)else(0,l.set i {l[i]with done:=done,cN:=cN})):=aa (by
   unfold fL;rw[h1,we l i hi,ya af];rfl)
  have O:0<=(i:Int):=af;have C:i<(l:Int):=af;have Z:decide ((i:Int)<0)=false:=dF af;have ad:Hid (∀W,Bw w W->∀W',(W'=(W.setCell (b,i*6+5) cN).setCell (b,i*6+4) done∨W'=(W.setCell (b,i*6+4) done).setCell (b,i*6+5) cN)->fD W' B gs (.slice (some (be b 0)) l k1) (l.set i {l[i]with done:=done,cN:=cN})/\cg B [71] K w W'):=aa (fun W hW W' hW'=>by
   have ac:=D.o.keep hW;have N:∀x':Ob,(l.set i x').length=l.length:=fun x'=>by rw[js]
   rcases hW' with rfl|rfl
   ·have s1:=ac.one i hi 5 ah cN {l[i]with cN:=cN} rfl v;have s2:=fD.one (l:=l.set i {l[i]with cN:=cN}) (b:=b) (cap:=k1) (by rw[N];exact s1) i (by rw[N];exact hi) 4 ah done {l[i]with done:=done,cN:=cN} (by rw[xG];rfl) v;rw[N,List.set_set]at s2;let⟨hB,X,y⟩:=zB ac.own;have U:=cg.set (x:=cN) (i:=i*6+5) (TS:=[71]) (K:=K) y au hB (F.o b rfl);exact⟨s2,((cg.below hW).bu U).bu (cg.set (y.set _ _) au hB (F.o b rfl))⟩
   ·have s1:=ac.one i hi 4 ah done {l[i]with done:=done} rfl v;have s2:=fD.one (l:=l.set i {l[i]with done:=done}) (b:=b) (cap:=k1) (by rw[N];exact s1) i (by rw[N];exact hi) 5 ah cN {l[i]with done:=done,cN:=cN} (by rw[xG];rfl) v;rw[N,List.set_set]at s2;let⟨hB,X,y⟩:=zB ac.own;have U:=cg.set (x:=done) (i:=i*6+4) (TS:=[71]) (K:=K) y au hB (F.o b rfl);exact⟨s2,((cg.below hW).bu U).bu (cg.set (y.set _ _) au hB (F.o b rfl))⟩)
  unfold maxLen at I;have P:gs≠b:=v.symm;clear hs h1 ae ag hKv;generalize l[i]=x at*;let⟨u,V⟩:=aH (lv x);have p:=aa (Hx x V);rw[V]at q;clear V;rcases QH (n:=u) (s:=cN) (d:=done)with h|⟨k1',h⟩|⟨k1',k2,h⟩|⟨k1',k2,k3,h⟩|⟨k1',k2,k3,k4,h5,h⟩|⟨k1',k2,k3,k4,h5,h⟩|⟨k1',k2,k3,k4,h⟩
  ·have d1:=dT h;have T:Hid (fL l m a cN done=(1,l)):=aa QaQ;clear q h;exact Qae
  ·have d1:=dF k1';have Q:=dT h;have T:Hid (fL l m a cN done=(1,l)):=aa QaQ;clear q h k1';exact Qae
  ·have d1:=dF k1';have Q:=dF k2;have d3:=dT h;have T:Hid (fL l m a cN done=(1,l)):=aa QaQ;clear q h k1' k2;exact Qae
  ·let⟨d1,Q,d3,z⟩:=Jt4 (dF k1') (dF k2) (dF k3) (dT h);have T:Hid (fL l m a cN done=(1,l)):=aa QaQ;clear q h k1' k2 k3;exact Qae
  ·let⟨d1,Q,d3,z,M⟩:=Jt5 (dF k1') (dF k2) (dF k3) (dF k4) (beq_iff_eq.2 h5);have t:(done !=u)=true:=aG h;have T:Hid (fL l m a cN done=(1,l)):=aa QaQ;clear q h k1' k2 k3 k4 h5;exact Qae
  ·let⟨d1,Q,d3,z,M⟩:=Jt5 (dF k1') (dF k2) (dF k3) (dF k4) (beq_iff_eq.2 h5);have t:(done !=u)=false:=aG h;have T:Hid (fL l m a cN done=(0,l.set i {x with done:=done,cN:=cN})):=aa QcJ;clear q h k1' k2 k3 k4 h5;exact Qao
  ·let⟨d1,Q,d3,z,M⟩:=Jt5 (dF k1') (dF k2) (dF k3) (dF k4) (xp.2 h);have T:Hid (fL l m a cN done=(0,l.set i {x with done:=done,cN:=cN})):=aa QcJ;clear q h k1' k2 k3 k4;exact Qao
end
def pN{α β:Type}(f:α->Option β)(l:bF α)(k:Nat)(h:k<l):(l.take (k+1)).filterMap f=(l.take k).filterMap f++(f l[k]).toList:=by
 rw[fj h,xz];cases hf:f l[k]with
 |none=>simp[hf]
 |some y=>simp[hf]
variable{k:Nat}{cs:Array bE}
def Sl.qr{α:Type}(enc:α->bF bE)(hk:∀x,(enc x).length=k)(w:bD)(T:TypeId)(x:α)(hc:cs.toList=enc x):Sl enc k (aZ w cs T) (.slice (some (be w 0)) 1 1) [x]:=by refine⟨some (be w 0),1,rfl,(fun h=>by cases h),au,az,fun _=>⟨w,0,rfl,au,fun i hi j u hu=> ?_⟩⟩;have a:i=0:=aG hi;subst a;have e:((w.heap.size,0+0*k+j):Addr)=(w.heap.size,j):=au;rw[e,(bI.new w T cs).c j];rw[jr,<-hc]at hu;simpa using hu
def Sl.fg{α:Type}(enc:α->bF bE)(hk:∀x,(enc x).length=k)(w:bD)(T:TypeId)(x:α)(hc:cs.toList=enc x)(b:Nat)(hb:w.heap.size=b):Sl enc k (aZ w cs T) (.slice (some (be b 0)) 1 1) [x]:=by subst hb;exact Sl.qr enc hk w T x hc
section
attribute [local go_sem ↓] wp_at_zero wp_at_succ
def wg(B gs:Nat)(vo:bE)(l:bF Ob)(w:bD)(hs:fD w B gs vo l)(hn:l.length<=100000):bG 85 #[ptr gs] w (ki eS 71 6 l w):=by have j:=hs.blk.c 0;have M:=aa (Sl.own il hs.own);have g:=bV hs.own;obtain⟨a,U,rfl⟩:=g;clear hs;go_enter func85,ntmps85;go_wp2_with(go_at_call 121;refine(MO _ l _ M.o af).bC ?_;rintro e i⟨d,rfl,h,b⟩);have g:=bV h;obtain⟨W,K,rfl⟩:=g;go_ret;exact⟨_,rfl,h,b⟩
def CT(g:Nat)(p:Ob->Bool):Prop:=∀(W:World) (x:Ob),Calls prog g #[.agg #[x.cycle,x.mem,x.bK,x.cE,x.done,x.cN]] W (bi (.bool (p x)) W)
def eJ(p:Ob->Bool)(x:Ob):Option Ob:=if x.cN=1/\p x=true then some x else none
def gP{α:Type}(enc:α->List Value)(T:TypeId)(k:Nat)(l:List α)(w:World)(e:Ending)(w':World):Prop:=∃v,e=.returned v/\w'.ownsRow w T k v l (bN enc l)/\Bw w w'
def Hy(B gs:Nat)(vo:bE)(l:bF Ob)(g:Nat)(eg:∀args w,(callFunc g args).run prog w=.ok (.enter g args) w)(p:Ob->Bool)(hp:CT g p)(w:bD)(hs:fD w B gs vo l)(hn:l.length<=100000):bG 275 #[ptr gs,.func (.func g) #[] #[]] w (gP eS 71 6 (l.filterMap (eJ p)) w):=by
 let⟨HA,u⟩:=Jh2 (wg B gs vo l w hs hn) hp;let⟨J,hi,S,Y,ab⟩:=wm yZ;clear hs hp;go_enter func275,ntmps275;go_wp2_with(go_at_call 85;refine HA.o.bC ?_;rintro e i⟨v1,rfl,a,R⟩;have hf:=bV a;obtain⟨W,K,rfl⟩:=hf);have D:=aa (Sl.own il a);have ak:=R.size;clear a;go_loopw[5,11] (fun vo vi wr=>∃k:Nat,k<=l.length/\vi=k/\wr.ownsRow i 71 6 vo ((l.take k).filterMap (eJ p)).length (bN eS ((l.take k).filterMap (eJ p)))/\Bw i wr) (fun _ vi _=>l.length-(intOf vi).toNat);exact⟨0,cH _,rfl,⟨aK,bS ⟨rfl,rfl⟩⟩,bM _ _⟩;obtain⟨k,hk,rfl,a,r⟩:=hrel;have Q:=aa a;obtain⟨no,ko,rfl⟩:=bV a;clear a;by_cases E:k<l
 ·obtain⟨aj,ac,b,m,rfl,_,n⟩:=(D.o.keep r).hd;let⟨r0,s,P,f,r4,r5⟩:=oA (n k E);have ae:0<=(k:Int):=af;have C:k<(l:Int):=af;unfold maxLen at ac;have y:=aa (pN (eJ p) l k E);have ag:((l.take k).filterMap (eJ p)).length<=k:=bW (gK _ _) aM;clear n;generalize(l.take k).filterMap (eJ p)=L at*
  generalize l[k]=x at*;have H:=r.alloc r.size (bH (gE x) 71);let⟨T,N⟩:=Jh2 (bI.new wr 71 (gE x)) (Q.o.alloc (bH (gE x) 71));by_cases t:x.cN=1
  rotate_left
  ·have hb:=xp.2 t;have X:=aa t;clear t;have I:Hid ((l.take (k+1)).filterMap (eJ p)=L):=aa QbM;clear y;go_wp2_with(fail);go_roundw;exact⟨k+1,af,aw,by rw[I.o];exact N.o,H⟩;exact aV
  have hb:=beq_iff_eq.2 t;have X:=aa t;clear t;cases hpx:p x
  ·have d:=aa hpx;clear hpx;have I:Hid ((l.take (k+1)).filterMap (eJ p)=L):=aa Qbt;clear y;go_wp2_with((go_at_fn g;refine(u.o _ x).bC ?_;rintro e O⟨rfl,F⟩;rw[d.o];have V:=H.bu (F.bC H.size);have A:=aa (cJ N.o F);have Z:=T.o.keep F;have y0:=Z.c 0;have y1:=Z.c 1;have y2:=Z.c 2;have y3:=Z.c 3;have y4:=Z.c 4;have v:=Z.c 5;clear Z));exact QcU
  ·have d:=aa hpx;clear hpx;have I:Hid (L++[x]=(l.take (k+1)).filterMap (eJ p)):=aa QbO;clear y;go_wp2_with(first|(go_at_fn g;refine(u.o _ x).bC ?_;rintro e O⟨rfl,F⟩;rw[d.o];have V:=H.bu (F.bC H.size);have A:=aa (cJ N.o F);have Z:=T.o.keep F;have y0:=Z.c 0;have y1:=Z.c 1;have y2:=Z.c 2;have y3:=Z.c 3;have y4:=Z.c 4;have v:=Z.c 5;clear Z)|(at_builtin;refine fG il ah xQ _ rfl _ _ 64 rfl i 71 J (.agg #[(),(),(),(),(),()]) 48 underlying64 hi S Y ab aB (.slice no L ko) L rfl (A.o.alloc _) (some (be O 0)) 1 [x] rfl (Sl.qr eS il _ 71 _ aB) Qaj Qb7 (V.alloc V.size (bH #[x.cycle,x.mem,x.bK,x.cE,x.done,x.cN] 71)).size ?_;intro j w2 a z M;have G:=(V.alloc V.size (bH #[x.cycle,x.mem,x.bK,x.cE,x.done,x.cN] 71)).grown z (V.alloc V.size _).size (fun q hq=>(A.o.lt q hq).1);rw[I.o]at a;obtain⟨n2,U,rfl⟩:=bV a;clear z M));go_roundw;exact⟨k+1,af,aw,a,G⟩;exact aV
 ·obtain rfl:k=l.length:=af;have ai:¬(l.length<(l:Int)):=af;have ad:l.take l.length=l:=eU (bL _);rw[ad]at Q;go_wp2;go_ret;exact⟨_,rfl,d8 Q.o R.size,R.bu (r.bC R.size)⟩
def QJ:∀args w,(callFunc 276 args).run prog w=.ok (.enter 276 args) w:=enters_of func276 aj rfl
def QK:∀args w,(callFunc 348 args).run prog w=.ok (.enter 348 args) w:=enters_of func348 aj rfl
def QL:CT 276 (fun x=>decide (x.cE<0)):=by intro w x;obtain⟨o,F,T,O,l,a⟩:=x;have C:Bw w (aZ w #[o,F,T,O,l,a] 71):=aI;go_enter func276,ntmps276;go_wp2;go_ret;exact⟨rfl,C⟩
def QM:CT 348 (fun x=>decide (0<x.cE)):=by intro w x;obtain⟨o,F,T,O,l,a⟩:=x;have C:Bw w (aZ w #[o,F,T,O,l,a] 71):=aI;go_enter func348,ntmps348;go_wp2;go_ret;exact⟨rfl,C⟩
def pO(x:Ob):Option Ob:=eJ (fun x=>decide (x.cE<0)) x
def wh(x:Ob):Option Ob:=eJ (fun x=>decide (0<x.cE)) x
def QN(B gs:Nat)(vo:bE)(l:bF Ob)(w:bD)(hs:fD w B gs vo l)(hn:l.length<=100000):bG 218 #[ptr gs] w (gP eS 71 6 (l.filterMap pO) w):=by have H:=aa (Hy B gs vo l 276 QJ _ QL w hs hn);clear hs;go_enter func218,ntmps218;exact Qbp
def QO(B gs:Nat)(vo:bE)(l:bF Ob)(w:bD)(hs:fD w B gs vo l)(hn:l.length<=100000):bG 311 #[ptr gs] w (gP eS 71 6 (l.filterMap wh) w):=by have H:=aa (Hy B gs vo l 348 QK _ QM w hs hn);clear hs;go_enter func311,ntmps311;exact Qbp
def lw(l:List Ob)(s:Int):Int:=(l.countP fun x=>decide (x.cN=s):Nat)
def QP(l:bF Ob)(s:Int)(k:Nat)(h:k<l):lw (l.take (k+1)) s=lw (l.take k) s+if l[k].cN=s then 1 else 0:=by unfold lw;rw[fj h,List.countP_append];by_cases F:l[k].cN=s<;>simp[F]
def Hz(l:bF Ob)(s:Int)(k:Nat):0<=lw (l.take k) s/\lw (l.take k) s<=k:=by unfold lw;have d:(l.take k).countP (fun x=>decide (x.cN=s))<=(l.take k).length:=xA;have c:(l.take k).length<=k:=aM;omega
def CU(B gs:Nat)(vo:bE)(l:bF Ob)(s:Int)(w:bD)(hs:fD w B gs vo l)(hn:l.length<=100000):bG 303 #[ptr gs,s] w (bi (lw l s) w):=by
 have V:=aa (wg B gs vo l w hs hn);clear hs;go_enter func303,ntmps303;go_wp2_with(go_at_call 85;refine V.o.bC ?_;rintro e i⟨H,rfl,h,q⟩;have z:=bV h;obtain⟨W,K,rfl⟩:=z);have D:=aa (Sl.own il h);clear h;go_loopw[5,11] (fun vc vi wr=>∃k:Nat,k<=l.length/\vi=k/\vc=.int .i64 (lw (l.take k) s)/\Bw i wr) (fun _ vi _=>l.length-(intOf vi).toNat);exact⟨0,cH _,rfl,rfl,bM _ _⟩;obtain⟨k,G,rfl,rfl,a⟩:=hrel;by_cases p:k<l
 ·obtain⟨F,c,b,m,rfl,_,n⟩:=(D.o.keep a).hd;let⟨v,E,P,f,M,L⟩:=oA (n k p);have O:0<=(k:Int):=af;have C:k<(l:Int):=af;unfold maxLen at c;have j:=aa (QP l s k p);have d:=Hz l s k;clear n;generalize lw (l.take k) s=N at*;generalize l[k]=x at*;have r:=a.alloc a.size (bH (gE x) 71);have A:IntKind.i64.wrap (N+1)=N+1:=gI _ af;have J:wrap64 (N+1)=N+1:=aC;by_cases t:x.cN=s
  ·have u:=beq_iff_eq.2 t;have I:Hid (lw (l.take (k+1)) s=N+1):=aa (by rw[j.o,yc t]);exact QcC
  ·have u:=xp.2 t;have I:Hid (lw (l.take (k+1)) s=N):=aa (by rw[j.o,ya t,Int.add_zero]);exact QcC
 ·obtain rfl:k=l.length:=af;have y:¬(l.length<(l:Int)):=af;have g:l.take l.length=l:=eU (bL _);rw[g];go_wp2;go_ret;exact⟨rfl,q.bu (a.bC q.size)⟩
def QQ(B gs:Nat)(vo:bE)(l:bF Ob)(m a:Int)(w:bD)(hs:fD w B gs vo l)(hn:l.length<=100000):
  bG 194 #[ptr gs,m,a] w fun e w'=>∃x y:Int,e=.returned (.tuple #[x,y])/\(y=0∨y=8)/\(y=0↔0<=eo (dR m a) l)/\(0<=eo (dR m a) l->x=wrap64 (lv (gZ l (eo (dR m a) l))-(gZ l (eo (dR m a) l)).done))/\Bw w w':=by
 let⟨D,S⟩:=Jh2 hs (CS B gs vo l m a w hs);have g:=bV hs.own;obtain⟨R,K,rfl⟩:=g;rcases uz (dR m a) l with⟨h1,_⟩|⟨i,hi,h1,_,_⟩
 ·have r:=aa h1;clear hs h1;go_enter func194,ntmps194;go_wp2_with(go_at_call 241;refine S.o.bC ?_;rintro e J⟨rfl,d⟩;rw[r.o]);go_ret2;exact⟨0,8,rfl,ci rfl,by rw[r.o];decide,by rw[r.o];intro h;exact xl h ah,d⟩
 ·have r:=aa h1;obtain⟨b,rfl,v,n,s,I,P⟩:=hs.at i hi;have q:=aa n;have T:Hid (gZ l (i:Int)=l[i]):=aa (we l i hi);have O:0<=(i:Int):=af;have C:i<(l:Int):=af;have Z:decide ((i:Int)<0)=false:=dF af;unfold maxLen at I;clear hs h1 n s;generalize l[i]=x at*;let⟨u,V⟩:=aH (lv x);let⟨G,p⟩:=Jh2 V (Hx x V);clear V;go_enter func194,ntmps194;go_wp2_with(go_at_call 241;refine S.o.bC ?_;rintro e J⟨rfl,d⟩;rw[r.o];have j:=(D.o.keep d).blk.c 0;have F:=q.o J d);obtain⟨A,E,H,M,N,Q⟩:=F;go_region_held3(fun W=>W.cell? (be gs 0)=some (.slice (some (be b 0)) l K)/\W.cell? (b,i*6)=x.cycle/\W.cell? (b,i*6+1)=x.mem/\W.cell? (b,i*6+2)=x.bK/\W.cell? (b,i*6+3)=x.cE/\W.cell? (b,i*6+4)=x.done/\W.cell? (b,i*6+5)=x.cN) (first|exact⟨j,A,E,H,M,N,Q⟩|exact⟨z,t⟩|assumption|go_keep)
   (first|(go_at_call 242;refine(p.o _).bC ?_;rintro e k⟨rfl,f⟩;have L:=iY d f d.size;have z:=(D.o.keep L).blk.c 0;have t:=q.o k L))
  go_wp2;go_ret2;refine⟨IntKind.i64.wrap (u-x.done),0,rfl,bS rfl,by rw[r.o];simp,fun _=> ?_,L⟩;rw[r.o,T.o,G.o,IntKind.wrap_i64];simp only[wrap64]
def wi(g:Nat)(lb:Array Value)(p:Ob->Bool)(w:World):Prop:=∀(W:World) (x:Ob),Bw w W->Calls prog g (#[.agg #[x.cycle,x.mem,x.bK,x.cE,x.done,x.cN]]++lb) W (bi (.bool (p x)) W)
def H3(v:bE)(l:bF Ob)(g:Nat)(lb:Array bE)(eg:∀args w,(callFunc g args).run prog w=.ok (.enter g args) w)(p:Ob->Bool)(w:bD)(hp:wi g lb p w)(hv:Sl eS 6 w v l)(hn:l.length<=100000):bG 315 #[v,.func (.func g) #[] lb] w (gP eS 71 6 (l.filterMap (eJ p)) w):=by
 let⟨u,D⟩:=Jh2 hp hv;obtain⟨W,K,rfl,_⟩:=hv;let⟨J,hi,S,R,ab⟩:=wm yZ;have Y:Bw w w:=bM _ _;clear hp;go_enter func315,ntmps315;go_wp2;go_loopw[5,10] (fun vo vi wr=>∃k:Nat,k<=l.length/\vi=k/\wr.ownsRow w.heap.size 71 6 vo ((l.take k).filterMap (eJ p)).length (bN eS ((l.take k).filterMap (eJ p)))/\Bw w wr) (fun _ vi _=>l.length-(intOf vi).toNat);exact⟨0,cH _,rfl,⟨aK,bS ⟨rfl,rfl⟩⟩,bM _ _⟩;obtain⟨k,hk,rfl,a,r⟩:=hrel;have Q:=aa a;obtain⟨no,ko,rfl⟩:=bV a;clear a;by_cases H:k<l
 ·obtain⟨ai,ac,b,m,rfl,_,n⟩:=(D.o.keep r).hd;let⟨r0,s,P,f,r4,r5⟩:=oA (n k H);have ae:0<=(k:Int):=af;have C:k<(l:Int):=af;unfold maxLen at ac;have y:=aa (pN (eJ p) l k H);have ag:((l.take k).filterMap (eJ p)).length<=k:=bW (gK _ _) aM;clear n;generalize(l.take k).filterMap (eJ p)=L at*
  generalize l[k]=x at*;have E:=r.alloc r.size (bH (gE x) 71);let⟨T,N⟩:=Jh2 (bI.new wr 71 (gE x)) (Q.o.alloc (bH (gE x) 71));by_cases t:x.cN=1
  rotate_left
  ·have hb:=xp.2 t;have X:=aa t;clear t;have I:Hid ((l.take (k+1)).filterMap (eJ p)=L):=aa QbM;clear y;go_wp2_with(fail);go_roundw;exact⟨k+1,af,aw,by rw[I.o];exact N.o,E⟩;exact aV
  have hb:=beq_iff_eq.2 t;have X:=aa t;clear t;cases hpx:p x
  ·have d:=aa hpx;clear hpx;have I:Hid ((l.take (k+1)).filterMap (eJ p)=L):=aa Qbt;clear y;go_wp2_with((go_at_fn g;refine(u.o _ x E).bC ?_;rintro e O⟨rfl,F⟩;rw[d.o];have V:=E.bu (F.bC E.size);have A:=aa (cJ N.o F);have Z:=T.o.keep F;have y0:=Z.c 0;have y1:=Z.c 1;have y2:=Z.c 2;have y3:=Z.c 3;have y4:=Z.c 4;have y5:=Z.c 5;clear Z));exact QcU
  ·have d:=aa hpx;clear hpx;have I:Hid (L++[x]=(l.take (k+1)).filterMap (eJ p)):=aa QbO;clear y;go_wp2_with(first|(go_at_fn g;refine(u.o _ x E).bC ?_;rintro e O⟨rfl,F⟩;rw[d.o];have V:=E.bu (F.bC E.size);have A:=aa (cJ N.o F);have Z:=T.o.keep F;have y0:=Z.c 0;have y1:=Z.c 1;have y2:=Z.c 2;have y3:=Z.c 3;have y4:=Z.c 4;have y5:=Z.c 5;clear Z)|(at_builtin;refine fG il ah xQ _ rfl _ _ 64 rfl w.heap.size 71 J (.agg #[(),(),(),(),(),()]) 48 underlying64 hi S R ab aB (.slice no L ko) L rfl (A.o.alloc _) (some (be O 0)) 1 [x] rfl (Sl.fg eS il _ 71 _ aB _ rfl) Qaj Qb7 (V.alloc V.size (bH #[x.cycle,x.mem,x.bK,x.cE,x.done,x.cN] 71)).size ?_;intro j w2 a z M;have G:=(V.alloc V.size (bH #[x.cycle,x.mem,x.bK,x.cE,x.done,x.cN] 71)).grown z (V.alloc V.size _).size (fun q hq=>(A.o.lt q hq).1);rw[I.o]at a;obtain⟨B,U,rfl⟩:=bV a;clear z M));go_roundw;exact⟨k+1,af,aw,a,G⟩;exact aV
 ·obtain rfl:k=l.length:=af;have i:¬(l.length<(l:Int)):=af;have ad:l.take l.length=l:=eU (bL _);rw[ad]at Q;go_wp2;go_ret;exact⟨_,rfl,d8 Q.o Y.size,Y.bu (r.bC Y.size)⟩
end
def iR(l:List Int)(m:Int):Bool:=l.any fun y=>decide (m=y)
def QR(v:bE)(l:bF Int)(m:Int)(w:bD)(hv:Sl eI 1 w v l)(hn:l.length<=1000000):
  bG 240 #[v,m] w (bj (aY (eo (fun y=>decide (m=y)) l)) w):=by
 obtain⟨a,U,rfl,t,d,F⟩:=hv.oy;unfold maxLen at d;have c:=aa F;have S:=aa (uz (fun y=>decide (m=y)) l);clear F;go_enter func240,ntmps240;go_wp2;go_loopw[8] (fun vi wr=>∃k:Nat,k<=l.length/\vi=k/\wr=w/\∀j (h:j<k) (h2:j<l.length),decide (m=l[j])=false) (aW l);exact⟨0,cH _,rfl,rfl,fun j h=>af⟩;obtain⟨k,z,rfl,rfl,f⟩:=hrel;have Q:=aa f;clear f;by_cases g:k<l
 ·obtain⟨b,r,rfl,p,n⟩:=c.o af;have A:=n k g;have O:0<=(k:Int):=af;have C:k<(l:Int):=af;by_cases V:m=l[k]
  ·have u:=beq_iff_eq.2 V;have q:Hid (eo (fun y=>decide (m=y)) l=(k:Nat)):=aa (by
    rcases S.o with⟨_,h2⟩|⟨i,hi,h1,h2,h3⟩
    ·have:=h2 k g
     rw[<-V]at this;simp at this
    ·rw[h1];rcases Nat.lt_trichotomy i k with h|h|h
     ·have:=Q.o i h hi
      rw[this]at h2;cases h2
     ·rw[h]
     ·have:=h3 k h
      rw[<-V]at this;simp at this)
   clear V n;generalize l[k]=x at*;go_wp2;go_ret;exact⟨by rw[q.o];rfl,rfl⟩
  ·have u:=xp.2 V;have K:=aa V;clear V n;go_wp2;go_roundw
   case rel=>exact⟨k+1,af,aw,by trivial,fun j h h2=>by
    by_cases e:j=k
    ·subst e;exact decide_eq_false K.o
    ·exact Q.o j af h2⟩
   case measure=>exact aV
 ·have s:¬(k<(l:Int)):=af;have q:Hid (eo (fun y=>decide (m=y)) l=-1):=aa (by
   rcases S.o with⟨h1,_⟩|⟨i,hi,h1,h2,h3⟩
   ·exact h1
   ·have:=Q.o i af hi
    rw[this]at h2;cases h2)
  go_wp2;go_ret;exact⟨by rw[q.o];rfl,rfl⟩
def H4(v:bE)(l:bF Int)(m:Int)(w:bD)(hv:Sl eI 1 w v l)(hn:l.length<=1000000):
  bG 192 #[v,m] w (bj (.bool (iR l m)) w):=by
 have z:Hid (decide (0<=eo (fun y=>decide (m=y)) l)=iR l m):=aa (Qy _ l).symm;have b:=aa (QR v l m w hv hn);obtain⟨a,U,rfl,_⟩:=hv;generalize eo (fun y=>decide (m=y)) l=n at*;go_enter func192,ntmps192;go_wp2_with(go_at_call 240;refine b.o.bC ?_;rintro e i⟨rfl,rfl⟩);go_ret;exact⟨by rw[<-z.o];rfl,rfl⟩
def uA(v:bE)(l:bF Int)(m:Int)(w:bD)(hv:Sl eI 1 w v l)(hn:l.length<=1000000):
  bG 161 #[v,m] w (bj (.bool (iR l m)) w):=by
 have b:=aa (H4 v l m w hv hn);obtain⟨a,U,rfl,_⟩:=hv;generalize iR l m=n at*;go_enter func161,ntmps161;go_wp2_with(go_at_call 192;refine b.o.bC ?_;rintro e i⟨rfl,rfl⟩);go_ret;exact⟨rfl,rfl⟩
def fM(x:Ob)(who:List Int):Int×Int:=
 if x.cN≠1 then(x.cN,x.done)
 else if 0<x.cE/\x.done=x.cE then(2,x.done)
 else if 0<x.cE then(3,x.done)
 else if x.cE<0/\iR who x.mem=true then(3,0)
 else(x.cN,x.done)
def QT(x:Ob)(h:Bool):x.cN≠1∨(x.cN=1/\0<x.cE/\x.done=x.cE)∨(x.cN=1/\0<x.cE/\x.done≠x.cE)∨(x.cN=1/\¬0<x.cE/\x.cE<0/\h=true)∨(x.cN=1/\¬0<x.cE/\x.cE<0/\h=false)∨(x.cN=1/\¬0<x.cE/\¬x.cE<0):=by cases h<;>simp<;>omega
def QU(v:bE)(who:bF Int)(x:Ob)(w:bD)(hv:Sl eI 1 w v who)(hn:who.length<=1000):
  bG 258 #[.agg #[x.cycle,x.mem,x.bK,x.cE,x.done,x.cN],v] w (bi (bg (fM x who)) w):=by
 obtain⟨f,F,T,O,l,c⟩:=x;have C:Bw w (aZ w #[f,F,T,O,l,c] 71):=aI;have b:=aa (uA v who F _ (hv.keep C) af);obtain⟨a,U,rfl,_⟩:=hv;let⟨h,g⟩:=aH (iR who F);have z:=aa g;have S:Hid (fM ⟨f,F,T,O,l,c⟩ who=if c≠1 then(c,l)else if 0<O/\l=O then(2,l)else if 0<O then(3,l)else if O<0/\h=true then(3,0)else(c,l)):=aa (by unfold fM;rw[<-g]);clear g;dsimp only;rcases QT ⟨f,F,T,O,l,c⟩ h with h1|⟨h1,h2,h3⟩|⟨h1,h2,h3⟩|⟨h1,h2,h3,h4⟩|⟨h1,h2,h3,h4⟩|⟨h1,h2,h3⟩
 all_goals dsimp only at h1
 ·have u:(c !=1)=true:=aG h1;have q:Hid (fM ⟨f,F,T,O,l,c⟩ who=(c,l)):=aa (by rw[S.o,yc h1]);clear h1 S;exact Qav
 all_goals
  subst h1;dsimp only at h2 h3
 ·have u:=dT h2;have d:=beq_iff_eq.2 h3;have q:Hid (fM ⟨f,F,T,O,l,1⟩ who=(2,l)):=aa (by rw[S.o,ya au,yc ⟨h2,h3⟩]);clear h2 h3 S;exact Qav
 ·have u:=dT h2;have d:=xp.2 h3;have q:Hid (fM ⟨f,F,T,O,l,1⟩ who=(3,l)):=aa (by rw[S.o,ya au,ya (fun h=>h3 h.2),yc h2]);clear h2 h3 S;exact Qav
 ·subst h4;have u:=dF h2;have d:=dT h3;have q:Hid (fM ⟨f,F,T,O,l,1⟩ who=(3,0)):=aa (by rw[S.o,ya au,ya (fun h=>h2 h.1),ya h2,yc ⟨h3,rfl⟩]);clear h2 h3 S;go_enter func258,ntmps258;go_wp2_with(go_at_call 161;refine b.o.bC ?_;rintro e i⟨rfl,rfl⟩;rw[z.o]);exact QcP
 ·subst h4;have u:=dF h2;have d:=dT h3;have q:Hid (fM ⟨f,F,T,O,l,1⟩ who=(1,l)):=aa (by rw[S.o,ya au,ya (fun h=>h2 h.1),ya h2,ya (fun h=>by cases h.2)]);clear h2 h3 S;go_enter func258,ntmps258;go_wp2_with(go_at_call 161;refine b.o.bC ?_;rintro e i⟨rfl,rfl⟩;rw[z.o]);go_quiet(fail);go_wp2;exact QcP
 ·have u:=dF h2;have d:=dF h3;have q:Hid (fM ⟨f,F,T,O,l,1⟩ who=(1,l)):=aa (by rw[S.o,ya au,ya (fun h=>h2 h.1),ya h2,ya (fun h=>h3 h.1)]);clear h2 h3 S;exact Qav
section
attribute [local go_sem ↓] wp_at_zero wp_at_succ
def jW(x:Ob):Lg:=⟨x.mem,x.bK,if bO (-x.cE)then-x.cE else 9223372036854775807⟩
def QV(x:Ob)(h64:bO x.cE)(w:bD):bG 341 #[.agg #[x.cycle,x.mem,x.bK,x.cE,x.done,x.cN]] w (bi (.agg #[aY (jW x).mem,aY (jW x).bK,aY (jW x).bJ]) w):=by
 obtain⟨g,F,T,O,l,f⟩:=x;dsimp only at h64;have C:Bw w (aZ w #[g,F,T,O,l,f] 71):=aI;have d:=C.alloc C.size (bH #[(),(),()] 120);have Y:Hid (bI ((w.alloc (bH #[g,F,T,O,l,f] 71)).alloc (bH #[(),(),()] 120)) (w.heap.size+1) 120 #[(),(),()]):=aa (by
  have:=bI.new (aZ w #[g,F,T,O,l,f] 71) 120 #[(),(),()]
  simpa using this)
 by_cases b:bO (-O)
 ·have G:Hid (jW ⟨g,F,T,O,l,f⟩=⟨F,T,-O⟩):=aa (by unfold jW;rw[yc b]);have S:Hid (dK (-O)=(-O,0)):=aa (by unfold dK;rw[yc b]);clear b;go_enter func341,ntmps341;go_wp2_with(first
   |(go_at_call 312;refine(sj O h64 _).bC ?_;rintro e i⟨rfl,rfl⟩;rw[S.o])
   |(refine fQ rfl 120 _ _ rfl rfl (w.heap.size+1) #[F,T,(-O:Int)] rfl rfl aj aD _ Y.o rfl ?_;intro M a;have q:=aa a;have W:=a.row.c 0;have I:=a.row.c 1;have h:=a.row.c 2))
  refine wb (v:=.agg #[F,T,(-O:Int)]) QcX rfl ?_;exact⟨by rw[G.o],q.o.low d af⟩
 ·have G:Hid (jW ⟨g,F,T,O,l,f⟩=⟨F,T,9223372036854775807⟩):=aa (by unfold jW;rw[ya b]);have S:Hid (dK (-O)=(0,2)):=aa (by unfold dK;rw[ya b]);clear b;go_enter func341,ntmps341;go_wp2_with(first
   |(go_at_call 312;refine(sj O h64 _).bC ?_;rintro e i⟨rfl,rfl⟩;rw[S.o])
   |(refine fQ rfl 120 _ _ rfl rfl (w.heap.size+1) #[F,T,(9223372036854775807:Int)] rfl rfl aj aD _ Y.o rfl ?_;intro M a;have q:=aa a;have W:=a.row.c 0;have I:=a.row.c 1;have h:=a.row.c 2))
  refine wb (v:=.agg #[F,T,(9223372036854775807:Int)]) QcX rfl ?_;exact⟨by rw[G.o],q.o.low d af⟩
def QW:∀args w,(callFunc 340 args).run prog w=.ok (.enter 340 args) w:=enters_of func340 aj rfl
def QY:∀args w,(callFunc 298 args).run prog w=.ok (.enter 298 args) w:=enters_of func298 aj rfl
def QZ(g1 g:Nat)(lb:Array bE)(eg:∀args w,(callFunc g args).run prog w=.ok (.enter g args) w)(p:Ob->Bool)(w:bD)(hp:wi g lb p w)(h1:bI w g1 358 #[.func (.func g) #[] lb]):wi 340 #[ptr g1] (fun x=>decide (x.cE<0)&&p x) w:=by
 intro W x I;have C:Bw W (aZ W (gE x) 71):=aI;have G:=aa (hp (aZ W (gE x) 71) x (I.bu (C.bC I.size)));have Z:=((h1.keep I).keep C).c 0;let⟨b,u⟩:=aH (p x);have N:=aa u;show bG 340 #[.agg #[x.cycle,x.mem,x.bK,x.cE,x.done,x.cN],ptr g1] W _;clear h1 hp u;by_cases H:x.cE<0
 ·have l:=dT H;have q:Hid ((decide (x.cE<0)&&p x)=b):=aa (by rw[N.o];simp[H]);clear H;go_enter func340,ntmps340;go_wp2_with(go_at_fn g;refine G.o.bC ?_;rintro e O⟨rfl,F⟩;rw[N.o]);go_ret;exact⟨by rw[q.o];rfl,C.bu (F.bC C.size)⟩
 ·have l:=dF H;have q:Hid ((decide (x.cE<0)&&p x)=false):=aa (by simp[H]);clear H;go_enter func340,ntmps340;go_wp2;go_ret;exact⟨by rw[q.o];rfl,C⟩
def rh(who:List Int)(a:Int)(x:Ob):Bool:=decide (x.bK=a)&& !iR who x.mem
def Q1(g1 g2:Nat)(v:bE)(who:bF Int)(a:Int)(w:bD)(h1:bI w g1 3 #[a])(h2:bI w g2 74 #[v])(hv:Sl eI 1 w v who)(hn:who.length<=1000):wi 298 #[ptr g1,ptr g2] (rh who a) w:=by
 intro W x I;have C:Bw W (aZ W (gE x) 71):=aI;have Z:=((h1.keep I).keep C).c 0;have Y:=((h2.keep I).keep C).c 0;have d:=aa (uA v who x.mem _ ((hv.keep I).keep C) af);obtain⟨f,K,rfl,_⟩:=hv;let⟨b,u⟩:=aH (iR who x.mem);have N:=aa u;show bG 298 #[.agg #[x.cycle,x.mem,x.bK,x.cE,x.done,x.cN],ptr g1,ptr g2] W _;clear h1 h2 u;by_cases hn:x.bK=a
 ·have l:=beq_iff_eq.2 hn;have q:Hid (rh who a x= !b):=aa (by unfold rh;rw[N.o];simp[hn]);clear hn;go_enter func298,ntmps298;go_wp2_with(go_at_call 161;refine d.o.bC ?_;rintro e O⟨rfl,rfl⟩;rw[N.o]);go_ret;exact⟨by rw[q.o];rfl,C⟩
 ·have l:=xp.2 hn;have q:Hid (rh who a x=false):=aa (by unfold rh;simp[hn]);clear hn;go_enter func298,ntmps298;go_wp2;go_ret;exact⟨by rw[q.o];rfl,C⟩
def oL(x:Ob):Option Lg:=some (jW x)
def rj(l:List Ob)(p:Ob->Bool):List Lg:=(l.filterMap (eJ fun x=>decide (x.cE<0)&&p x)).filterMap oL
variable{l:bF Ob}
def Q6{p:Ob->Bool}{x:Ob}(h:x∈l.filterMap (eJ p)):x∈l:=by
 let⟨y,B,V⟩:=acY.1 h;unfold eJ at V;split at V
 ·cases V;exact B
 ·cases V
def Ra(v:bE)(ls:bF Ob)(g:Nat)(lb:Array bE)(eg:∀args w,(callFunc g args).run prog w=.ok (.enter g args) w)(p:Ob->Bool)(w:bD)(hp:wi g lb p w)(hv:Sl eS 6 w v ls)(hn:ls.length<=100000)(h64:∀x∈ls,bO x.cE):bG 297 #[v,.func (.func g) #[] lb] w (gP df 120 3 (rj ls p) w):=by
 have c:Bw w (aZ w #[.func (.func g) #[] lb] 358):=aI;have R:=aa (H3 v ls 340 #[ptr w.heap.size] QW _ _ (QZ w.heap.size g lb eg p _ (fun W x hW=>hp W x (c.bu (hW.bC c.size))) (bI.new w 358 _)) (hv.keep c) hn);have ab:Hid (rj ls p=(ls.filterMap (eJ fun x=>decide (x.cE<0)&&p x)).filterMap oL):=aa rfl;have Z:Hid (∀x∈ls.filterMap (eJ fun x=>decide (x.cE<0)&&p x),bO x.cE):=aa (fun x hx=>h64 x (Q6 hx));have u:(ls.filterMap (eJ fun x=>decide (x.cE<0)&&p x)).length<=100000:=bW (gK _ _) hn;obtain⟨T,k0,rfl,_⟩:=hv;let⟨J,hi,S,X,ac⟩:=wm oF;clear hp h64;generalize ls.filterMap (eJ fun x=>decide (x.cE<0)&&p x)=l at*;go_enter func297,ntmps297;go_wp2_with(go_at_call 315;refine R.o.bC ?_;rintro e i⟨v1,rfl,h,a⟩;have hf:=bV h;obtain⟨n1,K,rfl⟩:=hf);have D:=aa (Sl.own il h);have Y:=c.bu (a.bC c.size);have ak:=Y.size;clear h a R;go_loopw[5,12] (fun vo vi wr=>∃k:Nat,k<=l.length/\vi=k/\wr.ownsRow i 120 3 vo ((l.take k).filterMap oL).length (bN df ((l.take k).filterMap oL))/\Bw i wr) (fun _ vi _=>l.length-(intOf vi).toNat);exact⟨0,cH _,rfl,⟨aK,bS ⟨rfl,rfl⟩⟩,bM _ _⟩;obtain⟨k,hk,rfl,h,r⟩:=hrel;have Q:=aa h;obtain⟨no,d,rfl⟩:=bV h;clear h;by_cases z:k<l
 ·obtain⟨aj,ad,b,m,rfl,_,n⟩:=(D.o.keep r).hd;let⟨r0,s,P,r3,r4,r5⟩:=oA (n k z);have O:0<=(k:Int):=af;have C:k<(l:Int):=af;unfold maxLen at ad;have A:=aa (pN oL l k z);have ag:((l.take k).filterMap oL).length<=k:=bW (gK _ _) aM;have E:=aa (Z.o l[k] (cZ z));clear n;generalize(l.take k).filterMap oL=L at*
  generalize l[k]=x at*;have t:=r.alloc r.size (bH (gE x) 71);let⟨HX,N⟩:=Jh2 (bI.new wr 71 (gE x)) (Q.o.alloc (bH (gE x) 71))
  ·have f:True:=trivial;have I:Hid (L++[jW x]=(l.take (k+1)).filterMap oL):=aa (by rw[A.o,show oL x=some (jW x)from rfl];rfl);clear A;go_wp2_with(first|(go_at_call 341;refine(QV x E.o _).bC ?_;rintro e w3⟨rfl,F⟩;have V:=t.bu (F.bC t.size);have H:=aa (cJ N.o F))|(at_builtin;refine fG eG ah oE _ rfl _ _ 66 rfl i 120 J (.agg #[(),(),()]) 24 underlying66 hi S X ac aB (.slice no L d) L rfl (H.o.alloc _) (some (be w3 0)) 1 [jW x] rfl (Sl.fg df eG _ 120 _ aB _ rfl) Qaj QaX (V.alloc V.size (bH #[aY (jW x).mem,aY (jW x).bK,aY (jW x).bJ] 120)).size ?_;intro j w2 h y M;have G:=(V.alloc V.size (bH #[aY (jW x).mem,aY (jW x).bK,aY (jW x).bJ] 120)).grown y (V.alloc V.size _).size (fun q hq=>(H.o.lt q hq).1);rw[I.o]at h;obtain⟨B,U,rfl⟩:=bV h;clear y M));go_roundw;exact⟨k+1,af,aw,h,G⟩;exact aV
 ·obtain rfl:k=l.length:=af;have ai:¬(l.length<(l:Int)):=af;have ae:l.take l.length=l:=eU (bL _);rw[ae]at Q;go_wp2;go_ret;rw[ab.o];exact⟨_,rfl,d8 Q.o Y.size,Y.bu (r.bC Y.size)⟩
def Rb(v vw:bE)(l:bF Ob)(who:bF Int)(a:Int)(w:bD)(hv:Sl eS 6 w v l)(hw:Sl eI 1 w vw who)(hn:l.length<=100000)(hnw:who.length<=1000)(h64:∀x∈l,bO x.cE):bG 246 #[v,vw,a] w (gP df 120 3 (rj l (rh who a)) w):=by
 let⟨g,c⟩:∃g,g=(w.alloc (bH #[vw] 74)).alloc (bH #[a] 3):=⟨_,rfl⟩;have b:Bw w g:=by rw[c];exact aI.alloc au _
 have z:bI g w 74 #[vw]:=by rw[c];exact(bI.new w 74 _).alloc _
 have t:bI g (w.heap.size+1) 3 #[a]:=by rw[c];have:=bI.new (aZ w #[vw] 74) 3 #[a];simpa using this
 have G:=aa (Ra v l 298 #[ptr (w.heap.size+1),ptr w.heap.size] QY (rh who a) g (Q1 (w.heap.size+1) w vw who a g t z (hw.keep b) hnw) (hv.keep b) hn h64);obtain⟨T,I,rfl,_⟩:=hv;obtain⟨B,U,rfl,_⟩:=hw;subst c;clear h64 z t;go_enter func246,ntmps246;go_wp2_with(go_at_call 297;refine G.o.bC ?_;rintro e i⟨d,rfl,h,f⟩);obtain⟨A,u,rfl⟩:=bV h;go_ret;exact⟨_,rfl,d8 h b.size,b.bu (f.bC b.size)⟩
end
section
open Go.Sort Go.Proofs
attribute [local go_sem ↓] wp_at_zero wp_at_succ
variable{w:bD}{B T:Nat}{v:bE}
def H8{l:bF Int}(h:w.ownsRow B T 1 v l (bN eI l))(h0:l.length≠0):∃b cap cur,v=.slice (some ⟨b,0,none⟩) l cap/\B<=b/\w.heap[b]?=some (.cells cur T (0,0))/\l.length<=cap/\cap<=maxLen/\cur.size=cap/\cur.toList.take l.length=l.map (Value.int .i64):=by
 obtain⟨_,h|⟨b,cap,cur,rfl,a,u,P,Z,L,t⟩⟩:=h
 ·exact xl h.2 h0
 ·refine⟨b,cap,cur,rfl,a,u,P,Z,af, ?_⟩;rw[gD]at t;rw[t,nN]
variable{b:Nat}{cur:Array bE}
def Ia{l:bF Int}(hb:w.heap[b]?=some (.cells cur T (0,0)))(ht:cur.toList.take l.length=l.map (Value.int .i64)):Holds (Value.int .i64) w b 0 l.toArray:=by
 intro j J;have g:j<l:=aG J;have d:cur[j]?=some (.int .i64 l[j]):=by
  have e:(cur.toList.take l)[j]?=some (.int .i64 l[j]):=by rw[ht];simp[g]
  rw[List.getElem?_take_of_lt g]at e;simpa using e
 refine⟨?_, ?_⟩
 ·rw[World.cell?];simp only[hb,fW];rw[d];simp[g]
 ·rw[World.frozen?];simp[hb]
variable{n:Nat}
def Rc(d:Array Int)(os:Array Obj)(hk:k≠b)(hl:k<w):(grow (putRow (Value.int .i64) (Go.Sort.ahead w n) b 0 d) os).heap[k]?=w.heap[k]?:=by
 rw[heap_grow_old]
 ·unfold putRow mapBlock Go.Sort.ahead;rw[Ba];simp[Ne.symm hk]
 ·simpa[putRow,mapBlock,Go.Sort.ahead]using hl
def Rd(d:Array Int)(os:Array Obj)(hb:w.heap[b]?=some (.cells cur T (0,0))):(grow (putRow (Value.int .i64) (Go.Sort.ahead w n) b 0 d) os).heap[b]?=some (.cells (putCells (Value.int .i64) 0 d cur) T (0,0)):=by
 have S:b<w:=by
  rw[Fz]at hb;exact hb.1
 rw[heap_grow_old]
 ·unfold putRow mapBlock Go.Sort.ahead;rw[Ba,yc rfl,hb];simp[onCells]
 ·simpa[putRow,mapBlock,Go.Sort.ahead]using S
def Re{d:bF Int}(hs:d.length<=cur.size):(putCells (Value.int .i64) 0 d.toArray cur).toList.take d.length=d.map (Value.int .i64):=by
 apply mR;intro k;by_cases a:k<d
 ·rw[List.getElem?_take_of_lt a];have D:k<cur.size:=af;simp[putCells,a,D]
 ·rw[pC aA,pC aA]
variable{cap:Nat}
def Ib{d:bF Int}(os:Array Obj)(hB:B<=b)(hb:w.heap[b]?=some (.cells cur T (0,0)))(hm:cap<=maxLen)(hs:cur.size=cap)(hd:d.length<=cap)(m:Nat)(hmd:m<=d):(grow (putRow (Value.int .i64) (Go.Sort.ahead w n) b 0 d.toArray) os).ownsRow B T 1 (.slice (some (be b 0)) m cap) m (bN eI (d.take m)):=by refine⟨by rw[nN];simp;omega,ci ⟨b,cap,_,rfl,hB,Rd d.toArray os hb,af,hm,by simp[putCells];omega, ?_⟩⟩;rw[gD,nN];have h:=Re (cur:=cur) (d:=d) af;have c:=ym (List.take m) h;rw[List.take_take,ll hmd,<-List.map_take]at c;exact c
def Ic(d:Array Int)(os:Array Obj)(hB:B<=b)(hw:B<=w):Below B w (grow (putRow (Value.int .i64) (Go.Sort.ahead w n) b 0 d) os):=by refine⟨rfl,rfl,rfl, ?_,fun k hk=>Rc d os af af⟩;simp[grow,putRow,mapBlock,Go.Sort.ahead]
def Rg{l:bF Int}(h:w.ownsRow B 3 1 v l (bN eI l))(hw:B<=w)(hn:l.length<=100000):bG 349 #[v] w fun e w'=>e=.returned (.tuple #[])/\w'.ownsRow B 3 1 v l (bN eI (l.mergeSort fun x y=>decide (x<=y)))/\Below B w w':=by
 by_cases O:l.length=0
 ·obtain rfl:l=[]:=List.length_eq_zero_iff.1 O;obtain⟨p,U,rfl⟩:=bV h;refine(Tryz.slices_Sort_int_none p U w).bC ?_;rintro e w'⟨rfl,rfl⟩;exact⟨rfl,aG h,bM _ _⟩
 ·obtain⟨b,U,X,rfl,f,u,P,Z,L,t⟩:=H8 h O;have a:b<w:=by
   rw[Fz]at u;exact u.1
  refine(Tryz.slices_Sort_int b 0 U l w (Ia u t) a af).bC ?_;rintro e w'⟨rfl,n,g,rfl⟩;have S:(l.mergeSort fun x y=>decide (x<=y)).length=l.length:=xy _;have c:=Ib (w:=w) (n:=n) g f u Z L (d:=l.mergeSort fun x y=>decide (x<=y)) af l af;rw[eU af]at c;exact⟨rfl,c,Ic _ _ f hw⟩
def Id(l:bF Int):(Lib.compact l).length<=l:=Go.Lib.compact_length_le l
def Rh{l:bF Int}(h:w.ownsRow B 3 1 v l (bN eI l))(hw:B<=w)(hn:l.length<=100000):bG 350 #[v] w fun e w'=>∃v',e=.returned v'/\w'.ownsRow B 3 1 v' (Lib.compact l).length (bN eI (Lib.compact l))/\Below B w w':=by
 by_cases O:l.length=0
 ·obtain rfl:l=[]:=List.length_eq_zero_iff.1 O;obtain⟨p,U,rfl⟩:=bV h;refine(Tryz.slices_Compact_int_empty p U w).bC ?_;rintro e w'⟨rfl,rfl⟩;exact⟨_,rfl,(by rw[show Lib.compact ([]:bF Int)=[]from rfl];exact h),bM _ _⟩
 ·obtain⟨b,U,X,rfl,a,u,P,Z,L,t⟩:=H8 h O;refine(Tryz.slices_Compact_int b 0 U l w (Ia u t) af P).bC ?_;rintro e w'⟨rfl,n,rfl⟩;have S:=Id l;have c:=Ib (w:=w) (n:=n) #[] a u Z L (d:=Lib.compact l++List.replicate (l.length-(Lib.compact l).length) 0) aA (Lib.compact l).length au;rw[List.take_left' rfl,grow_empty]at c;refine⟨_,rfl,c, ?_⟩;have x:=Ic (w:=w) (n:=n) (Lib.compact l++List.replicate (l.length-(Lib.compact l).length) 0).toArray #[] a hw;rwa[grow_empty]at x
def oM(l:List Int):List Int:=Lib.compact (l.mergeSort fun x y=>decide (x<=y))
def Ri(l:bF Int):(oM l).length<=l:=by
 have:=Id (l.mergeSort fun x y=>decide (x<=y))
 rw[xy]at this;exact this
def Ie(v:bE)(l:bF Int)(w:bD)(hv:Sl eI 1 w v l)(hn:l.length<=100000):bG 317 #[v] w (gP eI 3 1 (oM l) w):=by have G:=aa (FX v l w hv af);obtain⟨T,a,rfl,_⟩:=hv;have I:=aa hn;clear hn;go_enter func317,ntmps317;go_wp2_with(first|(go_at_call 88;refine G.o.bC ?_;rintro e i⟨j,rfl,h,b⟩;have Q:=aa h;have g:=bV h;obtain⟨W,K,rfl⟩:=g;have X:=b.size;clear h)|(go_at_call 349;refine(Rg Q.o X I.o).bC ?_;rintro e k⟨rfl,h,f⟩;have N:=aa h;clear h;have c:=b.bu f)|(go_at_call 350;refine(Rh (by rw[xy];exact N.o) c.size (by rw[xy];exact I.o)).bC ?_;rintro e O⟨C,rfl,h,F⟩;have g:=bV h;obtain⟨A,u,rfl⟩:=g;have q:=aa h;clear h;have d:=c.bu F));go_ret;exact⟨_,rfl,q.o,d⟩
def Rj:∀args w,(callFunc 316 args).run prog w=.ok (.enter 316 args) w:=enters_of func316 aj rfl
def mu(x:Ob):Bool:=decide (0<x.cE)&&decide (x.done<x.cE)
def Rk(w:bD):wi 316 #[] mu w:=by
 intro W x I;have C:Bw W (aZ W (gE x) 71):=aI;show bG 316 #[.agg #[x.cycle,x.mem,x.bK,x.cE,x.done,x.cN]] W _;let⟨b,u⟩:=aH (mu x);by_cases H:0<x.cE
 ·by_cases l:x.done<x.cE
  ·have F:=dT H;have D:=dT l;have q:Hid (mu x=true):=aa (by unfold mu;simp[H,l]);clear H l u;exact Qbm
  ·have F:=dT H;have D:=dF l;have q:Hid (mu x=false):=aa (by unfold mu;simp[l]);clear H l u;exact Qbm
 ·have F:=dF H;have q:Hid (mu x=false):=aa (by unfold mu;simp[H]);clear H u;exact Qbm
def oN(x:Ob):Option Int:=some x.mem
def gQ(l:List Ob):List Int:=oM ((l.filterMap (eJ mu)).filterMap oN)
def Rl(v:bE)(ls:bF Ob)(w:bD)(hv:Sl eS 6 w v ls)(hn:ls.length<=100000):bG 256 #[v] w (gP eI 3 1 (gQ ls) w):=by
 have R:=aa (H3 v ls 316 #[] Rj _ w (Rk w) hv hn);have Y:Hid (gQ ls=oM ((ls.filterMap (eJ mu)).filterMap oN)):=aa rfl;have u:(ls.filterMap (eJ mu)).length<=100000:=bW (gK _ _) hn;obtain⟨T,k0,rfl,_⟩:=hv;let⟨J,hi,S,X,ac⟩:=wm ui;generalize ls.filterMap (eJ mu)=l at*;go_enter func256,ntmps256;go_wp2_with(go_at_call 315;refine R.o.bC ?_;rintro e i⟨v1,rfl,h,a⟩;have g:=bV h;obtain⟨W,K,rfl⟩:=g);have D:=aa (Sl.own il h);have c1:=a;have aj:=c1.size;clear h a R;go_loopw[3,9] (fun vo vi wr=>∃k:Nat,k<=l.length/\vi=k/\wr.ownsRow i 3 1 vo ((l.take k).filterMap oN).length (bN eI ((l.take k).filterMap oN))/\Bw i wr) (fun _ vi _=>l.length-(intOf vi).toNat);exact⟨0,cH _,rfl,⟨aK,bS ⟨rfl,rfl⟩⟩,bM _ _⟩;obtain⟨k,hk,rfl,h,r⟩:=hrel;have Q:=aa h;obtain⟨V,d,rfl⟩:=bV h;clear h;by_cases z:k<l
 ·obtain⟨ai,ad,b,m,rfl,_,n⟩:=(D.o.keep r).hd;let⟨r0,s,P,r3,r4,r5⟩:=oA (n k z);have O:0<=(k:Int):=af;have C:k<(l:Int):=af;unfold maxLen at ad;have E:=aa (pN oN l k z);have Z:((l.take k).filterMap oN).length<=k:=bW (gK _ _) aM;clear n;generalize(l.take k).filterMap oN=L at*
  generalize l[k]=x at*;have t:=r.alloc r.size (bH (gE x) 71);let⟨HX,N⟩:=Jh2 (bI.new wr 71 (gE x)) (Q.o.alloc (bH (gE x) 71))
  ·have f:True:=trivial;have I:Hid (L++[x.mem]=(l.take (k+1)).filterMap oN):=aa (by rw[E.o,show oN x=some x.mem from rfl];rfl);clear E;go_wp2_with(first|(at_builtin;refine fG kI ah kj _ rfl _ _ 74 rfl i 3 J (aY 0) 8 underlying74 hi S X ac aB (.slice V L d) L rfl (N.o.alloc _) (some (be (wr.heap.size+1) 0)) 1 [x.mem] rfl (Sl.fg eI kI _ 3 _ aB _ au) Qaj QaN (t.alloc t.size (bH #[x.mem] 3)).size ?_;intro j w2 h y M;have b4:=(t.alloc t.size (bH #[x.mem] 3)).grown y (t.alloc t.size _).size (fun q hq=>(N.o.lt q hq).1);rw[I.o]at h;obtain⟨B,U,rfl⟩:=bV h;clear y M));go_roundw;exact⟨k+1,af,aw,h,b4⟩;exact aV
 ·obtain rfl:k=l.length:=af;have ag:¬(l.length<(l:Int)):=af;have ae:l.take l.length=l:=eU (bL _);rw[ae]at Q;have H:(l.filterMap oN).length<=100000:=bW (gK _ _) u;have c:=aa (Ie _ (l.filterMap oN) wr (Sl.own kI Q.o) H);go_wp2_with(go_at_call 317;refine c.o.bC ?_;rintro e w3⟨v3,rfl,G,F⟩;have g:=bV G;obtain⟨A,k3,rfl⟩:=g;have ab:=aa G;clear G);go_ret;rw[Y.o];have p:=c1.bu (r.bC c1.size);exact⟨_,rfl,d8 ab.o p.size,p.bu (F.bC p.size)⟩
end
end Go.Proofs.YtmhohaanddglbaaGreatDoor
namespace Go.Proofs
open Go.Proofs.Tryz
section
open Go.Shelf
def Tryz.l351_ren:Go.Shelf.Ren:=⟨fun|4=>351|n=>n,fun|22=>74|25=>3|3=>3|4=>4|9=>9|20=>20|0=>0|n=>n,fun|n=>n⟩
theorem Tryz.l351:Go.Proofs.Lays8.n4 prog Tryz.l351_ren:={
 mixed:=by kernel_rfl
 f4:=⟨f351.name,by decide,func351.trans (congrArg some (by kernel_rfl))⟩
 t0:=underlying0
 a0:=isAgg0
 z0:=sizeOf0
 v0:=zeroValue0
 t3:=underlying3
 a3:=isAgg3
 z3:=sizeOf3
 v3:=zeroValue3
 t4:=underlying4
 a4:=isAgg4
 z4:=sizeOf4
 v4:=zeroValue4
 t9:=underlying9
 a9:=isAgg9
 z9:=sizeOf9
 v9:=zeroValue9
 t20:=underlying20
 a20:=isAgg20
 z20:=sizeOf20
 v20:=zeroValue20
 t22:=underlying74
 a22:=isAgg74
 z22:=sizeOf74
 v22:=zeroValue74}
def Tryz.l364_ren:Go.Shelf.Ren:=⟨fun|4=>364|n=>n,fun|22=>66|25=>120|3=>3|4=>4|9=>9|20=>20|0=>0|n=>n,fun|n=>n⟩
theorem Tryz.l364:Go.Proofs.Lays8.n4 prog Tryz.l364_ren:={
 mixed:=by kernel_rfl
 f4:=⟨f364.name,by decide,func364.trans (congrArg some (by kernel_rfl))⟩
 t0:=underlying0
 a0:=isAgg0
 z0:=sizeOf0
 v0:=zeroValue0
 t3:=underlying3
 a3:=isAgg3
 z3:=sizeOf3
 v3:=zeroValue3
 t4:=underlying4
 a4:=isAgg4
 z4:=sizeOf4
 v4:=zeroValue4
 t9:=underlying9
 a9:=isAgg9
 z9:=sizeOf9
 v9:=zeroValue9
 t20:=underlying20
 a20:=isAgg20
 z20:=sizeOf20
 v20:=zeroValue20
 t22:=underlying66
 a22:=isAgg66
 z22:=sizeOf66
 v22:=zeroValue66}
def Tryz.l392_ren:Go.Shelf.Ren:=⟨fun|4=>392|n=>n,fun|22=>45|25=>2|3=>3|4=>4|9=>9|20=>20|0=>0|n=>n,fun|n=>n⟩
theorem Tryz.l392:Go.Proofs.Lays8.n4 prog Tryz.l392_ren:={
 mixed:=by kernel_rfl
 f4:=⟨f392.name,by decide,func392.trans (congrArg some (by kernel_rfl))⟩
 t0:=underlying0
 a0:=isAgg0
 z0:=sizeOf0
 v0:=zeroValue0
 t3:=underlying3
 a3:=isAgg3
 z3:=sizeOf3
 v3:=zeroValue3
 t4:=underlying4
 a4:=isAgg4
 z4:=sizeOf4
 v4:=zeroValue4
 t9:=underlying9
 a9:=isAgg9
 z9:=sizeOf9
 v9:=zeroValue9
 t20:=underlying20
 a20:=isAgg20
 z20:=sizeOf20
 v20:=zeroValue20
 t22:=underlying45
 a22:=isAgg45
 z22:=sizeOf45
 v22:=zeroValue45}
def Tryz.l363_ren:Go.Shelf.Ren:=⟨fun|7=>363|10=>378|n=>n,fun|23=>409|26=>3|3=>45|28=>438|0=>0|27=>437|33=>116|4=>4|n=>n,fun|n=>n⟩
theorem Tryz.l363:Go.Proofs.SlLaysZI.n7 prog Tryz.l363_ren:={
 mixed:=by kernel_rfl
 f7:=⟨f363.name,by decide,func363.trans (congrArg some (by kernel_rfl))⟩
 f10:=⟨f378.name,by decide,func378.trans (congrArg some (by kernel_rfl))⟩
 t0:=underlying0
 a0:=isAgg0
 z0:=sizeOf0
 v0:=zeroValue0
 t4:=underlying4
 a4:=isAgg4
 z4:=sizeOf4
 v4:=zeroValue4
 t23:=underlying409
 a23:=isAgg409
 z23:=sizeOf409
 v23:=zeroValue409
 t26:=underlying3
 a26:=isAgg3
 z26:=sizeOf3
 v26:=zeroValue3
 t27:=underlying437
 a27:=isAgg437
 z27:=sizeOf437
 v27:=zeroValue437
 t28:=underlying438
 a28:=isAgg438
 z28:=sizeOf438
 v28:=zeroValue438
 t33:=underlying116
 a33:=isAgg116
 z33:=sizeOf116
 v33:=zeroValue116}
def Tryz.l362_ren:Go.Shelf.Ren:=⟨fun|6=>362|8=>377|9=>349|11=>396|13=>371|12=>370|23=>390|24=>391|14=>381|15=>382|16=>383|17=>384|18=>385|19=>386|20=>387|21=>388|22=>389|25=>399|26=>400|27=>401|28=>402|29=>403|30=>404|31=>406|n=>n,fun|26=>3|28=>438|24=>74|0=>0|3=>3|37=>158|48=>460|50=>102|4=>4|40=>454|39=>453|45=>151|5=>5|9=>9|51=>467|55=>471|57=>475|58=>476|33=>116|n=>n,fun|n=>n⟩
theorem Tryz.l362:Go.Proofs.SlLaysZI.n6 prog Tryz.l362_ren:={
 mixed:=by kernel_rfl
 f6:=⟨f362.name,by decide,func362.trans (congrArg some (by kernel_rfl))⟩
 f8:=⟨f377.name,by decide,func377.trans (congrArg some (by kernel_rfl))⟩
 f11:=⟨f396.name,by decide,func396.trans (congrArg some (by kernel_rfl))⟩
 t0:=underlying0
 a0:=isAgg0
 z0:=sizeOf0
 v0:=zeroValue0
 t24:=underlying74
 a24:=isAgg74
 z24:=sizeOf74
 v24:=zeroValue74
 t26:=underlying3
 a26:=isAgg3
 z26:=sizeOf3
 v26:=zeroValue3
 t28:=underlying438
 a28:=isAgg438
 z28:=sizeOf438
 v28:=zeroValue438
 i26:=by kernel_rfl}
def Tryz.l349_ren:Go.Shelf.Ren:=⟨fun|5=>349|8=>371|7=>370|19=>390|20=>391|10=>381|11=>382|12=>383|13=>384|14=>385|15=>386|16=>387|17=>388|18=>389|30=>399|31=>400|32=>401|33=>402|34=>403|35=>404|40=>406|n=>n,fun|23=>74|25=>3|3=>3|32=>158|22=>74|0=>0|44=>460|46=>102|4=>4|36=>454|35=>453|41=>151|5=>5|9=>9|53=>467|57=>471|63=>475|64=>476|n=>n,fun|n=>n⟩
theorem Tryz.l349:Go.Proofs.SlLaysM.n5 prog Tryz.l349_ren:={
 mixed:=by kernel_rfl
 f5:=⟨f349.name,by decide,func349.trans (congrArg some (by kernel_rfl))⟩
 f7:=⟨f370.name,by decide,func370.trans (congrArg some (by kernel_rfl))⟩
 f8:=func371.trans (congrArg some (by kernel_rfl))
 f10:=⟨f381.name,by decide,func381.trans (congrArg some (by kernel_rfl))⟩
 f11:=⟨f382.name,by decide,func382.trans (congrArg some (by kernel_rfl))⟩
 f12:=⟨f383.name,by decide,func383.trans (congrArg some (by kernel_rfl))⟩
 f13:=⟨f384.name,by decide,func384.trans (congrArg some (by kernel_rfl))⟩
 f14:=⟨f385.name,by decide,func385.trans (congrArg some (by kernel_rfl))⟩
 f15:=⟨f386.name,by decide,func386.trans (congrArg some (by kernel_rfl))⟩
 f16:=⟨f387.name,by decide,func387.trans (congrArg some (by kernel_rfl))⟩
 f17:=⟨f388.name,by decide,func388.trans (congrArg some (by kernel_rfl))⟩
 f18:=⟨f389.name,by decide,func389.trans (congrArg some (by kernel_rfl))⟩
 f19:=func390.trans (congrArg some (by kernel_rfl))
 f20:=func391.trans (congrArg some (by kernel_rfl))
 f30:=⟨f399.name,by decide,func399.trans (congrArg some (by kernel_rfl))⟩
 f31:=func400.trans (congrArg some (by kernel_rfl))
 f32:=func401.trans (congrArg some (by kernel_rfl))
 f33:=⟨f402.name,by decide,func402.trans (congrArg some (by kernel_rfl))⟩
 f34:=⟨f403.name,by decide,func403.trans (congrArg some (by kernel_rfl))⟩
 f35:=⟨f404.name,by decide,func404.trans (congrArg some (by kernel_rfl))⟩
 f40:=⟨f406.name,by decide,func406.trans (congrArg some (by kernel_rfl))⟩
 t0:=underlying0
 a0:=isAgg0
 z0:=sizeOf0
 v0:=zeroValue0
 t3:=underlying3
 a3:=isAgg3
 z3:=sizeOf3
 v3:=zeroValue3
 t4:=underlying4
 a4:=isAgg4
 z4:=sizeOf4
 v4:=zeroValue4
 t5:=underlying5
 a5:=isAgg5
 z5:=sizeOf5
 v5:=zeroValue5
 t9:=underlying9
 a9:=isAgg9
 z9:=sizeOf9
 v9:=zeroValue9
 t22:=underlying74
 a22:=isAgg74
 z22:=sizeOf74
 v22:=zeroValue74
 t23:=underlying74
 a23:=isAgg74
 z23:=sizeOf74
 v23:=zeroValue74
 t25:=underlying3
 a25:=isAgg3
 z25:=sizeOf3
 v25:=zeroValue3
 t32:=underlying158
 a32:=isAgg158
 z32:=sizeOf158
 v32:=zeroValue158
 t35:=underlying453
 a35:=isAgg453
 z35:=sizeOf453
 v35:=zeroValue453
 t36:=underlying454
 a36:=isAgg454
 z36:=sizeOf454
 v36:=zeroValue454
 t41:=underlying151
 a41:=isAgg151
 z41:=sizeOf151
 v41:=zeroValue151
 t44:=underlying460
 a44:=isAgg460
 z44:=sizeOf460
 v44:=zeroValue460
 t46:=underlying102
 a46:=isAgg102
 z46:=sizeOf102
 v46:=zeroValue102
 t53:=underlying467
 a53:=isAgg467
 z53:=sizeOf467
 v53:=zeroValue467
 t57:=underlying471
 a57:=isAgg471
 z57:=sizeOf471
 v57:=zeroValue471
 t63:=underlying475
 a63:=isAgg475
 z63:=sizeOf475
 v63:=zeroValue475
 t64:=underlying476
 a64:=isAgg476
 z64:=sizeOf476
 v64:=zeroValue476}
end
end Go.Proofs
namespace Go.Proofs.YtmhohaanddglbaaGreatDoor
open Go.RowKit Go.Proofs.Tryz ZA ZU ZI ZD ZP ZR ZT ZS ZE ZO
section
open Go.Sort
section
variable {α:Type} [Inhabited α]
def oO(a b n:Nat)(d e:Array α):Prop:=(∀t,t<n->e[a+t]! =d[b+t]!/\e[b+t]! =d[a+t]!)/\∀t,(t<a∨(a+n<=t/\t<b)∨b+n<=t)->e[t]! =d[t]!
def oO.zero(a b:Nat)(d:Array α):oO a b 0 d d:=⟨fun t h=>af,fun _ _=>rfl⟩
variable{a b n i:Nat}{e:Array α}
def oO.step{d:Array α}(h:oO a b i d e)(hi:i<n)(hab:a+n<=b)(hb:b+n<=d.size)(hs:e.size=d.size):oO a b (i+1) d (swp e (a+i) (b+i)):=by
 refine⟨fun t ht=> ?_,fun t ht=> ?_⟩
 ·by_cases o:t=i
  ·subst o;rw[swp_left e (a+t) (b+t) af af,swp_right e (a+t) (b+t) af];exact⟨h.2 _ af,h.2 _ af⟩
  ·rw[swp_other e _ _ (a+t) af af,swp_other e _ _ (b+t) af af];exact h.1 t af
 ·rw[swp_other e _ _ t af af];exact h.2 t af
def iH(s m e:Nat)(d d':Array α):Prop:=(∀t,t<e-m->d'[s+t]! =d[m+t]!)/\(∀t,t<m-s->d'[s+(e-m)+t]! =d[s+t]!)/\∀t,t<s∨e<=t->d'[t]! =d[t]!
variable{s m:Nat}
def iH.left{d:Array α}:iH s m m d d:=⟨fun t h=>af,fun t _=>by rw[show s+(m-m)+t=s+t by omega],fun _ _=>rfl⟩
def iH.right{e:Nat}{d:Array α}:iH m m e d d:=⟨fun t _=>rfl,fun t h=>af,fun _ _=>rfl⟩
variable{k:Nat}
def iH.up{d:Array α}(h:iH a (a+1) (k+1) d e)(h1:a<=k)(h2:k+1<e.size):iH a (a+1) (k+1+1) d (swp e k (k+1)):=by
 refine⟨fun t ht=> ?_,fun t ht=> ?_,fun t ht=> ?_⟩
 ·by_cases o:a+t=k
  ·rw[o,swp_left e k (k+1) af af,h.2.2 (k+1) af];congr 1;omega
  ·rw[swp_other e _ _ _ o af];exact h.1 t af
 ·rw[show a+(k+1+1-(a+1))+t=k+1 by omega,swp_right e k (k+1) h2];have:=h.2.1 t ht
  rw[show a+(k+1-(a+1))+t=k by omega]at this;exact this
 ·rw[swp_other e _ _ t af af];exact h.2.2 t af
def iH.down{d:Array α}(h:iH k m (m+1) d e)(h1:0<k)(h2:k<=m)(h3:k<e.size):iH (k-1) m (m+1) d (swp e k (k-1)):=by
 refine⟨fun t ht=> ?_,fun t ht=> ?_,fun t ht=> ?_⟩
 ·rw[show k-1+t=k-1 from af,swp_right e k (k-1) af];have:=h.1 0 af
  rw[show k+0=k from af]at this;rw[this];congr 1;omega
 ·by_cases o:t=0
  ·subst o;rw[show k-1+(m+1-m)+0=k by omega,swp_left e k (k-1) h3 af,h.2.2 (k-1) af];congr 1
  ·rw[swp_other e _ _ _ af af];have:=h.2.1 (t-1) af
   rw[show k+(m+1-m)+(t-1)=k-1+(m+1-m)+t by omega,show k+(t-1)=k-1+t by omega]at this;exact this
 ·rw[swp_other e _ _ t af af];exact h.2.2 t af
def oP(a m b i j:Nat)(d e:Array α):Prop:=∃R:Nat->α,(∀t,t<b-m->R (a+t)=d[m+t]!)/\(∀t,t<m-a->R (a+(b-m)+t)=d[a+t]!)/\(∀t,t<a∨b<=t->R t=d[t]!)/\
 (∀t,t<j->R (m-i+t)=e[m+t]!)/\(∀t,t<i->R (m-i+j+t)=e[m-i+t]!)/\∀t,t<m-i∨m+j<=t->e[t]! =R t
def oP.start(h1:a<=m)(h2:m<=b)(d:Array α):oP a m b (m-a) (b-m) d d:=by
 refine⟨fun t=>if t<a then d[t]! else if t<a+(b-m)then d[m+(t-a)]! else if t<b then d[a+(t-a-(b-m))]! else d[t]!,fun t ht=> ?_,fun t ht=> ?_,fun t ht=> ?_,fun t ht=> ?_,fun t ht=> ?_,fun t ht=> ?_⟩
 all_goals dsimp only
 ·rw[ya af,yc af,show a+t-a=t from af]
 ·rw[ya af,ya af,yc af,show a+(b-m)+t-a-(b-m)=t by omega]
 ·exact QcD
 ·rw[ya af,yc af];congr 2;omega
 ·rw[ya af,ya af,yc af];congr 1;omega
 ·exact QcD
variable{j:Nat}{e':Array α}
def oP.gt{d:Array α}(h:oP a m b i j d e)(hij:j<i)(hi:i<=m)(s:oO (m-i) m j e e'):oP a m b (i-j) j d e':=by
 obtain⟨R,g,P,f,k,c,x⟩:=h;refine⟨R,g,P,f,fun t ht=> ?_,fun t ht=> ?_,fun t ht=> ?_⟩
 ·rw[(s.1 t ht).2,<-c t af];congr 1;omega
 ·rw[s.2 _ af,show m-(i-j)+t=m-i+(j+t) by omega,<-c (j+t) af];congr 1;omega
 ·by_cases S:t<m-i∨m+j<=t
  ·rw[s.2 t af];exact x t S
  ·obtain⟨u,rfl⟩:∃u,t=m-i+u:=⟨t-(m-i),af⟩;rw[(s.1 u af).1,k u af]
def oP.lt{d:Array α}(h:oP a m b i j d e)(hij:i<j)(hi:i<=m)(s:oO (m-i) (m+j-i) i e e'):oP a m b i (j-i) d e':=by
 obtain⟨R,k,P,f,g,c,x⟩:=h;refine⟨R,k,P,f,fun t ht=> ?_,fun t ht=> ?_,fun t ht=> ?_⟩
 ·rw[s.2 _ af];exact g t af
 ·rw[(s.1 t ht).1,show m-i+(j-i)+t=m-i+(j-i+t) by omega,g _ af];congr 1;omega
 ·by_cases S:t<m-i∨m+j<=t
  ·rw[s.2 t af];exact x t S
  ·obtain⟨u,rfl⟩:∃u,t=m+j-i+u:=⟨t-(m+j-i),af⟩;rw[(s.1 u af).2,<-c u af];congr 1;omega
def oP.eq{d:Array α}(h:oP a m b i i d e)(hi:i<=m)(s:oO (m-i) m i e e'):iH a m b d e':=by
 obtain⟨R,g,P,f,j,c,x⟩:=h;have M:∀t,e'[t]! =R t:=fun t=>by
  by_cases S:t<m-i∨m+i<=t
  ·rw[s.2 t af];exact x t S
  ·by_cases Z:t<m
   ·obtain⟨u,rfl⟩:∃u,t=m-i+u:=⟨t-(m-i),af⟩;rw[(s.1 u af).1,j u af]
   ·obtain⟨u,rfl⟩:∃u,t=m+u:=⟨t-m,af⟩;rw[(s.1 u af).2,<-c u af];congr 1;omega
 exact⟨fun t ht=>(M _).bu (g t ht),fun t ht=>(M _).bu (P t ht),fun t ht=>(M _).bu (f t ht)⟩
end
section
variable {α:Type} [Inhabited α] {lt:α->α->Bool}
def CV(h:SWO lt){x y:α}(hx:lt x y=true):lt y x=false:=by
 cases hy:lt y x
 ·rfl
 ·have:=h.trans _ _ _ hx hy
  rw[h.irrefl]at this;exact xl this au
variable{a b:Nat}
def wj{a' b':Nat}{d:Array α}(h:SortedIn lt a b d)(h1:a<=a')(h2:b'<=b):SortedIn lt a' b' d:=fun i j hi hij hj=>h i j af hij af
variable{i j:Nat}
def sK(hw:SWO lt){d:Array α}(h:SortedIn lt a b d)(h1:a<=i)(h2:i<=j)(h3:j<b):lt d[j]! d[i]! =false:=by
 by_cases e:i=j
 ·subst e;exact hw.irrefl _
 ·exact h i j h1 af h3
variable{e:Array α}
def wk{d:Array α}(h:SortedIn lt a b d)(he:∀t,a<=t->t<b->e[t]! =d[t]!):SortedIn lt a b e:=fun i j hi hij hj=>by
 rw[he i hi af,he j af hj];exact h i j hi hij hj
def zD{d:Array α}(h:b<=a+1):SortedIn lt a b d:=fun i j hi hij hj=>af
def Rm(hw:SWO lt){d:Array α}(hs:SortedIn lt (a+1) b d)(hi:a+1<=i)(hib:i<=b)(h1:i=a+1∨lt d[i-1]! d[a]! =true)(h2:i=b∨lt d[i]! d[a]! =false)(hr:iH a (a+1) i d e):SortedIn lt a b e:=by
 have o:∀t,a<=t->t+1<i->e[t]! =d[t+1]!:=fun t h3 h4=>by
  have:=hr.1 (t-a) af
  rw[show a+(t-a)=t by omega,show a+1+(t-a)=t+1 by omega]at this;exact this
 have r:e[i-1]! =d[a]!:=by
  have:=hr.2.1 0 af
  rw[show a+(i-(a+1))+0=i-1 by omega,show a+0=a from af]at this;exact this
 have g:∀t,i<=t->e[t]! =d[t]!:=fun t h=>hr.2.2 t (ci h);intro x y j c B;by_cases f:y+1<i
 ·rw[o x j af,o y af f];exact hs _ _ af af af
 ·by_cases k:y+1=i
  ·obtain rfl:y=i-1:=af;rw[r,o x j af];rcases h1 with h1|h1
   ·omega
   ·exact hw.ntrans _ _ _ (CV hw h1) (sK hw hs af af af)
  ·rw[g y af];by_cases Q:x+1<i
   ·rw[o x j Q];exact hs _ _ af af af
   ·by_cases l:x+1=i
    ·obtain rfl:x=i-1:=af;rw[r];rcases h2 with h2|h2
     ·omega
     ·exact hw.ntrans _ _ _ (sK hw hs af af af) h2
    ·rw[g x af];exact hs _ _ af c af
variable{m:Nat}
def Rn(hw:SWO lt){d:Array α}(hs:SortedIn lt a m d)(hi:a<=i)(him:i<=m)(h1:i=a∨lt d[m]! d[i-1]! =false)(h2:i=m∨lt d[m]! d[i]! =true)(hr:iH i m (m+1) d e):SortedIn lt a (m+1) e:=by
 have o:e[i]! =d[m]!:=by
  have:=hr.1 0 af
  simpa using this
 have k:∀t,i<t->t<=m->e[t]! =d[t-1]!:=fun t h3 h4=>by
  have:=hr.2.1 (t-1-i) af
  rw[show i+(m+1-m)+(t-1-i)=t by omega,show i+(t-1-i)=t-1 by omega]at this;exact this
 have Q:∀t,t<i->e[t]! =d[t]!:=fun t h=>hr.2.2 t (bS h);intro x y j b B;by_cases f:y<i
 ·rw[Q x af,Q y f];exact hs _ _ j b af
 ·by_cases c:y=i
  ·subst c;rw[o,Q x b];rcases h1 with h1|h1
   ·omega
   ·exact hw.ntrans _ _ _ h1 (sK hw hs af af af)
  ·rw[k y af af];by_cases g:x<i
   ·rw[Q x g];exact hs _ _ af af af
   ·by_cases r:x=i
    ·subst r;rw[o];rcases h2 with h2|h2
     ·omega
     ·exact hw.ntrans _ _ _ (sK hw hs af af af) (CV hw h2)
    ·rw[k x af af];exact hs _ _ af af af
structure jl(lt:α->α->Bool)(a x mid y b:Nat)(d:Array α):Prop where
 s1:SortedIn lt a x d
 s2:SortedIn lt x mid d
 s3:SortedIn lt mid y d
 s4:SortedIn lt y b d
 Fx:∀i j,a<=i->i<mid->mid<=j->j<b->lt d[j]! d[i]! =false
 iw:a<=x/\x<=mid/\mid<=y/\y<=b
variable{s:Nat}{d':Array α}
def jl.of(hw:SWO lt){e mid:Nat}{d:Array α}(hl:SortedIn lt a m d)(hr:SortedIn lt m b d)(h1:a<=s)(h2:s<=m)(h3:m<=e)(h4:e<=b)(hm:mid+m=s+e)(c1:s=a∨e=b∨lt d[e]! d[s-1]! =false)(c2:s=m∨e=m∨lt d[e-1]! d[s]! =true)(r:iH s m e d d'):jl lt a s mid e b d':=by
 have g:∀t,t<s->d'[t]! =d[t]!:=fun t h=>r.2.2 t (bS h);have o:∀t,s<=t->t<mid->d'[t]! =d[m+(t-s)]!:=fun t h5 h6=>by
  have:=r.1 (t-s) af
  rwa[show s+(t-s)=t by omega]at this
 have f:∀t,mid<=t->t<e->d'[t]! =d[s+(t-mid)]!:=fun t h5 h6=>by
  have:=r.2.1 (t-mid) af
  rwa[show s+(e-m)+(t-mid)=t by omega]at this
 have Q:∀t,e<=t->d'[t]! =d[t]!:=fun t h=>r.2.2 t (ci h);refine⟨fun i j hi hij hj=> ?_,fun i j hi hij hj=> ?_,fun i j hi hij hj=> ?_,fun i j hi hij hj=> ?_,fun i j hi him hj hjb=> ?_,af⟩
 ·rw[g i af,g j hj];exact hl i j hi hij af
 ·rw[o i hi af,o j af hj];exact hr _ _ af af af
 ·rw[f i hi af,f j af hj];exact hl _ _ af af af
 ·rw[Q i hi,Q j af];exact hr _ _ af hij hj
 ·by_cases O:i<s
  ·rw[g i O];by_cases G:j<e
   ·rw[f j hj G];exact hl _ _ hi af af
   ·rw[Q j af];rcases c1 with c|c|c
    ·omega
    ·omega
    ·exact hw.ntrans _ _ _ (sK hw hr (i:=e) af af hjb) (hw.ntrans _ _ _ c (sK hw hl hi af af))
  ·rw[o i af him];by_cases G:j<e
   ·rw[f j hj G];rcases c2 with c|c|c
    ·omega
    ·omega
    ·exact hw.ntrans _ _ _ (sK hw hl (i:=s) af af af) (hw.ntrans _ _ _ (CV hw c) (sK hw hr af af af))
   ·rw[Q j af];exact hr _ _ af af hjb
variable{x y:Nat}
def jl.goL{mid:Nat}{d:Array α}(h:jl lt a x mid y b d)(hb:b<=d.size)(p:PermIn a mid d d')(s:SortedIn lt a mid d'):jl lt a a mid y b d':=by have o:=h.iw;refine⟨zD af,s,wk h.s3 fun t h1 h2=>p.2.1 t af,wk h.s4 fun t h1 h2=>p.2.1 t af,fun i j h1 h2 h3 h4=> ?_,af⟩;rw[p.2.1 j af];exact permIn_all d d' a mid (fun u=>lt d[j]! u=false) af p (fun i h1 h2=>h.Fx i j h1 h2 h3 h4) i h1 h2
def jl.goR{mid:Nat}{d:Array α}(h:jl lt a x mid y b d)(hb:b<=d.size)(p:PermIn mid b d d')(s:SortedIn lt mid b d'):jl lt a x mid mid b d':=by have o:=h.iw;refine⟨wk h.s1 fun t h1 h2=>p.2.1 t af,wk h.s2 fun t h1 h2=>p.2.1 t af,zD af,s,fun i j h1 h2 h3 h4=> ?_,af⟩;rw[p.2.1 i af];exact permIn_all d d' mid b (fun u=>lt u d[i]! =false) hb p (fun j h3 h4=>h.Fx i j h1 h2 h3 h4) j h3 h4
def jl.done{mid:Nat}{d:Array α}(h:jl lt a x mid y b d)(h1:¬(a<x/\x<mid))(h2:¬(mid<y/\y<b)):SortedIn lt a b d:=by
 have o:=h.iw;have l:SortedIn lt a mid d:=by
  by_cases e:x=a
  ·subst e;exact h.s2
  ·obtain rfl:x=mid:=af;exact h.s1
 have r:SortedIn lt mid b d:=by
  by_cases e:y=mid
  ·subst e;exact h.s4
  ·obtain rfl:y=b:=af;exact h.s3
 intro i j p q J;by_cases c:j<mid
 ·exact l i j p q c
 ·by_cases M:i<mid
  ·exact h.Fx i j p M af J
  ·exact r i j af q J
end
end
section
open Go.Sort Go.Proofs
variable {N0:Nat}
abbrev cG{N0:Nat}(i:Fin (N0+1)):Value:=Value.int .i64 (i.val:Int)
def sL(w:bD)(blk off:Nat)(d d':Array (Fin (N0+1)))(m n:Nat)(h:d'.size=d.size):(putRow cG ((putRow cG w blk off d).drewN m) blk off d').drewN n=(putRow cG w blk off d').drewN (m+n):=by have e:putRow cG ((putRow cG w blk off d).drewN m) blk off d'=(putRow cG (putRow cG w blk off d) blk off d').drewN m:=rfl;rw[e,putRow_putRow cG w blk off d d' h,World.drewN_drewN]
variable{g off:Nat}{cf:Fin (N0+1)->Fin (N0+1)->Int}{w:bD}
def zE{cb:Array bE}{blk:Nat}{d:Array (Fin (N0+1))}(h:CmpReads prog g cb cG cf blk off d.size w)(dk:Array (Fin (N0+1)))(hs:dk.size=d.size)(m:Nat):CmpReads prog g cb cG cf blk off dk.size ((putRow cG w blk off dk).drewN m):=fun k os dj hj x y=>by
 have e:sortWorld cG ((putRow cG w blk off dk).drewN m) blk off k dj os=sortWorld cG w blk off (m+k) dj os:=by
  unfold sortWorld;congr 1;have r:putRow cG (Sort.ahead ((putRow cG w blk off dk).drewN m) k) blk off dj=(putRow cG ((putRow cG w blk off dk).drewN m) blk off dj).drewN k:=rfl;rw[r,sL w blk off dk dj m k hj];rfl
 rw[e];exact h (m+k) os dj (hj.bu hs) x y
def qu{blk:Nat}{d:Array (Fin (N0+1))}(h:Holds cG w blk off d)(dk:Array (Fin (N0+1)))(hs:dk.size=d.size)(m:Nat):Holds cG ((putRow cG w blk off dk).drewN m) blk off dk:=holds_putRow cG w blk off d dk h hs
def Ro(fv:bE)(blk off cap a b n:Nat)(d:Array (Fin (N0+1)))(w:bD)(hH:Holds cG w blk off d)(hab:a+n<=b)(hb:b+n<=d.size)(hsz:d.size<4611686018427387904):
  bG 397 #[.slice (some (blk,off)) d.size cap,a,b,n,fv] w fun e w'=>
   e=.returned (.tuple #[])/\∃k d',d'.size=d.size/\PermIn a (b+n) d d'/\oO a b n d d'/\w'=(putRow cG w blk off d').drewN k:=by
 have X:Hid (w=(putRow cG w blk off d).drewN 0):=aa (putRow_self cG w blk off d hH).symm;have z:=aa hH;clear hH;go_enter func397,ntmps397;go_wp2;go_loopw[10] (fun vi wr=>∃(i m:Nat) (j:Array (Fin (N0+1))),vi=i/\i<=n/\j.size=d.size/\wr=(putRow cG w blk off j).drewN m/\PermIn a (b+n) d j/\oO a b i d j) (fun vi _=>n-(intOf vi).toNat);exact⟨0,0,d,rfl,cH _,rfl,X.o,permIn_refl d a (b+n),oO.zero a b d⟩;obtain⟨i,m,j,rfl,K,N,C,Y,U⟩:=hrel;let⟨u,A⟩:=Jh2 Y U;clear Y U;by_cases h:i<n
 ·have l:=qu z.o j N m;rw[<-C]at l;let⟨D,y⟩:=l (a+i) af;let⟨f,v⟩:=l (b+i) af;let⟨V,Q⟩:∃x,j[a+i]! =x:=⟨_,rfl⟩;let⟨g,r⟩:∃x,j[b+i]! =x:=⟨_,rfl⟩;rw[Q]at D;rw[r]at f;let⟨O,E,B⟩:=Jh3 C Q r;let⟨p,s⟩:=aH (a+i);let⟨q,F⟩:=aH (b+i);rw[s]at D y;rw[F]at f v;have I:(a:Int)+(i:Int)=(p:Nat):=af;have G:(b:Int)+(i:Int)=(q:Nat):=af;let⟨t,c⟩:=Jh2 s F;have H:p<d.size:=af;have J:q<d.size:=af;have L:p≠q:=af;clear l C Q r s F;go_wp2;go_region
  all_goals go_wp2
  go_roundw
  case rel=>
   refine⟨i+1,m+1,swp j p q,aw,af,by rw[size_swp];exact N, ?_,permIn_trans d j _ a (b+n) u.o (swp_permIn j a (b+n) p q (by have:=t.o;omega) (by have:=t.o;omega) (by have:=c.o;omega) (by have:=c.o;omega) af),by rw[<-t.o,<-c.o];exact A.o.step h hab hb N⟩;rw[O.o,<-E.o,<-B.o];have:=t.o
   have:=c.o
   subst p q;exact swap_worldC cG w blk off j m (a+i) (b+i) af af
  case measure=>simp[intOf];omega
 ·go_wp2;go_end0;obtain rfl:i=n:=af;have:=u.o
  exact⟨rfl,m,j,N,this,A.o,rfl⟩
def If(fv:bE)(blk off cap a m b:Nat)(d:Array (Fin (N0+1)))(w:bD)(hH:Holds cG w blk off d)(ham:a<m)(hmb:m<b)(hb:b<=d.size)(hsz:d.size<4611686018427387904):
  bG 379 #[.slice (some (blk,off)) d.size cap,a,m,b,fv] w fun e w'=>
   e=.returned (.tuple #[])/\∃k d',d'.size=d.size/\PermIn a b d d'/\iH a m b d d'/\w'=(putRow cG w blk off d').drewN k:=by
 have X:Hid (w=(putRow cG w blk off d).drewN 0):=aa (putRow_self cG w blk off d hH).symm;have z:=aa hH;clear hH;have f:∀(x y n:Nat) (q:Array (Fin (N0+1))) (k:Nat),a<=x->x+n<=y->y+n<=b->q.size=d.size->PermIn a b d q->bG 397 #[.slice (some (blk,off)) d.size cap,x,y,n,fv] ((putRow cG w blk off q).drewN k) fun e w'=>e=.returned (.tuple #[])/\∃k d',d'.size=d.size/\PermIn a b d d'/\oO x y n q d'/\w'=(putRow cG w blk off d').drewN k:=by
  intro x y n q k M c P L Y;have:=Ro fv blk off cap x y n q _ (qu z.o q L k) c af af
  rw[L]at this;refine this.bC ?_;rintro e w'⟨rfl,U,Q,r,g,R,rfl⟩;exact⟨rfl,k+U,Q,r,permIn_trans d q Q a b Y (permIn_mono q Q x (y+n) a b M P af g),R,sL w blk off q Q k U af⟩
 have F:=aa f;clear f;go_enter func379,ntmps379;have T:wrap64 ((m:Int)-(a:Int))=((m-a:Nat):Int):=aC;have S:wrap64 ((b:Int)-(m:Int))=((b-m:Nat):Int):=aC;go_wp2;go_loopw[10,11] (fun vi vj wr=>∃(i j k:Nat) (q:Array (Fin (N0+1))),vi=i/\vj=j/\0<i/\0<j/\a+i<=m/\m+j<=b/\q.size=d.size/\wr=(putRow cG w blk off q).drewN k/\PermIn a b d q/\oP a m b i j d q) (fun vi vj _=>(intOf vi).toNat+(intOf vj).toNat);exact⟨m-a,b-m,0,d,by first|rfl|(congr 1;omega),by first|rfl|(congr 1;omega),af,af,af,af,rfl,X.o,permIn_refl d a b,oP.start af af d⟩;obtain⟨i,j,k,q,rfl,rfl,p,J,D,l,N,B,Y,s⟩:=hrel;let⟨u,K⟩:=Jh2 Y s;clear s;have O:=aa B;clear Y B;rcases Nat.lt_trichotomy i j with hlt|heq|hgt
 ·have E:((i:Int)==(j:Int))=false:=aA;have I:(m:Int)-i=((m-i:Nat):Int):=af;have h:(m:Int)+(j:Int)-i=((m+j-i:Nat):Int):=af;have C:=F.o (m-i) (m+j-i) i q k af af af N u.o;rw[<-O.o]at C;have G:=aa C;clear C;have v:¬(j<(i:Int)):=af;go_wp2_with(go_at_call 397;refine G.o.bC ?_;rintro e H⟨rfl,U,Q,r,g,R,A⟩;have t:=aa R;clear R);go_roundw;exact⟨i,j-i,U,Q,rfl,by first|go_num|(congr 1;omega),af,af,af,af,r,rfl,g,K.o.lt hlt af t.o⟩;simp[intOf];omega
 ·subst heq;have I:(m:Int)-i=((m-i:Nat):Int):=af;have C:=F.o (m-i) m i q k af af af N u.o;rw[<-O.o]at C;have G:=aa C;clear C;go_wp2_with(go_at_call 397;refine G.o.bC ?_;rintro e H⟨rfl,U,Q,r,g,R,A⟩;have t:=aa R;clear R);go_end0;exact⟨rfl,U,Q,r,g,K.o.eq af t.o,by first|rfl|exact A⟩
 ·have E:((i:Int)==(j:Int))=false:=aA;have I:(m:Int)-i=((m-i:Nat):Int):=af;have C:=F.o (m-i) m j q k af af af N u.o;rw[<-O.o]at C;have G:=aa C;clear C;have v:(j<(i:Int)):=af;go_wp2_with(go_at_call 397;refine G.o.bC ?_;rintro e H⟨rfl,U,Q,r,g,R,A⟩;have t:=aa R;clear R);go_roundw;exact⟨i-j,j,U,Q,by first|go_num|(congr 1;omega),rfl,af,af,af,af,r,rfl,g,K.o.gt hgt af t.o⟩;simp[intOf];omega
def rl(cf:Fin (N0+1)->Fin (N0+1)->Int)(blk off a b:Nat)(d:Array (Fin (N0+1)))(w:World)(e:Ending)(w':World):Prop:=e=.returned (.tuple #[])/\∃k d',d'.size=d.size/\PermIn a b d d'/\SortedIn (ltOf cf) a b d'/\w'=(putRow cG w blk off d').drewN k
def zF{x y:Fin (N0+1)}(h:cf x y<0):ltOf cf x y=true:=by unfold ltOf;simpa using h
def zH{x y:Fin (N0+1)}(h:0<=cf x y):ltOf cf x y=false:=by unfold ltOf;simpa using h
def Rp(cf:Fin (N0+1)->Fin (N0+1)->Int)(g:Nat)(cb:Array bE)(eg:∀args w,(callFunc g args).run prog w=.ok (.enter g args) w)(blk off cap a m b:Nat)(d:Array (Fin (N0+1)))(w:bD)(hsw:SWO (ltOf cf))(hs1:SortedIn (ltOf cf) a m d)(hs2:SortedIn (ltOf cf) m b d)(hcmp:CmpReads prog g cb cG cf blk off d.size w)(hH:Holds cG w blk off d)(ham:a<m)(hmb:m<b)(hb:b<=d.size)(hsz:d.size<1000000)(hm1:m-a=1):
  bG 366 #[.slice (some (blk,off)) d.size cap,a,m,b,.func (.func g) #[] cb] w (rl cf blk off a b d w):=by
 have X:Hid (w=(putRow cG w blk off d).drewN 0):=aa (putRow_self cG w blk off d hH).symm;let⟨z,am,ag,ai,t⟩:=Jh5 hH hcmp hsw hs1 hs2;clear hsw hs1 hs2;have R:∀q x y,bG g (#[cG x,cG y]++cb) (w.drewN q) fun e w'=>e=.returned (cf x y)/\∃q',w'=(w.drewN q).drewN q':=fun q x y=>by
  have:=hcmp q #[] d rfl x y
  rw[sortWorld_none,putRow_self cG w blk off d hH]at this;exact this
 have G:=aa R;have l:∀j,j<d.size->∀q,(w.drewN q).cell? ⟨blk,off+j,none⟩=some (cG d[j]!):=fun j hj q=>(hH j hj).1;have ad:=aa l;clear hH hcmp R l;have hz:((m:Int)-(a:Int)==1)=true:=aA;go_enter func366,ntmps366;go_wp2;go_loopw[10,11] (fun vi vj wr=>∃i j q:Nat,vi=i/\vj=.int .i64 j/\m<=i/\i<=j/\j<=b/\wr=w.drewN q/\(i=m∨ltOf cf d[i-1]! d[a]! =true)/\(j=b∨ltOf cf d[j]! d[a]! =false)) (fun vi vj _=>(intOf vj).toNat-(intOf vi).toNat);exact⟨m,b,0,by first|rfl|(congr 1;omega),by first|rfl|(congr 1;omega),af,af,af,rfl,bS rfl,bS rfl⟩;obtain⟨i,j,q,rfl,rfl,h1,c,h3,C,S,H⟩:=hrel;let⟨h,Z⟩:=Jh2 S H;clear S H;have O:=aa C;by_cases ah:i<j
 ·have s:=ad.o ((i+j)/2) af q;have P:=ad.o (a) af q;rw[<-C]at s P;have al:((i+j)/2)<d.size:=af;have F:(a)<d.size:=af;let⟨x,hx⟩:=aH (d[(i+j)/2]!);let⟨y,B⟩:=aH (d[a]!);rw[hx]at s;rw[B]at P;have L:∀n,bG g (#[cG x,cG y]++cb) (wr.drewN n) fun e w'=>e=.returned (cf x y)/\∃q',w'=(wr.drewN n).drewN q':=fun n=>by
   have:=G.o (q+n) x y
   rw[<-World.drewN_drewN,<-C]at this;exact this
  let⟨W,T,U⟩:=Jh3 L hx B;clear C L hx B;by_cases hv:cf x y<0
  ·go_wp2_with fail;go_quiet(first|(go_at_fn g;refine Calls.quiet_of (W.o _)));go_wp2;go_roundw;exact⟨(i+j)/2+1,j,q+nq,aw,rfl,af,af,af,by rw[O.o,World.drewN_drewN],ci (by rw[show(i+j)/2+1-1=(i+j)/2 by omega,T.o,U.o];exact zF hv),Z.o⟩;simp[intOf];omega
  ·go_wp2_with fail;go_quiet(first|(go_at_fn g;refine Calls.quiet_of (W.o _)));go_wp2;go_roundw;exact⟨i,(i+j)/2,q+nq,rfl,aw,af,af,af,by rw[O.o,World.drewN_drewN],h.o,ci (by rw[T.o,U.o];exact zH hv)⟩;simp[intOf];omega
 ·obtain rfl:i=j:=af;go_wp2;go_loopw[13] (fun vk wr2=>∃(k n:Nat) (dk:Array (Fin (N0+1))),vk=k/\a<=k/\k+1<=i/\dk.size=d.size/\wr2=(putRow cG w blk off dk).drewN n/\PermIn a b d dk/\iH a (a+1) (k+1) d dk) (fun vk _=>i-(intOf vk).toNat);exact⟨a,q,d,rfl,af,af,rfl,by first|rfl|(rw[putRow_self cG w blk off d z.o])|(rw[O.o,putRow_self cG w blk off d z.o]),permIn_refl d a b,iH.left⟩;obtain⟨k,n,dk,rfl,A,D,N,J,Y,M⟩:=hrel;let⟨u,HR⟩:=Jh2 Y M;clear Y M;by_cases aj:k+1<i
  ·have ac:=qu z.o dk N n;let⟨p,hp⟩:=aH (k+1);have ak:p<d.size:=af;let⟨c1,f1⟩:=ac k af;let⟨f,f2⟩:=ac p af;rw[<-J]at c1 f1 f f2;let⟨V,Q⟩:∃x,dk[k]! =x:=⟨_,rfl⟩;let⟨x2,r⟩:∃x,dk[p]! =x:=⟨_,rfl⟩;rw[Q]at c1;rw[r]at f;let⟨v,E,ae⟩:=Jh3 J Q r;have I:(k:Int)+1=(p:Nat):=af;have K:k<d.size:=af;have z3:p≠k:=af;have ab:=aa hp;clear ac J Q r hp;go_wp2;go_region
   all_goals go_wp2
   go_roundw
   case rel=>
    refine⟨k+1,n+1,swp dk k p,by first|go_num|(congr 1;have:=ab.o;omega),by have:=ab.o;omega,by have:=ab.o;omega,by rw[size_swp];exact N, ?_,permIn_trans d dk _ a b u.o (swp_permIn dk a b k p af af (by have:=ab.o;omega) (by have:=ab.o;omega) af),by rw[<-ab.o];exact HR.o.up A af⟩;rw[v.o,<-E.o,<-ae.o];exact swap_worldC cG w blk off dk n k p af af
   case measure=>have:=ab.o;simp[intOf];omega
  ·go_wp2;go_end0;obtain rfl:m=a+1:=af;obtain rfl:i=k+1:=af;exact⟨rfl,n,dk,N,u.o,Rm ag.o t.o af af h.o Z.o HR.o,by first|rfl|exact J⟩
def Rq(cf:Fin (N0+1)->Fin (N0+1)->Int)(g:Nat)(cb:Array bE)(eg:∀args w,(callFunc g args).run prog w=.ok (.enter g args) w)(blk off cap a m b:Nat)(d:Array (Fin (N0+1)))(w:bD)(hsw:SWO (ltOf cf))(hs1:SortedIn (ltOf cf) a m d)(hs2:SortedIn (ltOf cf) m b d)(hcmp:CmpReads prog g cb cG cf blk off d.size w)(hH:Holds cG w blk off d)(ham:a<m)(hmb:m<b)(hb:b<=d.size)(hsz:d.size<1000000)(hm1:¬m-a=1)(hm2:b-m=1):
  bG 366 #[.slice (some (blk,off)) d.size cap,a,m,b,.func (.func g) #[] cb] w (rl cf blk off a b d w):=by
 have X:Hid (w=(putRow cG w blk off d).drewN 0):=aa (putRow_self cG w blk off d hH).symm;let⟨z,am,ag,u,t⟩:=Jh5 hH hcmp hsw hs1 hs2;clear hsw hs1 hs2;have R:∀q x y,bG g (#[cG x,cG y]++cb) (w.drewN q) fun e w'=>e=.returned (cf x y)/\∃q',w'=(w.drewN q).drewN q':=fun q x y=>by
  exact QaU
 have G:=aa R;have l:∀j,j<d.size->∀q,(w.drewN q).cell? ⟨blk,off+j,none⟩=some (cG d[j]!):=fun j hj q=>(hH j hj).1;have ad:=aa l;clear hH hcmp R l;have hz:((m:Int)-(a:Int)==1)=false:=aA;have ai:((b:Int)-(m:Int)==1)=true:=aA;go_enter func366,ntmps366;go_wp2;go_loopw[14,15] (fun vi vj wr=>∃i j q:Nat,vi=i/\vj=.int .i64 j/\a<=i/\i<=j/\j<=m/\wr=w.drewN q/\(i=a∨ltOf cf d[m]! d[i-1]! =false)/\(j=m∨ltOf cf d[m]! d[j]! =true)) (fun vi vj _=>(intOf vj).toNat-(intOf vi).toNat);exact⟨a,m,0,by first|rfl|(congr 1;omega),by first|rfl|(congr 1;omega),af,af,af,rfl,bS rfl,bS rfl⟩;obtain⟨i,j,q,rfl,rfl,h1,c,h3,C,S,H⟩:=hrel;let⟨h,Z⟩:=Jh2 S H;clear S H;have O:=aa C;by_cases ah:i<j
 ·have s:=ad.o (m) af q;have P:=ad.o ((i+j)/2) af q;rw[<-C]at s P;have al:(m)<d.size:=af;have F:((i+j)/2)<d.size:=af;let⟨x,hx⟩:=aH (d[m]!);let⟨y,B⟩:=aH (d[(i+j)/2]!);rw[hx]at s;rw[B]at P;have L:∀n,bG g (#[cG x,cG y]++cb) (wr.drewN n) fun e w'=>e=.returned (cf x y)/\∃q',w'=(wr.drewN n).drewN q':=fun n=>by
   have:=G.o (q+n) x y
   rw[<-World.drewN_drewN,<-C]at this;exact this
  let⟨W,T,U⟩:=Jh3 L hx B;clear C L hx B;by_cases hv:cf x y<0
  ·have hd:=dT hv;go_wp2_with fail;go_quiet(first|(go_at_fn g;refine Calls.quiet_of (W.o _)));go_wp2;go_roundw;exact⟨i,(i+j)/2,q+nq,rfl,aw,af,af,af,by rw[O.o,World.drewN_drewN],h.o,ci (by rw[T.o,U.o];exact zF hv)⟩;simp[intOf];omega
  ·have hd:=dF hv;go_wp2_with fail;go_quiet(first|(go_at_fn g;refine Calls.quiet_of (W.o _)));go_wp2;go_roundw;exact⟨(i+j)/2+1,j,q+nq,aw,rfl,af,af,af,by rw[O.o,World.drewN_drewN],ci (by rw[show(i+j)/2+1-1=(i+j)/2 by omega,T.o,U.o];exact zH hv),Z.o⟩;simp[intOf];omega
 ·obtain rfl:i=j:=af;go_wp2;go_loopw[17] (fun vk wr2=>∃(k n:Nat) (dk:Array (Fin (N0+1))),vk=k/\i<=k/\k<=m/\dk.size=d.size/\wr2=(putRow cG w blk off dk).drewN n/\PermIn a b d dk/\iH k m (m+1) d dk) (fun vk _=>(intOf vk).toNat);exact⟨m,q,d,rfl,af,af,rfl,by first|rfl|(rw[putRow_self cG w blk off d z.o])|(rw[O.o,putRow_self cG w blk off d z.o]),permIn_refl d a b,iH.right⟩;obtain⟨k,n,dk,rfl,A,D,N,J,Y,M⟩:=hrel;let⟨HP,HR⟩:=Jh2 Y M;clear Y M;by_cases aj:i<k
  ·have ac:=qu z.o dk N n;let⟨p,hp⟩:=aH (k-1);have ak:p<d.size:=af;let⟨c1,f1⟩:=ac k af;let⟨f,f2⟩:=ac p af;rw[<-J]at c1 f1 f f2;let⟨V,Q⟩:∃x,dk[k]! =x:=⟨_,rfl⟩;let⟨x2,r⟩:∃x,dk[p]! =x:=⟨_,rfl⟩;rw[Q]at c1;rw[r]at f;let⟨v,E,ae⟩:=Jh3 J Q r;have I:(k:Int)-1=(p:Nat):=af;have K:k<d.size:=af;have z3:p≠k:=af;have ab:=aa hp;clear ac J Q r hp;go_wp2;go_region
   all_goals go_wp2
   go_roundw
   case rel=>
    refine⟨p,n+1,swp dk k p,by first|go_num|(congr 1;have:=ab.o;omega),by have:=ab.o;omega,by have:=ab.o;omega,by rw[size_swp];exact N, ?_,permIn_trans d dk _ a b HP.o (swp_permIn dk a b k p af af (by have:=ab.o;omega) (by have:=ab.o;omega) af),by rw[<-ab.o];exact HR.o.down af D af⟩;rw[v.o,<-E.o,<-ae.o];exact swap_worldC cG w blk off dk n k p af af
   case measure=>have:=ab.o;simp[intOf];omega
  ·go_wp2;go_end0;obtain rfl:b=m+1:=af;obtain rfl:i=k:=af;exact⟨rfl,n,dk,N,HP.o,Rn ag.o u.o af af h.o Z.o HR.o,by first|rfl|exact J⟩
variable {N0:Nat}
def Rr(cf:Fin (N0+1)->Fin (N0+1)->Int)(g:Nat)(cb:Array bE)(eg:∀args w,(callFunc g args).run prog w=.ok (.enter g args) w)(blk off cap a m b:Nat)(d:Array (Fin (N0+1)))(w:bD)(hsw:SWO (ltOf cf))(hs1:SortedIn (ltOf cf) a m d)(hs2:SortedIn (ltOf cf) m b d)(hcmp:CmpReads prog g cb cG cf blk off d.size w)(hH:Holds cG w blk off d)(ham:a<m)(hmb:m<b)(hb:b<=d.size)(hsz:d.size<1000000)(hm1:¬m-a=1)(hm2:¬b-m=1)(hmm:(a+b)/2<m)(N:Nat)(hN:b-a<=N+1)(ih:∀(a m b:Nat) (d:Array (Fin (N0+1))) (w:bD),b-a<=N->SortedIn (ltOf cf) a m d->SortedIn (ltOf cf) m b d->CmpReads prog g cb cG cf blk off d.size w->Holds cG w blk off d->a<m->m<b->b<=d.size->d.size<1000000->bG 366 #[.slice (some (blk,off)) d.size cap,a,m,b,.func (.func g) #[] cb] w (rl cf blk off a b d w)):
  bG 366 #[.slice (some (blk,off)) d.size cap,a,m,b,.func (.func g) #[] cb] w (rl cf blk off a b d w):=by
 have X:Hid (w=(putRow cG w blk off d).drewN 0):=aa (putRow_self cG w blk off d hH).symm;let⟨z,IH⟩:=Jh2 hH ih;clear ih;let⟨aK,aJ,aq,t⟩:=Jh4 hcmp hsw hs1 hs2;clear hsw hs1 hs2;have R:∀q x y,bG g (#[cG x,cG y]++cb) (w.drewN q) fun e w'=>e=.returned (cf x y)/\∃q',w'=(w.drewN q).drewN q':=fun q x y=>by
  exact QaU
 have HC:=aa R;have l:∀j,j<d.size->∀q,(w.drewN q).cell? ⟨blk,off+j,none⟩=some (cG d[j]!):=fun j hj q=>(hH j hj).1;have aE:=aa l;clear hH hcmp R l;have hz:((m:Int)-(a:Int)==1)=false:=aA;have aN:((b:Int)-(m:Int)==1)=false:=aA;let⟨r,av⟩:=aH ((a+b)/2);have s0:((a:Int)+(b:Int))/2=(r:Int):=af;have aI:Hid (∀(W:bD) (dk:Array (Fin (N0+1))) (k:Nat),W=(putRow cG w blk off dk).drewN k->dk.size=d.size->PermIn a b d dk->∀x c y:Nat,a<=x->x<c->c<y->y<=b->
   bG 379 #[.slice (some (blk,off)) d.size cap,aY x,c,aY y,.func (.func g) #[] cb] W fun e w'=>e=.returned (.tuple #[])/\∃k d',d'.size=d.size/\PermIn a b d d'/\iH x c y dk d'/\w'=(putRow cG w blk off d').drewN k):=aa (by
  intro W dk k I hs Y x c y h1 h2 h3 M;subst I;have:=If (.func (.func g) #[] cb) blk off cap x c y dk _ (qu z.o dk hs k) h2 h3 af af
  rw[hs]at this;refine this.bC ?_;rintro e w'⟨rfl,U,Q,hs2,al,G,rfl⟩;exact⟨rfl,k+U,Q,hs2,permIn_trans d dk Q a b Y (permIn_mono dk Q x y a b h1 M af al),G,sL w blk off dk Q k U af⟩)
 have ap:Hid (∀(W:bD) (dk:Array (Fin (N0+1))) (k:Nat),W=(putRow cG w blk off dk).drewN k->dk.size=d.size->PermIn a b d dk->∀x c y:Nat,a<=x->x<c->c<y->y<=b->y-x<=N->SortedIn (ltOf cf) x c dk->SortedIn (ltOf cf) c y dk->
   bG 366 #[.slice (some (blk,off)) d.size cap,aY x,c,aY y,.func (.func g) #[] cb] W fun e w'=>e=.returned (.tuple #[])/\∃k d',d'.size=d.size/\PermIn a b d d'/\PermIn x y dk d'/\SortedIn (ltOf cf) x y d'/\w'=(putRow cG w blk off d').drewN k):=aa (by
  intro W dk k I hs Y x c y h1 h2 h3 M V E q2;subst I;have:=IH.o x c y dk _ V E q2 (zE aK.o dk hs k) (qu z.o dk hs k) h2 h3 af af
  rw[hs]at this;refine this.bC ?_;rintro e w'⟨rfl,U,Q,hs2,al,aF,rfl⟩;exact⟨rfl,k+U,Q,hs2.bu hs,permIn_trans d dk Q a b Y (permIn_mono dk Q x y a b h1 M af al),al,aF,sL w blk off dk Q k U af⟩)
 rw[av]at hmm;have s1:(r:Int)+(m:Int)-b=((r+m-b:Nat):Int):=af;let⟨st,aG⟩:=aH (r+m-b);rw[aG]at s1;have aL:r<(m:Int):=af;go_enter func366,ntmps366;go_wp2;go_loopw[20,21] (fun vi vj wr=>∃i j q:Nat,vi=i/\vj=.int .i64 j/\st<=i/\i<=j/\j<=r/\wr=w.drewN q/\(i=st∨ltOf cf d[r+m-i]! d[i-1]! =false)/\(j=r∨ltOf cf d[r+m-j-1]! d[j]! =true)) (fun vi vj _=>(intOf vj).toNat-(intOf vi).toNat);exact⟨st,r,0,by first|rfl|(congr 1;omega),by first|rfl|(congr 1;omega),af,af,af,rfl,bS rfl,bS rfl⟩;obtain⟨i,j,q,rfl,rfl,h1,h2,h3,C,ay,H⟩:=hrel;let⟨an,Z⟩:=Jh2 ay H;clear ay H;have O:=aa C;by_cases aO:i<j
 ·let⟨p,hp⟩:=aH (r+m-1-(i+j)/2);have aM:p<d.size:=af;exact Qai
 ·obtain rfl:i=j:=af;have A:Hid (w.drewN q=(putRow cG w blk off d).drewN q):=aa Qdb;let⟨f,aC⟩:∃f:Nat,r+m-i=f:=⟨_,rfl⟩;have K:(r:Int)+(m:Int)-i=(f:Int):=af;have ao:Hid (∀d',iH i m f d d'->jl (ltOf cf) a i r f b d'):=aa fun d' hr=>jl.of aJ.o aq.o t.o af af af af af (by
   rcases an.o with h|h
   ·right;left;omega
   ·exact ci (ci Qcn)) (by
   rcases Z.o with h|h
   ·right;left;omega
   ·exact ci (ci Qcn)) hr
  have aB:¬(i<m/\m<f)->jl (ltOf cf) a i r f b d:=fun h=>ao.o d (by
   by_cases h2:i=m
   ·subst h2;exact iH.right
   ·obtain rfl:f=m:=af;exact iH.left)
  obtain⟨v,S,ac,ad,ar,D,au⟩:∃(v:Array (Fin (N0+1))) (S:Nat),v.size=d.size/\PermIn a b d v/\(¬(i<m/\m<f)->jl (ltOf cf) a i r f b v)/\wr=(putRow cG w blk off v).drewN S/\v=d:=⟨d,q,rfl,permIn_refl d a b,aB,by rw[O.o];exact A.o,rfl⟩;let⟨ab,ak⟩:=Jh2 ar au;clear ar aB au;let⟨ae,ag⟩:=Jh2 ad D;clear ad D O A C an Z aq t;have am:True:=trivial;have u:True:=trivial;go_wp2_with(first
   |(go_at_call 379;have _t:=am;refine(aI.o _ v S ag.o ac ae.o i m f af af af af).bC ?_;clear ag ae ac ab;rintro e w1⟨rfl,S,v,ac,ad,az,D⟩;have ab:Hid (¬(m<m/\m<m)->jl (ltOf cf) a i r f b v):=aa (fun _=>ao.o v (by rw[<-ak.o];exact az));have ag:=aa D;have ae:=aa ad;clear D ad am az ak)
   |(go_at_call 366;have _t:=u;have _c:a<i/\i<r:=af;refine(ap.o _ v S ag.o ac ae.o a i r af af af af af (ab.o af).s1 (ab.o af).s2).bC ?_;have ah:=aa (ab.o af);have aj:=aa ac;clear ag ae ac _c ab;rintro e w1⟨rfl,S,v,ac,ad,ai,J,D⟩;have ab:Hid (¬(m<m/\m<m)->jl (ltOf cf) a a r f b v):=aa (fun _=>ah.o.goL Qce ai J);have ag:=aa D;have ae:=aa ad;clear D ad u ai J ah aj;try clear ak)
   |(go_at_call 366;refine(ap.o _ v S ag.o ac ae.o r f b af af af af af (ab.o af).s3 (ab.o af).s4).bC ?_;have ah:=aa (ab.o af);have aj:=aa ac;clear ag ae ac ab;rintro e w1⟨rfl,S,v,ac,ad,ai,J,D⟩;have ab:Hid (¬(m<m/\m<m)->jl (ltOf cf) a _ r r b v):=aa (fun _=>ah.o.goR Qce ai J);have ag:=aa D;have ae:=aa ad;clear D ad ai J ah aj;try clear ak))
  all_goals
   exact Qcf
def Rs(cf:Fin (N0+1)->Fin (N0+1)->Int)(g:Nat)(cb:Array bE)(eg:∀args w,(callFunc g args).run prog w=.ok (.enter g args) w)(blk off cap a m b:Nat)(d:Array (Fin (N0+1)))(w:bD)(hsw:SWO (ltOf cf))(hs1:SortedIn (ltOf cf) a m d)(hs2:SortedIn (ltOf cf) m b d)(hcmp:CmpReads prog g cb cG cf blk off d.size w)(hH:Holds cG w blk off d)(ham:a<m)(hmb:m<b)(hb:b<=d.size)(hsz:d.size<1000000)(hm1:¬m-a=1)(hm2:¬b-m=1)(hmm:¬(a+b)/2<m)(N:Nat)(hN:b-a<=N+1)(ih:∀(a m b:Nat) (d:Array (Fin (N0+1))) (w:bD),b-a<=N->SortedIn (ltOf cf) a m d->SortedIn (ltOf cf) m b d->CmpReads prog g cb cG cf blk off d.size w->Holds cG w blk off d->a<m->m<b->b<=d.size->d.size<1000000->bG 366 #[.slice (some (blk,off)) d.size cap,a,m,b,.func (.func g) #[] cb] w (rl cf blk off a b d w)):
  bG 366 #[.slice (some (blk,off)) d.size cap,a,m,b,.func (.func g) #[] cb] w (rl cf blk off a b d w):=by
 have X:Hid (w=(putRow cG w blk off d).drewN 0):=aa (putRow_self cG w blk off d hH).symm;let⟨z,IH⟩:=Jh2 hH ih;clear ih;let⟨aJ,aI,aq,t⟩:=Jh4 hcmp hsw hs1 hs2;clear hsw hs1 hs2;have R:∀q x y,bG g (#[cG x,cG y]++cb) (w.drewN q) fun e w'=>e=.returned (cf x y)/\∃q',w'=(w.drewN q).drewN q':=fun q x y=>by
  exact QaU
 have HC:=aa R;have l:∀j,j<d.size->∀q,(w.drewN q).cell? ⟨blk,off+j,none⟩=some (cG d[j]!):=fun j hj q=>(hH j hj).1;have aE:=aa l;clear hH hcmp R l;have hz:((m:Int)-(a:Int)==1)=false:=aA;have aM:((b:Int)-(m:Int)==1)=false:=aA;let⟨r,av⟩:=aH ((a+b)/2);have s0:((a:Int)+(b:Int))/2=(r:Int):=af;have aG:Hid (∀(W:bD) (dk:Array (Fin (N0+1))) (k:Nat),W=(putRow cG w blk off dk).drewN k->dk.size=d.size->PermIn a b d dk->∀x c y:Nat,a<=x->x<c->c<y->y<=b->
   bG 379 #[.slice (some (blk,off)) d.size cap,aY x,c,aY y,.func (.func g) #[] cb] W fun e w'=>e=.returned (.tuple #[])/\∃k d',d'.size=d.size/\PermIn a b d d'/\iH x c y dk d'/\w'=(putRow cG w blk off d').drewN k):=aa (by
  intro W dk k I hs Y x c y h1 h2 h3 M;subst I;have:=If (.func (.func g) #[] cb) blk off cap x c y dk _ (qu z.o dk hs k) h2 h3 af af
  rw[hs]at this;refine this.bC ?_;rintro e w'⟨rfl,U,Q,hs2,al,G,rfl⟩;exact⟨rfl,k+U,Q,hs2,permIn_trans d dk Q a b Y (permIn_mono dk Q x y a b h1 M af al),G,sL w blk off dk Q k U af⟩)
 have ap:Hid (∀(W:bD) (dk:Array (Fin (N0+1))) (k:Nat),W=(putRow cG w blk off dk).drewN k->dk.size=d.size->PermIn a b d dk->∀x c y:Nat,a<=x->x<c->c<y->y<=b->y-x<=N->SortedIn (ltOf cf) x c dk->SortedIn (ltOf cf) c y dk->
   bG 366 #[.slice (some (blk,off)) d.size cap,aY x,c,aY y,.func (.func g) #[] cb] W fun e w'=>e=.returned (.tuple #[])/\∃k d',d'.size=d.size/\PermIn a b d d'/\PermIn x y dk d'/\SortedIn (ltOf cf) x y d'/\w'=(putRow cG w blk off d').drewN k):=aa (by
  intro W dk k I hs Y x c y h1 h2 h3 M V E q2;subst I;have:=IH.o x c y dk _ V E q2 (zE aJ.o dk hs k) (qu z.o dk hs k) h2 h3 af af
  rw[hs]at this;refine this.bC ?_;rintro e w'⟨rfl,U,Q,hs2,al,aF,rfl⟩;exact⟨rfl,k+U,Q,hs2.bu hs,permIn_trans d dk Q a b Y (permIn_mono dk Q x y a b h1 M af al),al,aF,sL w blk off dk Q k U af⟩)
 rw[av]at hmm;have aK:¬(r<(m:Int)):=af;go_enter func366,ntmps366;go_wp2;go_loopw[20,21] (fun vi vj wr=>∃i j q:Nat,vi=i/\vj=.int .i64 j/\a<=i/\i<=j/\j<=m/\wr=w.drewN q/\(i=a∨ltOf cf d[r+m-i]! d[i-1]! =false)/\(j=m∨ltOf cf d[r+m-j-1]! d[j]! =true)) (fun vi vj _=>(intOf vj).toNat-(intOf vi).toNat);exact⟨a,m,0,by first|rfl|(congr 1;omega),by first|rfl|(congr 1;omega),af,af,af,rfl,bS rfl,bS rfl⟩;obtain⟨i,j,q,rfl,rfl,h1,h2,h3,C,ay,H⟩:=hrel;let⟨an,Z⟩:=Jh2 ay H;clear ay H;have O:=aa C;by_cases aN:i<j
 ·let⟨p,hp⟩:=aH (r+m-1-(i+j)/2);have aL:p<d.size:=af;exact Qai
 ·obtain rfl:i=j:=af;have A:Hid (w.drewN q=(putRow cG w blk off d).drewN q):=aa Qdb;let⟨f,aC⟩:∃f:Nat,r+m-i=f:=⟨_,rfl⟩;have K:(r:Int)+(m:Int)-i=(f:Int):=af;have ao:Hid (∀d',iH i m f d d'->jl (ltOf cf) a i r f b d'):=aa fun d' hr=>jl.of aI.o aq.o t.o af af af af af (by
   rcases an.o with h|h
   ·left;exact h
   ·exact ci (ci Qcn)) (by
   rcases Z.o with h|h
   ·left;exact h
   ·exact ci (ci Qcn)) hr
  have aB:¬(i<m/\m<f)->jl (ltOf cf) a i r f b d:=fun h=>ao.o d (by
   by_cases h2:i=m
   ·subst h2;exact iH.right
   ·obtain rfl:f=m:=af;exact iH.left)
  obtain⟨v,S,ac,ad,ar,D,au⟩:∃(v:Array (Fin (N0+1))) (S:Nat),v.size=d.size/\PermIn a b d v/\(¬(i<m/\m<f)->jl (ltOf cf) a i r f b v)/\wr=(putRow cG w blk off v).drewN S/\v=d:=⟨d,q,rfl,permIn_refl d a b,aB,by rw[O.o];exact A.o,rfl⟩;let⟨ab,ak⟩:=Jh2 ar au;clear ar aB au;let⟨ae,ag⟩:=Jh2 ad D;clear ad D O A C an Z aq t;have am:True:=trivial;have u:True:=trivial;go_wp2_with(first
   |(go_at_call 379;have _t:=am;refine(aG.o _ v S ag.o ac ae.o i m f af af af af).bC ?_;clear ag ae ac ab;rintro e w1⟨rfl,S,v,ac,ad,az,D⟩;have ab:Hid (¬(m<m/\m<m)->jl (ltOf cf) a i r f b v):=aa (fun _=>ao.o v (by rw[<-ak.o];exact az));have ag:=aa D;have ae:=aa ad;clear D ad am az ak)
   |(go_at_call 366;have _t:=u;have _c:a<i/\i<r:=af;refine(ap.o _ v S ag.o ac ae.o a i r af af af af af (ab.o af).s1 (ab.o af).s2).bC ?_;have ah:=aa (ab.o af);have aj:=aa ac;clear ag ae ac _c ab;rintro e w1⟨rfl,S,v,ac,ad,ai,J,D⟩;have ab:Hid (¬(m<m/\m<m)->jl (ltOf cf) a a r f b v):=aa (fun _=>ah.o.goL Qce ai J);have ag:=aa D;have ae:=aa ad;clear D ad u ai J ah aj;try clear ak)
   |(go_at_call 366;refine(ap.o _ v S ag.o ac ae.o r f b af af af af af (ab.o af).s3 (ab.o af).s4).bC ?_;have ah:=aa (ab.o af);have aj:=aa ac;clear ag ae ac ab;rintro e w1⟨rfl,S,v,ac,ad,ai,J,D⟩;have ab:Hid (¬(m<m/\m<m)->jl (ltOf cf) a _ r r b v):=aa (fun _=>ah.o.goR Qce ai J);have ag:=aa D;have ae:=aa ad;clear D ad ai J ah aj;try clear ak))
  all_goals
   exact Qcf
variable {N0:Nat}
def Rt(cf:Fin (N0+1)->Fin (N0+1)->Int)(g:Nat)(cb:Array bE)(eg:∀args w,(callFunc g args).run prog w=.ok (.enter g args) w)(blk off cap:Nat)(hsw:SWO (ltOf cf)):∀(N a m b:Nat) (d:Array (Fin (N0+1))) (w:bD),b-a<=N->SortedIn (ltOf cf) a m d->SortedIn (ltOf cf) m b d->CmpReads prog g cb cG cf blk off d.size w->Holds cG w blk off d->a<m->m<b->b<=d.size->d.size<1000000->
  bG 366 #[.slice (some (blk,off)) d.size cap,a,m,b,.func (.func g) #[] cb] w (rl cf blk off a b d w):=by
 intro N;induction N with
 |zero=>intro a m b d w h _ _ _ _ l c;omega
 |succ N ih=>
  intro a m b d w f D r i n C j u k;by_cases l:m-a=1
  ·exact Rp cf g cb eg blk off cap a m b d w hsw D r i n C j u k l
  ·by_cases c:b-m=1
   ·exact Rq cf g cb eg blk off cap a m b d w hsw D r i n C j u k l c
   ·by_cases x:(a+b)/2<m
    ·exact Rr cf g cb eg blk off cap a m b d w hsw D r i n C j u k l c x N f ih
    ·exact Rs cf g cb eg blk off cap a m b d w hsw D r i n C j u k l c x N f ih
def Ru(cf:Fin (N0+1)->Fin (N0+1)->Int)(g:Nat)(cb:Array bE)(eg:∀args w,(callFunc g args).run prog w=.ok (.enter g args) w)(blk off cap a b:Nat)(d:Array (Fin (N0+1)))(w:bD)(hcmp:CmpReads prog g cb cG cf blk off d.size w)(hH:Holds cG w blk off d)(hab:a<=b)(hb:b<=d.size)(hsz:d.size<1000000):
  bG 365 #[.slice (some (blk,off)) d.size cap,a,b,.func (.func g) #[] cb] w fun e w'=>e=.returned (.tuple #[])/\∃n,w'=(putRow cG w blk off (Sort.insertionSort (ltOf cf) d a b)).drewN n:=
 Any.insertionSortCmpFunc_one l365 cG (fun _=>rfl) cf g cb blk off cap a b d w eg hcmp hH hab hb af
variable {N0:Nat}
def nj(lt:Fin (N0+1)->Fin (N0+1)->Bool)(s x:Nat)(d:Array (Fin (N0+1))):Prop:=∀i,i*s<x->SortedIn lt (i*s) (min (i*s+s) d.size) d
variable{s q:Nat}
def nj.step{lt:Fin (N0+1)->Fin (N0+1)->Bool}{d e:Array (Fin (N0+1))}(h:nj lt s (q*s) d)(hs:0<s)(hz:e.size=d.size)(hl:SortedIn lt (q*s) (min (q*s+s) d.size) e)(he:∀t,t<q*s->e[t]! =d[t]!):nj lt s ((q+1)*s) e:=by
 intro i p;have p:i<q+1:=Nat.lt_of_mul_lt_mul_right p;rw[hz];by_cases o:i=q
 ·subst o;exact hl
 ·have a:(i+1)*s<=q*s:=lT s af;rw[pF,sf]at a;exact wk (h i af) fun t h2 h3=>he t af
variable{x y:Nat}
def nj.less{lt:Fin (N0+1)->Fin (N0+1)->Bool}{d:Array (Fin (N0+1))}(h:nj lt s x d)(hy:y<=x):nj lt s y d:=fun i hi=>h i af
variable{n:Nat}
def nj.fin{lt:Fin (N0+1)->Fin (N0+1)->Bool}{d:Array (Fin (N0+1))}(h:nj lt s n d)(hd:d.size=n)(hs:n<=s):SortedIn lt 0 n d:=by
 by_cases O:n=0
 ·subst O;exact zD af
 ·have:=h 0 af
  rw[Nat.zero_mul,fW,Nat.min_eq_right af,hd]at this;exact this
def nS(lt:Fin (N0+1)->Fin (N0+1)->Bool)(s q:Nat)(d:Array (Fin (N0+1))):Prop:=nj lt (2*s) (q*(2*s)) d/\∀i,2*q<=i->SortedIn lt (i*s) (min (i*s+s) d.size) d
def nS.Rv{lt:Fin (N0+1)->Fin (N0+1)->Bool}{d:Array (Fin (N0+1))}(h:nS lt s q d)(hy:y=q*(2*s)):SortedIn lt y (min (y+s) d.size) d/\SortedIn lt (y+s) (min (y+2*s) d.size) d:=by
 have x:2*q*s=q*(2*s):=by rw[ql 2 q,Nat.mul_assoc]
 have a:=h.2 (2*q) (bL _);have c:=h.2 (2*q+1) af;rw[pF,sf,x,<-hy]at c;rw[x,<-hy]at a;exact⟨a,wj c (bL _) af⟩
def nS.start{lt:Fin (N0+1)->Fin (N0+1)->Bool}{d:Array (Fin (N0+1))}(h:nj lt s d.size d):nS lt s 0 d:=by
 refine⟨fun i p=>af,fun i _=> ?_⟩;by_cases p:i*s<d.size
 ·exact h i p
 ·exact zD af
def nS.step{lt:Fin (N0+1)->Fin (N0+1)->Bool}{d e:Array (Fin (N0+1))}(h:nS lt s q d)(hs:0<s)(hy:y=q*(2*s))(hz:e.size=d.size)(hl:SortedIn lt y (min (y+2*s) d.size) e)(hp:PermIn y (min (y+2*s) d.size) d e):nS lt s (q+1) e:=by
 subst hy;refine⟨h.1.step af hz hl (fun t ht=>hp.2.1 t af),fun i hi=> ?_⟩;rw[hz];have a:(2*(q+1))*s<=i*s:=lT s hi;have c:(2*(q+1))*s=q*(2*s)+2*s:=by rw[ql 2,Nat.mul_assoc,pF,sf]
 exact wk (h.2 i af) fun t h3 h4=>hp.2.1 t af
def nS.last{lt:Fin (N0+1)->Fin (N0+1)->Bool}{d:Array (Fin (N0+1))}(h:nS lt s q d)(hs:0<s)(hy:y=q*(2*s))(hd:d.size<=y+s):nj lt (2*s) d.size d:=by
 subst hy;intro i p;by_cases o:i<q
 ·exact h.1 i (yM o af)
 ·have a:q*(2*s)<=i*(2*s):=lT _ af;have c:=h.2 (2*q) (bL _);have x:2*q*s=q*(2*s):=by rw[ql 2 q,Nat.mul_assoc]
  rw[x]at c;exact wj c a af
def nS.CX{lt:Fin (N0+1)->Fin (N0+1)->Bool}{d:Array (Fin (N0+1))}(h:nS lt s q d)(hs:0<s)(hy:y=q*(2*s))(hd:d.size<=y):nj lt (2*s) d.size d:=by subst hy;intro i p;exact h.1 i (iN p hd)
def Rw(cf:Fin (N0+1)->Fin (N0+1)->Int)(g:Nat)(cb:Array bE)(eg:∀args w,(callFunc g args).run prog w=.ok (.enter g args) w)(blk off cap:Nat)(d:Array (Fin (N0+1)))(w:bD)(hsw:SWO (ltOf cf))(hcmp:CmpReads prog g cb cG cf blk off d.size w)(hH:Holds cG w blk off d)(hsz:d.size<100000):
  bG 338 #[.slice (some (blk,off)) d.size cap,d.size,.func (.func g) #[] cb] w (rl cf blk off 0 d.size d w):=by
 have X:Hid (w=(putRow cG w blk off d).drewN 0):=aa (putRow_self cG w blk off d hH).symm;have ar:Hid (∀(W:bD) (dk:Array (Fin (N0+1))) (k:Nat),W=(putRow cG w blk off dk).drewN k->dk.size=d.size->PermIn 0 d.size d dk->∀x y:Nat,x<=y->y<=d.size->
   bG 365 #[.slice (some (blk,off)) d.size cap,x,y,.func (.func g) #[] cb] W fun e w'=>e=.returned (.tuple #[])/\∃k d',d'.size=d.size/\PermIn 0 d.size d d'/\PermIn x y dk d'/\SortedIn (ltOf cf) x y d'/\w'=(putRow cG w blk off d').drewN k):=aa (by
  intro W dk k hW L Y x y h1 h2;subst hW;have:=Ru cf g cb eg blk off cap x y dk _ (zE hcmp dk L k) (qu hH dk L k) h1 af af
  rw[L]at this;refine this.bC ?_;rintro e w'⟨rfl,U,rfl⟩;have hp:=insertionSort_holds (lt:=ltOf cf) hsw dk x y h1 af;exact⟨rfl,k+U,_,hp.1.1.bu L,permIn_trans d dk _ 0 d.size Y (permIn_mono dk _ x y 0 d.size (cH _) h2 af hp.1),hp.1,hp.2,sL w blk off dk _ k U hp.1.1⟩)
 have ap:Hid (∀(W:bD) (dk:Array (Fin (N0+1))) (k:Nat),W=(putRow cG w blk off dk).drewN k->dk.size=d.size->PermIn 0 d.size d dk->∀x c y:Nat,x<c->c<y->y<=d.size->SortedIn (ltOf cf) x c dk->SortedIn (ltOf cf) c y dk->
   bG 366 #[.slice (some (blk,off)) d.size cap,x,c,y,.func (.func g) #[] cb] W fun e w'=>e=.returned (.tuple #[])/\∃k d',d'.size=d.size/\PermIn 0 d.size d d'/\PermIn x y dk d'/\SortedIn (ltOf cf) x y d'/\w'=(putRow cG w blk off d').drewN k):=aa (by
  intro W dk k hW L Y x c y h1 h2 h3 E H;subst hW;have:=Rt cf g cb eg blk off cap hsw (y-x) x c y dk _ (bL _) E H (zE hcmp dk L k) (qu hH dk L k) h1 h2 af af
  rw[L]at this;refine this.bC ?_;rintro e w'⟨rfl,U,Q,r,ac,R,rfl⟩;exact⟨rfl,k+U,Q,r.bu L,permIn_trans d dk Q 0 d.size Y (permIn_mono dk Q x y 0 d.size (cH _) h3 af ac),ac,R,sL w blk off dk Q k U r⟩)
 clear hcmp hH;go_enter func338,ntmps338;go_wp2;go_loopw[7,8] (fun va vb wr=>∃(x k:Nat) (dk:Array (Fin (N0+1))),va=x/\vb=.int .i64 ((x:Int)+20)/\x<=d.size/\dk.size=d.size/\PermIn 0 d.size d dk/\wr=(putRow cG w blk off dk).drewN k/\∃q,x=q*20/\nj (ltOf cf) 20 x dk) (fun va _ _=>d.size-(intOf va).toNat);exact⟨0,0,d,rfl,rfl,cH _,rfl,permIn_refl d 0 d.size,X.o,0,af,fun i hi=>af⟩;obtain⟨x,k,dk,rfl,rfl,hx,L,Y,av,q,F,j⟩:=hrel;let⟨p,an⟩:=Jh2 F j;clear F j;let⟨O,HP⟩:=Jh2 av Y;clear av Y;by_cases aq:x+20<=d.size
 ·have C:=ar.o _ dk k O.o L HP.o x (x+20) af aq;rw[show(((x+20:Nat):Int))=(x:Int)+20 by omega]at C;have G:=aa C;clear C;go_wp2_with(go_at_call 365;refine G.o.bC ?_;rintro e w1⟨rfl,U,Q,r,ac,b,J,A⟩;have v:=aa A;have n:=aa b;have I:=aa J;clear A b J);go_roundw
  case rel=>exact⟨x+20,U,Q,aw,by first|go_num|(congr 1;omega),aq,r,ac,v.o,q+1,by have:=p.o;omega,by
   have e:=p.o;subst e;rw[show q*20+20=(q+1)*20 by omega];exact an.o.step af (r.bu L.symm) (by rw[ll af];exact I.o) (fun t ht=>n.o.2.1 t (bS ht))⟩
  case measure=>simp[intOf];omega
 ·have G:=aa (ar.o _ dk k O.o L HP.o x d.size hx (bL _));go_wp2_with(go_at_call 365;refine G.o.bC ?_;rintro e w1⟨rfl,U,Q,r,ac,b,J,A⟩;have v:=aa A;have n:=aa b;have I:=aa J;clear A b J);go_loopw[6] (fun vs wr2=>∃(f k:Nat) (dk:Array (Fin (N0+1))),vs=f/\20<=f/\f<=200000/\dk.size=d.size/\PermIn 0 d.size d dk/\wr2=(putRow cG w blk off dk).drewN k/\nj (ltOf cf) f d.size dk) (fun vs _=>d.size-(intOf vs).toNat)
  case atStart=>exact⟨20,U,Q,rfl,af,af,r,ac,v.o,by
   have e:=p.o;subst e;exact(an.o.step af (r.bu L.symm) (by rw[Nat.min_eq_right af];rw[L];exact I.o) (fun t ht=>n.o.2.1 t (bS ht))).less af⟩
  case round=>
   obtain⟨f,u,d3,rfl,aA,ay,ad,ao,D,ae⟩:=hrel;have P:=aa ae;clear ae an n I p;let⟨S,K⟩:=Jh2 D ao;clear D ao;by_cases az:f<d.size
   ·go_wp2;go_loopw[7,8] (fun va vb wr=>∃(x k:Nat) (dk:Array (Fin (N0+1))),va=x/\vb=.int .i64 ((x:Int)+2*(f:Int))/\x<=d.size/\dk.size=d.size/\PermIn 0 d.size d dk/\wr=(putRow cG w blk off dk).drewN k/\∃q,x=q*(2*f)/\nS (ltOf cf) f q dk) (fun va _ _=>d.size-(intOf va).toNat);exact⟨0,u,d3,rfl,by first|rfl|go_num|(congr 1;omega),cH _,ad,K.o,S.o,0,au,nS.start (by rw[ad];exact P.o)⟩;obtain⟨y,k4,z,rfl,rfl,hy,ab,l,s,N,Z,al⟩:=hrel;let⟨h,ai,m⟩:=Jh3 Z al (al.Rv Z);clear Z al;let⟨ah,am⟩:=Jh2 s l;clear s l;by_cases B:y+2*f<=d.size
    ·have C:=ap.o _ z k4 ah.o ab am.o y (y+f) (y+2*f) af af B (wj m.o.1 (bL _) af) (wj m.o.2 (bL _) af);rw[show(((y+f:Nat):Int))=(y:Int)+(f:Int) by omega,show(((y+2*f:Nat):Int))=(y:Int)+2*(f:Int) by omega]at C;have aj:=aa C;clear C;go_wp2_with(go_at_call 366;refine aj.o.bC ?_;rintro e T⟨rfl,k5,M,V,ag,b,J,a⟩;have ak:=aa a;have n:=aa b;have I:=aa J;clear a b J);go_roundw;exact⟨y+2*f,k5,M,by first|go_num|(congr 1;omega),by first|go_num|(congr 1;omega),B,V,ag,ak.o,N+1,by rw[h.o,pF,sf],ai.o.step af h.o (V.bu ab.symm) (by rw[ll af];exact I.o) (by rw[ll af];exact n.o)⟩;simp[intOf];omega
    ·by_cases ax:y+f<d.size
     ·have C:=ap.o _ z k4 ah.o ab am.o y (y+f) d.size af ax (bL _) (wj m.o.1 (bL _) af) (wj m.o.2 (bL _) af);rw[show(((y+f:Nat):Int))=(y:Int)+(f:Int) by omega]at C;have aj:=aa C;clear C;go_wp2_with(go_at_call 366;refine aj.o.bC ?_;rintro e T⟨rfl,k5,M,V,ag,b,J,a⟩;have ak:=aa a;have n:=aa b;have I:=aa J;clear a b J);go_roundw
      case rel=>exact⟨2*f,k5,M,by first|go_num|(congr 1;omega),af,af,V,ag,ak.o,by
       rw[<-V];exact(ai.o.step af h.o (V.bu ab.symm) (by rw[Nat.min_eq_right af,ab];exact I.o) (by rw[Nat.min_eq_right af,ab];exact n.o)).CX af rfl (by rw[pF,sf,<-h.o];omega)⟩
      case measure=>simp[intOf];omega
     ·go_wp2;go_roundw
      case rel=>exact⟨2*f,k4,z,by first|go_num|(congr 1;omega),af,af,ab,am.o,ah.o,by
       rw[<-ab];exact ai.o.last af h.o af⟩
      case measure=>simp[intOf];omega
   ·go_wp2;go_end0;exact⟨rfl,u,d3,ad,K.o,P.o.fin ad af,S.o⟩
def Ig(cf:Fin (N0+1)->Fin (N0+1)->Int)(g:Nat)(cb:Array bE)(eg:∀args w,(callFunc g args).run prog w=.ok (.enter g args) w)(blk off cap:Nat)(d:Array (Fin (N0+1)))(w:bD)(hsw:SWO (ltOf cf))(hcmp:CmpReads prog g cb cG cf blk off d.size w)(hH:Holds cG w blk off d)(hsz:d.size<100000):
  bG 292 #[.slice (some (blk,off)) d.size cap,.func (.func g) #[] cb] w (rl cf blk off 0 d.size d w):=by
 have b:=aa (Rw cf g cb eg blk off cap d w hsw hcmp hH hsz);clear hcmp hH;go_enter func292,ntmps292;go_wp2_with(go_at_call 338;refine b.o.bC ?_;rintro e i⟨rfl,a⟩;have r:=aa a;clear a);go_end0;exact⟨rfl,r.o⟩
def eY:List Int->List Int->Int
 |[],[]=>0
 |[],_::_=>-1
 |_::_,[]=>1
 |a::l,b::m=>if ff a b=0 then eY l m else ff a b
def Rx(l m:bF Int)(k:Nat)(h1:k<l)(h2:k<m):eY (l.drop k) (m.drop k)=if ff l[k] m[k]=0 then eY (l.drop (k+1)) (m.drop (k+1))else ff l[k] m[k]:=by rw[rR h1,rR h2,eY]
def Ry(l m:bF Int)(k:Nat)(h1:k<l)(h2:m.length<=k):eY (l.drop k) (m.drop k)=1:=by rw[rR h1,xw h2,eY]
def Rz(l m:bF Int)(k:Nat)(h1:l.length<=k):eY (l.drop k) (m.drop k)=if k<m then-1 else 0:=by
 rw[xw h1];by_cases h:k<m
 ·rw[rR h,eY,yc h]
 ·rw[xw af,eY,ya h]
def RA(v u:bE)(l m:bF Int)(w:bD)(hv:Sl eI 1 w v l)(hu:Sl eI 1 w u m):bG 339 #[v,u] w fun e w'=>e=.returned (eY l m)/\w'=w:=by
 obtain⟨a,U,rfl,t,d,F⟩:=hv.oy;obtain⟨S,s,rfl,q,N,f⟩:=hu.oy;unfold maxLen at d N;have r:=aa F;have g:=aa f;clear F f hv hu;go_enter func339,ntmps339;go_wp2;go_loopw[11] (fun vi wr=>∃k:Nat,k<=l.length/\k<=m.length/\vi=k/\wr=w/\eY (l.drop k) (m.drop k)=eY l m) (fun vi _=>l.length-(intOf vi).toNat)
 case atStart=>exact⟨0,cH _,cH _,rfl,rfl,rfl⟩
 case round=>
  obtain⟨k,K,D,rfl,rfl,X⟩:=hrel;have G:=aa X;clear X;by_cases p:k<l
  ·obtain⟨b,H,rfl,W,n⟩:=r.o af;have L:=n k p;have B:(0:Int)<=(k:Int):=af;have C:(k:Int)<(l.length:Int):=af;by_cases j:k<m
   ·obtain⟨R,I,rfl,A,z⟩:=g.o af;have Q:=z k j;have Z:(k:Int)<(m.length:Int):=af;have E:=aa (Rx l m k p j);clear n z;generalize l[k]=x at*;generalize m[k]=y at*;obtain⟨c,P⟩:=aH (ff x y);rw[P]at E;have M:=aa P;clear P;by_cases O:c=0
    ·subst O;rw[yc rfl]at E;go_wp2_with(go_at_call 233;refine(vR _ _ _).mono ?_;rintro e i⟨rfl,rfl⟩;rw[M.o]);go_roundw
     case rel=>exact⟨k+1,af,af,aw,aE,by rw[<-E.o];exact G.o⟩
     case measure=>simp[intOf];omega
    ·rw[ya O]at E;have J:(c !=0)=true:=aG O;clear O;go_wp2_with(go_at_call 233;refine(vR _ _ _).mono ?_;rintro e i⟨rfl,rfl⟩;rw[M.o]);go_ret;exact⟨by rw[<-G.o,E.o];rfl,rfl⟩
   ·have E:=aa (Ry l m k p af);clear n;go_wp2;go_ret;exact⟨by rw[<-G.o,E.o];rfl,rfl⟩
  ·have E:=aa (Rz l m k af);by_cases h:k<m
   ·rw[yc h]at E;go_wp2;go_ret;exact⟨by rw[<-G.o,E.o];rfl,rfl⟩
   ·rw[ya h]at E;go_wp2;go_ret;exact⟨by rw[<-G.o,E.o];rfl,rfl⟩
def RB(v u:bE)(l m:bF Int)(w:bD)(hv:Sl eI 1 w v l)(hu:Sl eI 1 w u m):bG 294 #[v,u] w (bj (eY l m) w):=by have b:=aa (RA v u l m w hv hu);obtain⟨a,U,rfl,_⟩:=hv.oy;obtain⟨c,s,rfl,_⟩:=hu.oy;clear hv hu;go_enter func294,ntmps294;go_wp2_with(go_at_call 339;refine b.o.bC ?_;rintro e i⟨rfl,rfl⟩);go_ret;exact⟨rfl,rfl⟩
def eV(v:Value):List Value:=[v]
structure sM(w:World)(v:Value)(K:List (List Int))(vs:List Value):Prop where
 len:vs.length=K.length
 sl:Sl eV 1 w v vs
 row:∀i (h:i<vs.length) (h2:i<K.length),Sl eI 1 w vs[i] K[i]
def RC(bx:Nat)(v:bE)(K:bF (bF Int))(vs:bF bE)(x y:Nat)(hx:x<K.length)(hy:y<K.length)(w:bD)(hb:w.cell? (be bx 0)=some v)(hk:sM w v K vs):
  bG 293 #[x,y,.pointer (some (be bx 0))] w fun e w'=>e=.returned (eY K[x] K[y])/\∃q,w'=w.drewN q:=by
 have S:=hk.len;obtain⟨a,u,rfl,_,t,k,F⟩:=hk.sl;obtain⟨b,m,rfl,W,n⟩:=F af;have l:=n x af 0 _ rfl;have s:=n y af 0 _ rfl;rw[gD,gg]at l s;let⟨T,U⟩:=Jh2 (hk.row x af hx) (hk.row y af hy);unfold maxLen at k;have O:0<=(x:Int):=af;have C:x<(vs:Int):=af;have r:0<=(y:Int):=af;have Z:y<(vs:Int):=af;have p:=T.o;have f:=U.o;obtain⟨g,i,c,_⟩:=p;obtain⟨z,B,j,_⟩:=f;rw[c]at l T;rw[j]at s U;clear c j n F hk;go_enter func293,ntmps293;go_wp2_with fail;go_quiet(first|(go_at_call 294;refine Calls.quiet_of ((RB _ _ _ _ _ T.o.d U.o.d).bC (fun _ _ h=>⟨h.1,0,h.2⟩))));go_wp2;go_ret;exact⟨rfl,_,rfl⟩
def RD(a:Option Addr)(cap:Nat)(f:bE)(w:bD):bG 365 #[.slice a 0 cap,(),(),f] w (bj (.tuple #[]) w):=by go_enter func365,ntmps365;go_wp2;go_loopw[8] (fun vi wr=>vi=.int .i64 1/\wr=w) (fun _ _=>0);exact⟨rfl,rfl⟩;exact Qc4
def RE(a:Option Addr)(cap:Nat)(f:bE)(w:bD):bG 338 #[.slice a 0 cap,(),f] w (bj (.tuple #[]) w):=by go_enter func338,ntmps338;go_wp2;go_loopw[7,8] (fun va vb wr=>va=.int .i64 0/\vb=.int .i64 20/\wr=w) (fun _ _ _=>0);exact⟨rfl,rfl,rfl⟩;obtain⟨rfl,rfl,rfl⟩:=hrel;go_wp2_with(go_at_call 365;refine(RD _ _ _ _).bC ?_;rintro e i⟨rfl,rfl⟩);go_loopw[6] (fun vs wr2=>vs=.int .i64 20/\wr2=i) (fun _ _=>0);exact⟨rfl,rfl⟩;exact Qc4
def RF(a:Option Addr)(cap:Nat)(f:bE)(w:bD):bG 292 #[.slice a 0 cap,f] w (bj (.tuple #[]) w):=by go_enter func292,ntmps292;go_wp2_with(go_at_call 338;refine(RE _ _ _ _).bC ?_;rintro e i⟨rfl,rfl⟩);go_end0;exact⟨rfl,rfl⟩
variable{k:Nat}{w':bD}{v:bE}
def Sl.kS{α:Type}{enc:α->bF bE}{N:Nat}{l:bF α}(h:Sl enc k w v l)(hw:N=w.heap.size)(hs:N<=w')(hc:∀a:Addr,a.block<N->w'.cell? a=w.cell? a):Sl enc k w' v l:=by obtain⟨a,U,R,H,d,c,n⟩:=h;refine⟨a,U,R,H,d,c,fun h0=> ?_⟩;let⟨b,m,ha,f,g⟩:=n h0;exact⟨b,m,ha,af,fun i hi j x hj=>(hc (b,m+i*k+j) (by show b<N;omega)).bu (g i hi j x hj)⟩
variable{K:bF (bF Int)}{vs:bF bE}
def sM.kS{N:Nat}(h:sM w v K vs)(hw:N=w.heap.size)(hs:N<=w')(hc:∀a:Addr,a.block<N->w'.cell? a=w.cell? a):sM w' v K vs:=⟨h.len,h.sl.kS hw hs hc,fun i h1 h2=>(h.row i h1 h2).kS hw hs hc⟩
def qv(K:List (List Int)){N0:Nat}(x y:Fin (N0+1)):Int:=eY (K.getD x.val []) (K.getD y.val [])
def RG(v:bE)(K:bF (bF Int))(vs:bF bE)(N0:Nat)(hK:K.length=N0+1)(w wr:bD)(hk:sM w v K vs)(blk bx:Nat)(hbl:w.heap.size<=blk)(hbx:w.heap.size<=bx)(hne:bx≠blk)(hlow:Bw w wr)(hbb:bx<wr)(hb:wr.cell? (be bx 0)=some v)(n:Nat):
  CmpReads prog 293 #[.pointer (some (be bx 0))] (cG (N0:=N0)) (qv K) blk 0 n wr:=by
 intro m b f d x y;have j:x.val<K:=by have:=x.isLt;omega
 have B:y.val<K:=by have:=y.isLt;omega
 have g:(sortWorld cG wr blk 0 m f b).heap.size=wr.heap.size+b.size:=by unfold sortWorld putRow mapBlock Sort.ahead;simp[grow]
 have o:(putRow cG (Sort.ahead wr m) blk 0 f).heap.size=wr.heap.size:=by unfold putRow mapBlock Sort.ahead;simp
 have F:∀a:Addr,a.block<wr.heap.size->a.block≠blk->(sortWorld cG wr blk 0 m f b).cell? a=wr.cell? a:=fun a h1 h2=>by
  unfold sortWorld;rw[cell?_grow _ _ _ (by rw[o];exact h1),cell?_putRow_other cG _ blk 0 f a (bS h2)];rfl
 have h:=RC bx v K vs x.val y.val j B (sortWorld cG wr blk 0 m f b) ((F (be bx 0) hbb hne).bu hb) (hk.kS rfl (by rw[g];have:=hlow.size;omega) (fun a ha=>(F a (iN ha hlow.size) af).bu (hlow.c ha)));have e:qv K x y=eY K[x.val] K[y.val]:=by unfold qv;rw[dy,dG j,dy,dG B];rfl
 rw[e];exact h
def gR(n k:Nat):List Value:=(List.range k).map (fun i=>Value.int .i64 (i:Nat))++List.replicate (n-k) (.int .i64 0)
def wq(n k:Nat)(h:k<=n):(gR n k).length=n:=by simp[gR];omega
def Ih(n k:Nat)(h:k<n):(gR n k).set k (aY (k:Nat))=gR n (k+1):=by unfold gR;rw[uS _ _ au,xH,jf];let⟨r,D⟩:∃r,n-k=r+1:=⟨n-k-1,af⟩;rw[D,show n-(k+1)=r by omega];simp[qY]
def RI(v:bE)(K:bF (bF Int))(vs:bF bE)(w:bD)(hk:sM w v K vs)(hn:K.length<=10000)(R:Ending->bD->Prop)(H:∀wr,Bw w wr->bI wr w 313 #[v]->bI wr (w.heap.size+1) 3 (gR K K).toArray->bG 292 #[.slice (some (be (w.heap.size+1) 0)) K K,.func (.func 293) #[] #[.pointer (some (be w 0))]] wr fun e w'=>e=.returned (.tuple #[])/\R (.returned (.slice (some (be (w.heap.size+1) 0)) K K)) w'):
  bG 244 #[v] w R:=by
 have S:=hk.len;obtain⟨a,U,rfl,_,t,d,n⟩:=hk.sl;unfold maxLen at d;rw[S]at*;have r:=run_make_row' (P:=prog) 74 3 (aY 0) 8 underlying74 ui rfl .i64 .i64 K af af;have z:=aa H;have b:madeCells #[()] K.length=(gR K 0).toArray:=by
  have h:=zf K;rw[gD]at h;exact Qcp
 rw[b]at r;clear n hk H b S;go_enter func244,ntmps244;go_wp2_with fail;have x:Bw w (aZ w #[.slice a K U] 313):=aI;have A:∃wr:bD,wr=(w.alloc (bH #[.slice a K U] 313)).alloc (.cells (gR K 0).toArray 3):=⟨_,rfl⟩;have E:Bw w ((w.alloc (bH #[.slice a K U] 313)).alloc (.cells (gR K 0).toArray 3))/\bI ((w.alloc (bH #[.slice a K U] 313)).alloc (.cells (gR K 0).toArray 3)) w 313 #[.slice a K U]/\bI ((w.alloc (bH #[.slice a K U] 313)).alloc (.cells (gR K 0).toArray 3)) (w.heap.size+1) 3 (gR K 0).toArray:=by
  refine⟨x.alloc x.size _,(bI.new w 313 _).alloc _, ?_⟩;have h:=bI.new (aZ w #[.slice a K U] 313) 3 (gR K 0).toArray;simpa using h
 have p:=aa E;clear A E;go_loopw[10] (fun vi wr=>∃k:Nat,k<=K.length/\vi=k/\Bw w wr/\bI wr w 313 #[.slice a K U]/\bI wr (w.heap.size+1) 3 (gR K k).toArray) (fun vi _=>K.length-(intOf vi).toNat);exact⟨0,cH _,rfl,p.o⟩;obtain⟨k,hk,rfl,j,m,F⟩:=hrel;let⟨s,Z⟩:=Jh2 m F;by_cases l:k<K
 ·have f:=F.c k;have B:=F.free k;rw[li,dG (by rw[wq _ _ hk];exact l)]at f;have O:0<=(k:Int):=af;have C:k<(K:Int):=af;have X:=m.far (k:=w.heap.size+1) k (aY (k:Nat)) af;have y:bI (wr.setCell (w.heap.size+1,k) (aY (k:Nat))) (w.heap.size+1) 3 (gR K (k+1)).toArray:=by
   have h:=F.set k (aY (k:Nat));rw[<-Ih K.length k l];simpa using h
  have V:Bw w (wr.setCell (w.heap.size+1,k) (aY (k:Nat))):=⟨j.os,j.tape,j.output,by simpa[World.setCell]using j.size,fun k' hk'=>(fV wr (w.heap.size+1,k) _ k' (by show k'≠w.heap.size+1;omega)).bu (j.block k' hk')⟩;have q:=aa (ch V (ch X y));clear X y V m F;generalize(gR K.length k)[k]'(by rw[wq _ _ hk];exact l)=u at f
  go_wp2;go_roundw;exact⟨k+1,af,aw,q.o⟩;simp[intOf];omega
 ·obtain rfl:k=K.length:=af;clear m F;have G:=aa (z.o wr j s.o Z.o);go_wp2_with(go_at_call 292;refine G.o.bC ?_;rintro e i⟨rfl,M⟩;have g:=aa M;clear M);exact g.o
def iI(N0:Nat):Array (Fin (N0+1)):=Array.ofFn (fun i=>i)
def uB(N0:Nat):(iI N0).size=N0+1:=by simp[iI]
def Ii(N0 L:Nat)(w:bD)(hb:bI w L 3 (gR (N0+1) (N0+1)).toArray):Holds cG w L 0 (iI N0):=by intro j J;rw[uB]at J;refine⟨?_,hb.free (0+j)⟩;rw[hb.c (0+j),fW,li];simp[gR,J,iI,cG]
def qw:∀(l m:bF Int),(eY l m<0∨eY l m=0∨0<eY l m)/\(eY l m<0↔0<eY m l):=by
 intro l;induction l with
 |nil=>intro m;cases m<;>simp[eY]
 |cons a l ih=>
  intro m;cases m with
  |nil=>simp[eY]
  |cons b m=>
   let⟨_,f⟩:=ih m;refine⟨af, ?_⟩;unfold eY ff;by_cases d:a<b
   ·have c:¬b<a:=af;simp[d,c]
   ·by_cases c:b<a
    ·simp[d,c]
    ·simp[d,c,f]
def Ij:∀(l m n:bF Int),eY l m<=0->eY m n<=0->eY l n<=0/\((eY l m<0∨eY m n<0)->eY l n<0):=by
 intro l;induction l with
 |nil=>
  intro m n d f;cases n with
  |nil=>
   cases m with
   |nil=>simp[eY]
   |cons b m=>simp[eY]at f
  |cons c n=>simp[eY]
 |cons a l ih=>
  intro m n d f;cases m with
  |nil=>simp[eY]at d
  |cons b m=>
   cases n with
   |nil=>simp[eY]at f
   |cons c n=>
    rw[eY]at d f;rw[eY,eY,eY];unfold ff at*;by_cases j:a<b
    ·by_cases g:b<c
     ·have q:a<c:=af;simp[q]
     ·by_cases h:c<b
      ·simp[g,h]at f
      ·have q:a<c:=af;simp[q]
    ·by_cases i:b<a
     ·simp[j,i]at d
     ·have e:a=b:=af;subst e;by_cases g:a<c
      ·simp[g]
      ·by_cases h:c<a
       ·simp[g,h]at f
       ·simp[g,h]at d f⊢;exact ih m n d f
def RJ(K:bF (bF Int))(N0:Nat):SWO (ltOf (qv K (N0:=N0))):=by
 refine⟨fun x=> ?_,fun x y z h1 h2=> ?_,fun x y z h1 h2=> ?_⟩
 ·have h:=(qw (K.getD x.val []) (K.getD x.val [])).2;unfold ltOf qv;rw[decide_eq_false_iff_not];omega
 ·unfold ltOf qv at*;simp only[decide_eq_true_eq]at*;exact(Ij _ _ _ af af).2 (bS h1)
 ·unfold ltOf qv at*;simp only[decide_eq_false_iff_not]at*;let⟨I,b,a,t,S⟩:=Jt5 (qw (K.getD x.val []) (K.getD y.val [])) (qw (K.getD y.val []) (K.getD z.val [])) (qw (K.getD x.val []) (K.getD z.val [])) (qw (K.getD y.val []) (K.getD x.val [])) (qw (K.getD z.val []) (K.getD y.val []));have:=(Ij (K.getD z.val []) (K.getD y.val []) (K.getD x.val []) af af).1
  have Y:=qw (K.getD z.val []) (K.getD x.val []);omega
def ro(K:List (List Int))(P:List Nat):Prop:=P.Pairwise fun x y=>eY (K.getD x []) (K.getD y [])<=0
theorem RK{K:bF (bF Int)}{N0:Nat}{d:Array (Fin (N0+1))}{n:Nat}(hn:d.size=n)(h:SortedIn (ltOf (qv K)) 0 n d):ro K (d.toList.map (·.val)):=by
 unfold ro;rw[yR,AW];intro i j hi hj hij;simp only[Array.length_toList]at hi hj;have h2:=h i j (cH _) hij Qat;rw[getElem!_pos d j hj,getElem!_pos d i hi]at h2;have h3:¬eY (K.getD (d[j]'hj).val []) (K.getD (d[i]'hi).val [])<0:=by
  unfold ltOf qv at h2;simpa using h2
 have s:=qw (K.getD (d[j]'hj).val []) (K.getD (d[i]'hi).val []);have s2:=qw (K.getD (d[i]'hi).val []) (K.getD (d[j]'hj).val []);simp only[Array.getElem_toList];omega
variable {N0:Nat}
variable{cs:Array bE}
def Ik{L:Nat}(h:bI w L 3 cs)(d:Array (Fin (N0+1)))(hs:d.size=cs.size):bI (putRow cG w L 0 d) L 3 (d.toList.map cG).toArray:=by
 unfold bI at h⊢;have b:L<w:=bI.lt h;have e:putCells cG 0 d cs=(d.toList.map cG).toArray:=by
  apply Array.ext_getElem?;intro k;unfold putCells;by_cases a:k<d.size
  ·simp[a,show k<cs.size from af]
  ·simp[a,show¬k<cs.size from af]
 unfold putRow mapBlock;rw[Ba,yc rfl,h];simp[onCells,e]
def Da{L:Nat}(d:Array (Fin (N0+1)))(hk:k≠L):(putRow cG w L 0 d).heap[k]?=w.heap[k]?:=by unfold putRow mapBlock;rw[Ba];simp[Ne.symm hk]
def Db(K:List (List Int))(w:World)(e:Ending)(w':World):Prop:=∃(v:Value) (P:List Nat),e=.returned v/\w'.ownsRow w 3 1 v K (bN eI (P.map fun i:Nat=>(i:Int)))/\P.Perm (List.range K)/\ro K P/\Bw w w'
variable{wr:bD}
def RM(hK:K.length=N0+1)(hn:K.length<=10000)(hlow:Bw w wr)(hb:bI wr (w.heap.size+1) 3 (gR K K).toArray)(d:Array (Fin (N0+1)))(k:Nat)(hs:d.size=N0+1)(hp:PermIn 0 (N0+1) (iI N0) d)(hx:ro K (d.toList.map (·.val)))(hw:w'=(putRow cG wr (w.heap.size+1) 0 d).drewN k):
  Db K w (.returned (.slice (some (be (w.heap.size+1) 0)) K K)) w':=by
 subst hw;have n:=wq K K (bL _);have F:=Ik hb d (by rw[hs,<-hK];simp[n]);refine⟨_,d.toList.map (·.val),rfl, ?_, ?_,hx, ?_⟩
 ·refine⟨by rw[ik eI 1 kI];simp[hs,hK],ci ⟨w.heap.size+1,K.length,(d.toList.map cG).toArray,rfl,af,F,bL _,az,by simp[hs,hK], ?_⟩⟩;rw[nN];simp only[lD];rw[eU (by simp[hs,hK])];rfl
 ·have h:=hp.2.2;have o:d.extract 0 (N0+1)=d:=by
   have x:d.extract 0 d.size=d:=au;rwa[hs]at x
  have r:(iI N0).extract 0 (N0+1)=iI N0:=by
   have x:(iI N0).extract 0 (iI N0).size=iI N0:=au;rwa[uB]at x
  rw[o,r]at h;have c:=h.map (fun i:Fin (N0+1)=>i.val);rw[hK];refine c.bu ?_;have Q:(iI N0).toList.map (fun i=>i.val)=List.range (N0+1):=by
   unfold iI;rw[Array.toList_ofFn];apply jG
   ·simp
   ·intro i a c;rw[lj,List.getElem_ofFn,List.getElem_range]
  rw[Q]
 ·refine⟨hlow.os,hlow.tape,hlow.output,aG hlow.size,fun k' hk'=>(Da d af).bu (hlow.block k' hk')⟩
def RP:∀args w,(callFunc 293 args).run prog w=.ok (.enter 293 args) w:=enters_of func293 aj rfl
def Dc(v:bE)(K:bF (bF Int))(vs:bF bE)(w:bD)(hk:sM w v K vs)(hn:K.length<=10000):bG 244 #[v] w (Db K w):=by
 refine RI v K vs w hk hn _ fun wr hlow hb1 hb2=> ?_;let⟨n,W⟩:=aH K.length;cases n with
 |zero=>
  have h:=RF (some (be (w.heap.size+1) 0)) 0 (.func (.func 293) #[] #[.pointer (some (be w 0))]) wr;rw[W];refine h.bC ?_;rintro e y⟨rfl,rfl⟩;rw[W]at hb2;refine⟨rfl,_,[],rfl, ?_,by rw[W];exact List.Perm.refl _,List.Pairwise.nil,hlow⟩;rw[W];exact⟨rfl,ci ⟨w.heap.size+1,0,_,rfl,af,hb2,bL _,az,by simp[gR],rfl⟩⟩
 |succ N0=>
  have a:=hb2;rw[W]at a;have b:=Ii N0 (w.heap.size+1) wr a;have M:=RG v K vs N0 W w wr hk (w.heap.size+1) w af (bL _) af hlow hb1.lt (hb1.c 0) (iI N0).size;have g:=uB N0;have h:=Ig (qv K) 293 _ RP (w.heap.size+1) 0 K (iI N0) wr (RJ K N0) M b af;rw[show(iI N0).size=K.length by omega]at h;refine h.bC ?_;rintro e y⟨rfl,k,d,L,s,J,T⟩;exact⟨rfl,RM W hn hlow hb2 d k af (by rw[W]at s;exact s) (RK (show d.size=K.length from af) J) T⟩
end
def gT(t:Tm):List Int:=[t.dh,t.cq,t.mem,t.fY]
def Dd:(prog.info? 45).map (fun i=>(i.zero,i.size,i.bytes))=some (some (.slice none 0 0),1,24):=aj
def kV(x:bE):(eV x).length=1:=rfl
def RQ(t:Tm)(w:bD):bG 243 #[kM t] w fun e w'=>∃v,e=.returned v/\w'.ownsRow w 2 1 v (gT t).length (bN eI (gT t))/\Bw w w':=by have u:Bw w (aZ w (dL t) 197):=aI;go_enter func243,ntmps243;go_wp2;go_ret;refine⟨_,rfl, ?_,u.alloc u.size _⟩;have h:=bI.new (aZ w (dL t) 197) 2 #[t.dh,t.cq,t.mem,t.fY];have L:(w.alloc (bH (dL t) 197)).heap.size=w.heap.size+1:=au;rw[L]at h;exact⟨rfl,ci ⟨w.heap.size+1,4,_,by first|rfl|simp[gT],af,h,bL _,az,rfl,rfl⟩⟩
structure jX(B:Nat)(w:World)(v:Value)(K:List (List Int))(vs:List Value):Prop where
 len:vs.length=K.length
 own:w.ownsRow B 45 1 v K.length (bN eV vs)
 row:∀i (h:i<vs.length) (h2:i<K.length),w.ownsRow B 2 1 vs[i] K[i].length (bN eI K[i])
variable{B:Nat}{w:bD}{v:bE}{K:bF (bF Int)}{vs:bF bE}
def jX.at(h:jX B w v K vs):sM w v K vs:=⟨h.len,Sl.own kV (by rw[h.len];exact h.own),fun i h1 h2=>Sl.own kI (h.row i h1 h2)⟩
variable{w':bD}
def jX.keep(h:jX B w v K vs)(hb:Bw w w'):jX B w' v K vs:=⟨h.len,cJ h.own hb,fun i h1 h2=>cJ (h.row i h1 h2) hb⟩
def jX.grow{v' u:bE}{z:bF Int}(h:jX B w v K vs)(hu:w.ownsRow B 2 1 u z (bN eI z))(hg:w.grownBy w' v.ownBlock)(ho:w'.ownsRow B 45 1 v' (K.length+1) (bN eV vs++[u])):jX B w' v' (K++[z]) (vs++[u]):=by
 have a:∀{x:bE} {n:Nat} {xs:bF bE},w.ownsRow B 2 1 x n xs->w'.ownsRow B 2 1 x n xs:=fun{x n xs} hx=>ed hx fun k hk=>ec.grown hg k (hx.lt k hk).2 (fun e=>ra hx h.own ah k hk k e rfl);refine⟨by simp[h.len],by rw[cO,ox];exact ho,fun i h1 h2=> ?_⟩;by_cases p:i<vs
 ·rw[lC p];have C:i<K:=by rw[<-h.len];exact p
  simp only[lC C];exact a (h.row i p C)
 ·have e:i=vs.length:=by simp at h1;omega
  subst e;have o:(vs++[u])[vs.length]'h1=u:=au;have r:(K++[z])[vs.length]'h2=z:=by rw[pA (by rw[h.len];exact bL _)];simp[h.len]
  rw[o,r];exact a hu
section
open Go.Proofs
attribute [local go_sem ↓] wp_at_zero wp_at_succ
def RR(n:Nat)(w:bD)(hn:n<=200000):bG 351 #[bd,aY n] w fun e w'=>∃v,e=.returned v/\w'.ownsRow w 3 1 v 0 []/\Bw w w':=by
 let⟨J,p,S,X,q⟩:=wm ui;rcases tX n with rfl|hp
 ·exact(Any8.slices_Grow_room l351 none 0 0 0 w (bL _) Qat Qat Qat).bC fun e w' ⟨he,hw⟩=>⟨_,he,by rw[hw];exact mQ _ _ _ _,by rw[hw];exact bM _ _⟩
 ·refine(Any8.slices_Grow_grow l351 J (aY 0) p S Qat none 0 0 n [] w (bL _) Qat QcW Qat (by simp) (fun _=>rfl) (fun a h=>by cases h)).bC ?_;rintro e w'⟨rfl,rfl⟩;have b:=grownCap_ge w (0+n) 0 3;have Z:=grownCap_le_maxLen w (0+n) 0 3 QcK;refine⟨_,rfl,ou w.drew _ (grownCap w (0+n) 0 3) (bL _) Z ?_,(bM _ _).drew.alloc (bL _) _⟩;have x:(Value.int .i64 0).cells.size=1:=rfl;simp only[Array.size_append,size_zeroCells,mN,jE,x];show 0+(0+n-0)*1+(grownCap w (0+n) 0 3-(0+n))*1=grownCap w (0+n) 0 3*1;omega
def RS(n:Nat)(w:bD)(hn:n<=200000):bG 364 #[bd,aY n] w fun e w'=>∃v,e=.returned v/\w'.ownsRow w 120 3 v 0 []/\Bw w w':=by
 let⟨J,p,S,X,q⟩:=wm oF;rcases tX n with rfl|hp
 ·exact(Any8.slices_Grow_room l364 none 0 0 0 w (bL _) Qat Qat Qat).bC fun e w' ⟨he,hw⟩=>⟨_,he,by rw[hw];exact mQ _ _ _ _,by rw[hw];exact bM _ _⟩
 ·refine(Any8.slices_Grow_grow l364 J (.agg #[(),(),()]) p S Qat none 0 0 n [] w (bL _) Qat QcW Qat (by simp) (fun _=>rfl) (fun a h=>by cases h)).bC ?_;rintro e w'⟨rfl,rfl⟩;have b:=grownCap_ge w (0+n) 0 120;have Z:=grownCap_le_maxLen w (0+n) 0 120 QcK;refine⟨_,rfl,ou w.drew _ (grownCap w (0+n) 0 120) (bL _) Z ?_,(bM _ _).drew.alloc (bL _) _⟩;have x:(Value.agg #[Value.int .i64 0,Value.int .i64 0,Value.int .i64 0]).cells.size=3:=rfl;simp only[Array.size_append,size_zeroCells,mN,jE,x];show 0+(0+n-0)*3+(grownCap w (0+n) 0 120-(0+n))*3=grownCap w (0+n) 0 120*3;omega
variable{wr:bD}{g:Nat}
def Il{u1 u2:bE}(hg:bI w g 74 #[u1,u2])(hb:Bw w wr):wr.cell? (be g 0)=some u1/\wr.cell? (g,0+1)=some u2:=⟨(hg.keep hb).c 0,(hg.keep hb).c 1⟩
def RV(g:Nat)(u1 u2:bE)(l1 l2:bF Int)(w:bD)(hg:bI w g 74 #[u1,u2])(h1:Sl eI 1 w u1 l1)(h2:Sl eI 1 w u2 l2)(hn1:l1.length<=90000)(hn2:l2.length<=90000):bG 318 #[.slice (some (be g 0)) 2 2] w (gP eI 3 1 (l1++l2) w):=by
 let⟨H,r,Y⟩:=Jh3 hg h1 h2;obtain⟨n,d,rfl,_⟩:=h1;obtain⟨m,f,rfl,_⟩:=h2;let⟨J,p,S,X,a⟩:=wm ui;have c:Hid (wrap64 ((l1:Int)+(l2:Int))=((l1.length+l2.length:Nat):Int)):=aa aC;clear hg;go_enter func318,ntmps318;go_wp2;go_loopw[3,11] (fun vs vi wr=>w=wr/\((vi=.int .i64 (0:Nat)/\vs=.int .i64 (0:Nat))∨(vi=.int .i64 (1:Nat)/\vs=.int .i64 (l1.length:Nat))∨(vi=.int .i64 (2:Nat)/\vs=.int .i64 ((l1.length+l2.length:Nat):Int)))) (fun _ vi _=>2-(intOf vi).toNat);exact⟨rfl,bS ⟨rfl,rfl⟩⟩;obtain⟨rfl,D⟩:=hrel;let⟨A,E⟩:=Il H.o (bM _ _);rcases D with⟨rfl,rfl⟩|⟨rfl,rfl⟩|⟨rfl,rfl⟩
 ·exact Qbn
 ·exact Qa5
 ·have y:=aa (RR (l1.length+l2.length) w af);go_wp2_with(go_at_call 351;refine y.o.bC ?_;rintro e T⟨L,rfl,B,I⟩;have v:=aa B;have N:=bV B;obtain⟨U,W,rfl⟩:=N;have z:=I.size;clear B);go_loopw[6,27] (fun vo vi wr2=>Bw w wr2/\((vi=.int .i64 (0:Nat)/\wr2.ownsRow w 3 1 vo 0 [])∨(vi=.int .i64 (1:Nat)/\wr2.ownsRow w 3 1 vo l1 (bN eI l1))∨(vi=.int .i64 (2:Nat)/\wr2.ownsRow w 3 1 vo (l1++l2).length (bN eI (l1++l2))))) (fun _ vi _=>2-(intOf vi).toNat);exact⟨I,bS ⟨rfl,v.o⟩⟩;obtain⟨F,D⟩:=hrel;let⟨A,E⟩:=Il H.o F;rcases D with⟨rfl,ho⟩|⟨rfl,ho⟩|⟨rfl,ho⟩
  ·have Q:=aa ho;obtain⟨P,x,rfl⟩:=bV ho;clear ho;go_wp2_with(at_builtin;refine fG kI ah kj _ rfl _ _ 74 rfl w 3 J (aY 0) 8 underlying74 p S X a aB (.slice P 0 x) [] rfl Q.o n d l1 rfl (r.o.keep F) (by simp;unfold maxLen;omega) aA F.size ?_;intro j k h l M;have G:=F.grown l F.size (fun q hq=>(Q.o.lt q hq).1);rw[lU]at h;obtain⟨s,b,rfl⟩:=bV h;clear l M);go_roundw;exact⟨G,ci (bS ⟨rfl,h⟩)⟩;decide
  ·have Q:=aa ho;obtain⟨P,x,rfl⟩:=bV ho;clear ho;go_wp2_with(at_builtin;refine fG kI ah kj _ rfl _ _ 74 rfl w 3 J (aY 0) 8 underlying74 p S X a aB (.slice P l1 x) l1 rfl Q.o m f l2 rfl (Y.o.keep F) az af F.size ?_;intro j k h l M;have G:=F.grown l F.size (fun q hq=>(Q.o.lt q hq).1);have O:=aa h;rw[cO]at h;obtain⟨s,b,rfl⟩:=bV h;clear l M h);go_roundw;exact⟨G,ci (ci ⟨rfl,O.o⟩)⟩;decide
  ·exact QbP
def Im{u1 u2:bE}(hg:bI w g 66 #[u1,u2])(hb:Bw w wr):wr.cell? (be g 0)=some u1/\wr.cell? (g,0+1)=some u2:=⟨(hg.keep hb).c 0,(hg.keep hb).c 1⟩
def RX(g:Nat)(u1 u2:bE)(l1 l2:bF Lg)(w:bD)(hg:bI w g 66 #[u1,u2])(h1:Sl df 3 w u1 l1)(h2:Sl df 3 w u2 l2)(hn1:l1.length<=90000)(hn2:l2.length<=90000):bG 335 #[.slice (some (be g 0)) 2 2] w (gP df 120 3 (l1++l2) w):=by
 let⟨H,r,Y⟩:=Jh3 hg h1 h2;obtain⟨n,d,rfl,_⟩:=h1;obtain⟨m,f,rfl,_⟩:=h2;let⟨J,p,S,X,a⟩:=wm oF;have c:Hid (wrap64 ((l1:Int)+(l2:Int))=((l1.length+l2.length:Nat):Int)):=aa aC;clear hg;go_enter func335,ntmps335;go_wp2;go_loopw[3,11] (fun vs vi wr=>w=wr/\((vi=.int .i64 (0:Nat)/\vs=.int .i64 (0:Nat))∨(vi=.int .i64 (1:Nat)/\vs=.int .i64 (l1.length:Nat))∨(vi=.int .i64 (2:Nat)/\vs=.int .i64 ((l1.length+l2.length:Nat):Int)))) (fun _ vi _=>2-(intOf vi).toNat);exact⟨rfl,bS ⟨rfl,rfl⟩⟩;obtain⟨rfl,D⟩:=hrel;let⟨A,E⟩:=Im H.o (bM _ _);rcases D with⟨rfl,rfl⟩|⟨rfl,rfl⟩|⟨rfl,rfl⟩
 ·exact Qbn
 ·exact Qa5
 ·have y:=aa (RS (l1.length+l2.length) w af);go_wp2_with(go_at_call 364;refine y.o.bC ?_;rintro e T⟨L,rfl,B,I⟩;have v:=aa B;have N:=bV B;obtain⟨U,W,rfl⟩:=N;have z:=I.size;clear B);go_loopw[6,27] (fun vo vi wr2=>Bw w wr2/\((vi=.int .i64 (0:Nat)/\wr2.ownsRow w 120 3 vo 0 [])∨(vi=.int .i64 (1:Nat)/\wr2.ownsRow w 120 3 vo l1 (bN df l1))∨(vi=.int .i64 (2:Nat)/\wr2.ownsRow w 120 3 vo (l1++l2).length (bN df (l1++l2))))) (fun _ vi _=>2-(intOf vi).toNat);exact⟨I,bS ⟨rfl,v.o⟩⟩;obtain⟨F,D⟩:=hrel;let⟨A,E⟩:=Im H.o F;rcases D with⟨rfl,ho⟩|⟨rfl,ho⟩|⟨rfl,ho⟩
  ·have Q:=aa ho;obtain⟨P,x,rfl⟩:=bV ho;clear ho;go_wp2_with(at_builtin;refine fG eG ah oE _ rfl _ _ 66 rfl w 120 J (.agg #[(),(),()]) 24 underlying66 p S X a aB (.slice P 0 x) [] rfl Q.o n d l1 rfl (r.o.keep F) (by simp;unfold maxLen;omega) aA F.size ?_;intro j k h l M;have G:=F.grown l F.size (fun q hq=>(Q.o.lt q hq).1);rw[lU]at h;obtain⟨s,b,rfl⟩:=bV h;clear l M);go_roundw;exact⟨G,ci (bS ⟨rfl,h⟩)⟩;decide
  ·have Q:=aa ho;obtain⟨P,x,rfl⟩:=bV ho;clear ho;go_wp2_with(at_builtin;refine fG eG ah oE _ rfl _ _ 66 rfl w 120 J (.agg #[(),(),()]) 24 underlying66 p S X a aB (.slice P l1 x) l1 rfl Q.o m f l2 rfl (Y.o.keep F) az af F.size ?_;intro j k h l M;have G:=F.grown l F.size (fun q hq=>(Q.o.lt q hq).1);have O:=aa h;rw[cO]at h;obtain⟨s,b,rfl⟩:=bV h;clear l M h);go_roundw;exact⟨G,ci (ci ⟨rfl,O.o⟩)⟩;decide
  ·exact QbP
def ft(a b:List Int):List Int:=oM (a++b)
def RY(u1 u2:bE)(l1 l2:bF Int)(w:bD)(h1:Sl eI 1 w u1 l1)(h2:Sl eI 1 w u2 l2)(hn1:l1.length<=40000)(hn2:l2.length<=40000):bG 257 #[u1,u2] w (gP eI 3 1 (ft l1 l2) w):=by have C:Bw w (aZ w #[u1,u2] 74):=aI;have G:=aa (RV w u1 u2 l1 l2 _ (bI.new w 74 #[u1,u2]) (h1.keep C) (h2.keep C) af af);have q:Hid (ft l1 l2=oM (l1++l2)):=aa rfl;have S:(l1++l2).length<=100000:=aN;obtain⟨n,b,rfl,_⟩:=h1;obtain⟨h,f,rfl,_⟩:=h2;generalize l1++l2=l at*;go_enter func257,ntmps257;go_wp2_with(first|(go_at_call 318;refine G.o.bC ?_;rintro e i⟨j,rfl,Z,z⟩;have d:=aa (Sl.own kI Z);obtain⟨W,K,rfl⟩:=bV Z;have J:=C.bu (z.bC C.size);have c:=aa (Ie _ l i d.o S);clear Z)|(go_at_call 317;refine c.o.bC ?_;rintro e k⟨g,rfl,Q,t⟩;have a:=aa Q;obtain⟨B,U,rfl⟩:=bV Q;clear Q));go_ret;rw[q.o];exact⟨_,rfl,d8 a.o J.size,J.bu (t.bC J.size)⟩
def RZ(n:Nat)(w:bD)(hn:n<=200000):bG 392 #[bd,aY n] w fun e w'=>∃v,e=.returned v/\w'.ownsRow w 2 1 v 0 []/\Bw w w':=by
 let⟨J,p,S,X,q⟩:=wm mW;rcases tX n with rfl|hp
 ·exact(Any8.slices_Grow_room l392 none 0 0 0 w (bL _) Qat Qat Qat).bC fun e w' ⟨he,hw⟩=>⟨_,he,by rw[hw];exact mQ _ _ _ _,by rw[hw];exact bM _ _⟩
 ·refine(Any8.slices_Grow_grow l392 J (aY 0) p S Qat none 0 0 n [] w (bL _) Qat QcW Qat (by simp) (fun _=>rfl) (fun a h=>by cases h)).bC ?_;rintro e w'⟨rfl,rfl⟩;have b:=grownCap_ge w (0+n) 0 2;have Z:=grownCap_le_maxLen w (0+n) 0 2 QcK;refine⟨_,rfl,ou w.drew _ (grownCap w (0+n) 0 2) (bL _) Z ?_,(bM _ _).drew.alloc (bL _) _⟩;have x:(Value.int .i64 0).cells.size=1:=rfl;simp only[Array.size_append,size_zeroCells,mN,jE,x];show 0+(0+n-0)*1+(grownCap w (0+n) 0 2-(0+n))*1=grownCap w (0+n) 0 2*1;omega
variable{q:Nat}
def R0{p:Nat}(h:p+q<=100000):wrap64 ((p:Int)+(q:Int))=(p:Int)+(q:Int)/\¬(((p+q:Nat):Int)<0)/\¬((p:Int)+(q:Int)<0):=⟨aC,af,af⟩
def Io(w:World)(us:List Value)(ls:List (List Int)):Prop:=us.length=ls.length/\∀i (h:i<us.length) (h2:i<ls.length),Sl eI 1 w us[i] ls[i]
def zI(ls:bF (bF Int))(k:Nat)(h:k<ls):(ls.take (k+1)).flatten=(ls.take k).flatten++ls[k]:=by rw[fj h,List.flatten_append];simp
def R7(ls:bF (bF Int))(k:Nat):(ls.take k).flatten.length<=ls.flatten:=by
 have e:ls.flatten=(ls.take k).flatten++(ls.drop k).flatten:=by rw[<-List.flatten_append,rV]
 rw[e,cO];omega
def R9(g:Nat)(us:bF bE)(ls:bF (bF Int))(w:bD)(hg:bI w g 45 us.toArray)(h:Io w us ls)(hn:ls.flatten.length<=100000)(hm:ls.length<=100):bG 372 #[.slice (some (be g 0)) ls ls.length] w (gP eI 2 1 ls.flatten w):=by
 let⟨H,V⟩:=Jh2 hg h;let⟨i0,hi,ad,X,ae⟩:=wm mW;let⟨F,s⟩:=aH ls.flatten;have S:=aa s;rw[s]at hn⊢;clear hg h s;have b:Hid (∀k,(ls.take k).flatten.length<=F.length):=aa (fun k=>by have:=R7 ls k;rw[S.o]at this;exact this);go_enter func372,ntmps372;go_wp2;go_loopw[3,11] (fun vs vi wr=>w=wr/\∃k:Nat,k<=ls.length/\vi=.int .i64 k/\vs=.int .i64 ((ls.take k).flatten.length:Nat)) (fun _ vi _=>ls.length-(intOf vi).toNat);exact⟨rfl,0,cH _,rfl,rfl⟩;obtain⟨rfl,k,hk,rfl,rfl⟩:=hrel;by_cases a:k<ls.length
 ·have r:k<us.length:=by rw[V.o.1];exact a
  let⟨n,c1,R,_,_⟩:=V.o.2 k r a;have A:=H.o.c k;rw[li,dG r,R]at A;have m:=b.o (k+1);have E:=b.o k;rw[zI ls k a,cO]at m;have D:Hid ((ls.take (k+1)).flatten.length=(ls.take k).flatten.length+ls[k].length):=aa (by rw[zI ls k a,cO]);let⟨p,hp⟩:=aH ((ls.take k).flatten.length);let⟨q,hq⟩:=aH (ls[k].length);rw[hp,hq]at D m;rw[hp]at E⊢;rw[hq]at A;let⟨x,t1,K⟩:=R0 (p:=p) (q:=q) (bW m hn);have u:=aa x;clear x;have O:0<=(k:Int):=af;have C:k<(ls:Int):=af;clear R hp hq;go_wp2;go_roundw;exact⟨aE,k+1,af,aw,by rw[D.o];first|rfl|(simp;done)|(simp;exact u.o)⟩;exact aV
 ·obtain rfl:k=ls.length:=af;have i:¬(ls.length<(ls:Int)):=af;have d:Hid ((ls.take ls).flatten.length=F.length):=aa (by rw[ic,S.o]);rw[d.o];have y:=aa (RZ F.length w af);go_wp2_with(go_at_call 392;refine y.o.bC ?_;rintro e T⟨v5,rfl,B,I⟩;have v:=aa B;have N:=bV B;obtain⟨U,W,rfl⟩:=N;have z:=I.size;clear B);have B5:=aa I;clear I;go_loopw[6,27] (fun vo vi wr2=>Bw w wr2/\∃k:Nat,k<=ls.length/\vi=.int .i64 k/\wr2.ownsRow w 2 1 vo (ls.take k).flatten.length (bN eI (ls.take k).flatten)) (fun _ vi _=>ls.length-(intOf vi).toNat);exact⟨B5.o,0,cH _,rfl,v.o⟩;obtain⟨Y,k,hk,rfl,J⟩:=hrel;let⟨HO,Z⟩:=Jh2 J Y;obtain⟨P,x,rfl⟩:=bV J;clear J;by_cases a:k<ls.length
  ·have r:k<us.length:=by rw[V.o.1];exact a
   let⟨n,c1,R,_⟩:=V.o.2 k r a;have A:=(H.o.keep Y).c k;rw[li,dG r,R]at A;have ac:Hid (Sl eI 1 _ _ _):=aa ((V.o.2 k r a).keep Y);rw[R]at ac;have m:=b.o (k+1);rw[zI ls k a,cO]at m;have D:=aa (zI ls k a);have O:0<=(k:Int):=af;have C:k<(ls:Int):=af;have ab:=Y.size;let⟨L,t⟩:=aH ((ls.take k).flatten);let⟨Q,hQ⟩:=aH (ls[k]);rw[t,hQ]at D m;rw[t]at HO⊢;rw[hQ]at A ac;clear R t hQ Y;go_wp2_with(at_builtin;refine fG kI ah kj _ rfl _ _ 45 rfl w 2 i0 (aY 0) 8 underlying45 hi ad X ae aB (.slice P L.length x) L rfl HO.o n c1 Q rfl ac.o (by show L.length+Q.length<=maxLen;unfold maxLen;omega) (by show(L.length+Q.length)*8<=_;omega) ab ?_;intro j w2 f l M;have G:=Z.o.grown l ab (fun q hq=>(HO.o.lt q hq).1);have ag:=aa f;rw[cO]at f;obtain⟨n2,k2,rfl⟩:=bV f;clear l M f);go_roundw;exact⟨G,k+1,af,aw,by rw[D.o];exact ag.o⟩;exact aV
  ·obtain rfl:k=ls.length:=af;have i:¬(ls.length<(ls:Int)):=af;rw[ic,S.o]at HO;rw[ic,S.o];go_wp2;go_ret;exact⟨_,rfl,HO.o,Z.o⟩
end
structure KI(u u1 y1 y0 q r:Nat):Prop where
 eq:r+q*y1=u
 ge:(4294967296*u+u1)/(4294967296*y1+y0)<=q
section
variable {u u1 y1 y0 q r:Nat}
def KI.start(hu:u<4294967296*y1+y0)(h1:2147483648<=y1)(h0:y0<4294967296)(hu1:u1<4294967296):KI u u1 y1 y0 (u/y1) (u%y1)/\u/y1<=4294967297:=by
 refine⟨⟨by rw[ql];exact Nat.mod_add_div u y1, ?_⟩, ?_⟩
 ·rw[Nat.le_div_iff_mul_le af];have h:=Nat.div_mul_le_self (4294967296*u+u1) (4294967296*y1+y0);generalize(4294967296*u+u1)/(4294967296*y1+y0)=Q at*
  rw[Nat.mul_add,Nat.mul_left_comm]at h;generalize Q*y1=a at*;generalize Q*y0=b at*;omega
 ·have:u/y1<4294967298:=by
   rw[qV af];omega
  omega
def KI.lt(h:KI u u1 y1 y0 q r)(hu:u<4294967296*y1+y0)(h1:2147483648<=y1)(hu1:u1<4294967296)(hc:4294967296<=q∨4294967296*r+u1<q*y0):(4294967296*u+u1)/(4294967296*y1+y0)<q:=by
 rcases hc with hc|hc
 ·refine iN ?_ hc;rw[qV af];omega
 ·rw[qV af,Nat.mul_add,Nat.mul_left_comm];exact QcY
def KI.next(h:KI u u1 y1 y0 q r)(hu:u<4294967296*y1+y0)(h1:2147483648<=y1)(hu1:u1<4294967296)(hc:4294967296<=q∨4294967296*r+u1<q*y0):0<q/\KI u u1 y1 y0 (q-1) (r+y1):=by
 have S:=h.lt hu h1 hu1 hc;have s:0<q:=tZ (cH _) S;refine⟨s, ?_,Nat.le_sub_one_of_lt S⟩;have:=h.eq
 clear S hc h;obtain⟨p,rfl⟩:∃p,q=p+1:=⟨q-1,af⟩;rw[pF,sf]at this;rw[yP];omega
def KI.uC(h:KI u u1 y1 y0 q r)(h1:2147483648<=y1)(h2:q*y0<=4294967296*r+u1):q=(4294967296*u+u1)/(4294967296*y1+y0):=by refine uZ ?_ h.ge;rw[Nat.le_div_iff_mul_le af,Nat.mul_add,Nat.mul_left_comm];exact QcY
def KI.brk(h:KI u u1 y1 y0 q r)(h1:2147483648<=y1)(h0:y0<4294967296)(hr:4294967296<=r)(hq:q<=4294967296):q=(4294967296*u+u1)/(4294967296*y1+y0):=by
 refine h.uC h1 ?_;have:q*y0<=4294967296*y0:=lT _ hq
 omega
end
def Sa(a b c Y:Nat)(hY:0<Y):(4294967296*(4294967296*a+b)+c)/Y=4294967296*((4294967296*a+b)/Y)+(4294967296*((4294967296*a+b)%Y)+c)/Y/\(4294967296*(4294967296*a+b)+c)%Y=(4294967296*((4294967296*a+b)%Y)+c)%Y:=by
 generalize 4294967296*a+b=D;have h:=Nat.mod_add_div D Y;have e:4294967296*D+c=(4294967296*(D%Y)+c)+Y*(4294967296*(D/Y)):=by
  rw[Nat.mul_left_comm Y];generalize Y*(D/Y)=p at*;omega
 rw[e,Nat.add_mul_div_left _ _ hY,Nat.add_mul_mod_self_left];exact⟨af,rfl⟩
def Sb(N y k:Nat)(hk:0<k):(N*k)/(y*k)=N/y/\(N*k)%(y*k)=(N%y)*k:=⟨Nat.mul_div_mul_right _ _ hk,Nat.mul_mod_mul_right _ _ _⟩
