/- Lemmas for TopShares and TopKept; no law is closed here. -/
import Derived.Test.YtmhohaanddglbaaGreatDoorM03
import Derived.RangeFuncNested
set_option linter.all false
set_option maxRecDepth 100000
set_option maxHeartbeats 16000000
namespace Go.Proofs.YtmhohaanddglbaaGreatDoor
open Go.RowKit Go.Proofs.Tryz ZA ZU ZI ZD ZP ZR ZT ZS ZE ZO
variable{p:Prop}
def Qad(h:p:=by go_enter func148,ntmps148;go_wp2_with(first|(go_at_call 184;refine M.o.bC ?_;rintro e i⟨rfl,b⟩;have y:=aa (X.o.keep b);have J:=aa (N.o.keep b);have I:=C.bu (b.bC C.size))|(go_at_call 183;(first|(refine(K.o _ Y.o).bC ?_;rintro e O⟨rfl,F⟩;have E:=a.bu (F.bC a.size))|(refine(u.o _ y.o).bC ?_;rintro e k⟨rfl,f⟩;have Y:=aa (y.o.keep f);have m:=aa (J.o.keep f);have a:=I.bu (f.bC I.size);have V:=m.o.c 3;have G:=m.o.c 4))));go_ret;exact⟨by rw[p.o];rfl,E⟩):p:=h
def Qau(h:p:=by go_wp2_with(first|(go_at_call 301;refine L.o.bC ?_;rintro e V⟨rfl,b⟩;have z:=G.bu (b.bC G.size))|(go_at_call 302;refine(P.o _).bC ?_;rintro e g⟨rfl,rfl⟩));go_ret;exact⟨by rw[HF.o];rfl,z⟩):p:=h
def QaB(h:p:=by clear I;go_enter func153,ntmps153;go_wp2_with fail;rw[show(w.alloc (bH #[fk,fm] 81)).alloc (bH #[tk,tm] 81)=g from ak.o];go_wp2_with(go_at_call 193;refine al.o.bC ?_;rintro e k⟨rfl,f⟩;rw[U.o];have t:=b.bu (f.bC b.size));go_ret2;exact⟨_,_,A,D,rfl,cL.same ai.o t,q.o⟩):p:=h
def QaD(h:p:=by
  split
  ·exact⟨ok.bQ,ok.fC⟩
  split
  ·exact⟨ok.bQ,ok.fC⟩
  ·refine DU ok.bQ ok.fC ?_;exact DV ok.fC (eo (dR m a) D.bQ)):p:=h
def QaE(h:p:=by clear u K t4;go_wp2_with(first|(go_at_call 301;refine L.o.bC ?_;rintro e V⟨rfl,b⟩;have z:=G.bu (b.bC G.size))|(go_at_call 302;refine(P.o _).bC ?_;rintro e g⟨rfl,rfl⟩));go_roundw;exact⟨k+1,af,aw,by rw[HR.o],z,HF.o⟩;exact aV):p:=h
def QaF(h:p:=by go_wp2_with fail;rw[show w.alloc (bH #[(1:Int)] 3)=g from C.o];go_wp2_with(go_at_call 152;refine f.o.bC ?_;rintro e i⟨rfl,T⟩;subst T);go_ret2;exact⟨_,_,A,D,rfl,cL.same d.o b,by rw[yc E.o];exact⟨rfl,rfl,rfl⟩⟩):p:=h
def QaJ(h:p:=by
  by_cases b:cd p.2=0
  ·have e:gp p=none:=by unfold gp;rw[c,b];simp
   simp only[e,eu,ii,b,d];split<;>omega
  ·have e:gp p=some ⟨p.1.mem,p.1.bK,cd p.2⟩:=by unfold gp;rw[c];simp[b]
   simp only[e,eu,ii,d]):p:=h
def QaL(h:p:=by go_enter func313,ntmps313;go_wp2_with fail;refine(sw vm vs _ C _ G.o M.o).bC ?_;rintro e h⟨rfl,f⟩;have R:=aa (B.o.keep f);have H:=R.o.c 2;go_wp2;go_ret2;exact⟨⟨_,rfl⟩,g.bu (f.bC g.size)⟩):p:=h
def QaM(h:p:=by go_enter func205,ntmps205;go_wp2;go_ret;exact⟨rfl,C⟩):p:=h
def QaY(h:p:=by have M:=aa P;clear V h P p;rw[q.o];go_enter func152,ntmps152;go_wp2_with(go_at_call 192;refine G.o.bC ?_;rintro e i⟨rfl,T⟩;rw[M.o];subst T);go_ret;exact⟨rfl,rfl⟩):p:=h
def Qa2(h:p:=by
  clear h;go_enter func185,ntmps185;go_wp2;try go_quiet(fail)
  try go_wp2
  go_ret;exact⟨by rw[f.o];rfl,by first|exact aI.alloc au _|exact gM (aI.alloc au _) _⟩):p:=h
def Qa4(h:p:=by have ae:=aa (mT _ _ wr (Sl.own kI Q.o) Z.o af);go_wp2_with(go_at_call 230;refine ae.o.bC ?_;rintro e w3⟨rfl,F⟩);go_ret2;exact⟨rfl,R.bu (F.bC R.size)⟩):p:=h
def Qba(h:p:=by go_ret;exact⟨_,rfl,L.o,fun k hk=>bW b.size (W k hk),(cg.below b).bu d.o⟩):p:=h
def Qbi(h:p:=by show D.log.length+1<=1000000;omega):p:=h
def Qbl(h:p:=by go_enter func158,ntmps158;go_wp2;go_ret;exact⟨by rw[p.o];rfl,C⟩):p:=h
def Qbw(h:p:=by
  have r:=dF j;gi_wp2
  go_end0;exact⟨⟨_,rfl⟩,.inl (by have h:=z.o;rw[JH (Int.not_lt.2 j)]at h⊢;exact h)⟩):p:=h
def Qbx(h:p:=by
  gi_wp2
  refine wb (results_none rfl _ _ _) rfl ?_;exact⟨⟨_,rfl⟩,.inr ⟨_,trivial,g⟩⟩):p:=h
def QbN(h:p:=by rename_i r;clear r I M O;go_wp2;go_ret2;exact⟨N,k,_,_,rfl,j.o,by rw[ya (aG E.o)];exact y.o⟩):p:=h
def QbR(h:p:=by rw[<-a];exact heap_alloc2_new _ _ _):p:=h
def QbS(h:p:=by rw[<-v];exact bI.new w 3 #[(1:Int)]):p:=h
def Qcg(h:p:=by go_wp2;go_roundw;exact⟨k+1,_,af,aw,by rw[aj.o];exact aA.o,b8,aS.o⟩;exact aV):p:=h
def Qch(h:p:=by have V:=aa h;clear h;go_enter func302,ntmps302;go_wp2;go_ret;exact⟨rfl,rfl⟩):p:=h
def Qcj(h:p:=by have u:=n.at'.blk.c 9;rw[n.gd]at u;rw[<-n.gs];exact u):p:=h
def Qcm(h:p:=by have:=ag.o;omega):p:=h
def Qcy(h:p:=by have:=s.length_eq;rw[rZ,I.o]at this;exact this):p:=h
def QcN(h:p:=by simp[results,results254,go_sem,W,I,h,K]):p:=h
def QcZ(h:p:=by have:=ok.tn;omega):p:=h
def Qdg(h:p:=by go_enter func69,ntmps69;go_wp2;go_ret2;exact⟨rfl,rfl⟩):p:=h
def Qdj(h:p:=by unfold iE;omega):p:=h
section
attribute [local go_sem ↓] wp_at_zero wp_at_succ
def my(G:List (Sd×List Int))(Q:List Nat)(k:Nat):List Lg:=((Q.take k).map fun i=>G.getD i zG).filterMap gp
variable{B:Nat}{w W:bD}
def DH{M:Nat}(h:Below B w W)(hM:B<=M)(o:Obj):Below B w (putObj W M o):=⟨h.os,h.tape,h.output,by have:=h.size;simpa[putObj]using this,fun k hk=>(sD W M k o af).bu (h.block k hk)⟩
def Uu(vm vs vc v:bE)(C:bZ)(l:bF Lg)(w:bD)(hc:dM w vm vs vc C)(hv:Sl df 3 w v l)(hn:l.length<=100000)(h64:∀x∈l,bO x.bJ):bG 247 #[eT vm vs vc C,v] w (Ur C l w):=by
 have P:Bw w (aZ w (cU vm vs vc C) 26):=aI;let⟨HC,HB,HS,Z⟩:=Jh4 (hc.keep P) (bI.new w 26 (cU vm vs vc C)) (hv.keep P) (Uo (l:=l) h64);obtain⟨n1,k1,rfl,_⟩:=hv;clear hc h64;by_cases ar:1024<l.length
 ·have hb:=dT (show(1024:Int)<(l:Int) by omega);have HR:Hid (mx C l [] 6):=aa (by unfold mx;rw[yc ar];exact⟨rfl,rfl⟩);clear ar;go_enter func247,ntmps247;go_wp2;go_ret2;exact⟨_,_,_,rfl,qC _ _ _ _ _,P,HR.o⟩
 ·have hb:=dF (show¬(1024:Int)<(l:Int) by omega);have z:=aa ar;have cB:l.length<=1024:=af;have cG:∀w:bD,(Instr.makeMap 379 none).run prog w=.ok (.map (some w.heap.size)) (w.alloc (.map #[] 0)):=fun w=>rfl;let⟨U,aM⟩:=aH (w.alloc (bH (cU vm vs vc C) 26));have bU:fF (U.alloc (.map #[] 0)) U.heap.size U.heap.size jH [] []:=fF.new U jH;have cu:=aa bU;have S:U.heap.size=w.heap.size+1:=by rw[<-aM];simp
  have b1:Bw U (U.alloc (.map #[] 0)):=aI;let⟨j0,J,bQ,cc,bl⟩:=wm mW;rw[aM]at HC HB HS P;let⟨b4,cd⟩:=Jh2 aM S;clear ar bU aM S;go_enter func247,ntmps247;go_wp2_with fail;rw[show w.alloc (bH #[vm,vs,vc,C.line,C.capital,C.lead,C.cj,C.cv] 26)=U from b4.o];rw[<-cd.o];clear b4 cd;go_loopw[22] (fun vi wr=>∃(k:Nat) (bv:bF bE),k<=l.length/\vi=k/\fF wr U.heap.size U.heap.size jH (fH (l.take k)) bv/\Bw U wr/\∀j (h:j<k) (h2:j<l.length),fE C l[j].mem l[j].bK=0) (aW l.length);exact⟨0,[],cH _,rfl,cu.o,b1,fun j J=>xl J af⟩;obtain⟨k,bv,hk,rfl,hG,am,bo⟩:=hrel;let⟨H,aL⟩:=Jh2 hG bo;clear hG bo;by_cases aC:k<l.length
  ·obtain⟨cy,ba,b,a6,rfl,_,aJ⟩:=(HS.o.keep am).hd;let⟨r0,r1,r2⟩:=kL (aJ k aC);have ck:0<=(k:Int):=af;have ch:k<(l:Int):=af;unfold maxLen at ba;have aj:Hid (fH (l.take (k+1))=di (dX l[k]) l[k].bJ (fH (l.take k))):=aa (by rw[fj aC,Ul]);have cm:=aa (Up C l k aC (fun j J h2=>aL.o j J h2));have cr:Hid (∀y,fE C l[k].mem l[k].bK=0->y=k->∀h2:y<l.length,fE C l[y].mem l[y].bK=0):=aa (fun y h e h2=>by subst e;exact h);clear aJ;generalize l[k]=x at*;have cA:Bw wr (aZ wr (dI x) 120):=aI;let⟨K,bq⟩:=Jh2 (bI.new wr 120 (dI x)) (H.o.keep cA);have bA:=am.bu (cA.bC am.size);have a2:=aa (Uj vm vs vc C (aZ wr (dI x) 120) (HC.o.keep bA) x);let⟨p0,p1,Y,p3,p4,p5,p6,p7⟩:=s8 (HB.o.keep bA);let⟨x0,x1,x2⟩:=K.o.k3 0 1 2;let⟨y,hy⟩:=aH (fE C x.mem x.bK);have HY:=aa hy;clear hy;by_cases I:y=0
   rotate_left
   ·have bh:(y !=0)=true:=aG I;have HR:Hid (mx C l [] y):=aa (by
     have hf:=cm.o (by rw[HY.o];exact I);rw[HY.o]at hf;unfold mx;rw[ya z.o,hf,yc I];exact⟨rfl,rfl⟩)
    clear I;go_wp2_with(go_at_call 299;refine a2.o.bC ?_;rintro e O⟨rfl,c3⟩;rw[HY.o];have V:=bA.bu (c3.bC bA.size));go_ret2;exact⟨_,_,_,rfl,qC _ _ _ _ _,P.bu (V.bC P.size),HR.o⟩
   ·subst I;have aS:Hid (∀j (h:j<k+1) (h2:j<l.length),fE C l[j].mem l[j].bK=0):=aa (fun j h h2=>by
     rcases fA j k with h3|h3
     ·exact aL.o j h3 h2
     ·exact cr.o j HY.o af h2)
    go_wp2_with(go_at_call 299;refine a2.o.bC ?_;rintro e O⟨rfl,c3⟩;rw[HY.o];have V:=bA.bu (c3.bC bA.size);have cb:=aa (bq.o.keep c3);have aD:=aa (K.o.keep c3);have x0:=aD.o.c 0;have x1:=aD.o.c 1;have x2:=aD.o.c 2;have y2:=(aD.o.alloc (bH #[aY x.mem,aY x.bK] 382)).c 2);have b5:Bw U ((O.alloc (bH #[aY x.mem,aY x.bK] 382)).alloc (bH #[aY x.bJ] 2)):=(V.alloc V.size _).alloc (by have:=V.size;simp;omega) _;have ae:=aa ((cb.o.alloc (bH #[aY x.mem,aY x.bK] 382)).alloc (bH #[aY x.bJ] 2));have av:=aa (show bI ((O.alloc (bH #[aY x.mem,aY x.bK] 382)).alloc (bH #[aY x.bJ] 2)) (O.heap.size+1) 2 #[aY x.bJ]from by have:=bI.new (aZ O #[aY x.mem,aY x.bK] 382) 2 #[aY x.bJ];simpa using this);let⟨G,hG⟩:=aH (fH (l.take k));have bp:G.length<=1024/\∀p∈G,p.2.length<=1024:=by
     have h:=zT (l.take k);rw[hG,dx]at h;exact⟨af,fun p hp=>by have:=h.2 p hp;omega⟩
    have a3:=aa bp;rw[hG]at ae aj;clear hG H bq cb a2 x0 x1 x2 y2 aD K r0 r1 r2 p0 p1 Y p3 p4 p5 p6 p7 bp bA cA;generalize(O.alloc (bH #[aY x.mem,aY x.bK] 382)).alloc (bH #[aY x.bJ] 2)=W5 at b5 ae av⊢
    have a8:=b5.size;have an:=aa ae.o.lh;have ak:=aa (zS an.o);rcases zr (dX x) G bv 0 ae.o.lh with⟨hL,hadd⟩|⟨n,hn1,hn2,hL,hkey,hadd⟩
    ·have ao:=Gf Bt underlying379 bd zeroValue45 W5 U.heap.size _ (dX x) ae.o.mid.map hL;rw[ak.o]at ao;change (Instr.mapEntry 379 (.map (some U.heap.size)) (.agg #[aY x.mem,aY x.bK])).run prog W5=.ok (.tuple #[bd,aY (G.length:Nat)]) _ at ao
     have ay:=aa (hadd x.bJ);have B:=aa (ae.o.mid.put (List.zipWith (fun(g:Sd×bF Int) (v:bE)=>(g.1,v)) G bv++[(dX x,Value.slice none 0 0)])).push;have A:Hid (bI (putObj W5 U.heap.size (ew jH (List.zipWith (fun(g:Sd×bF Int) (v:bE)=>(g.1,v)) G bv++[(dX x,Value.slice none 0 0)]))) (O.heap.size+1) 2 #[aY x.bJ]):=aa ((sD _ _ _ _ (sG ae.o.mid.map av.o)).bu av.o);have b6:=DH b5 (bL _) (ew jH (List.zipWith (fun(g:Sd×bF Int) (v:bE)=>(g.1,v)) G bv++[(dX x,Value.slice none 0 0)]));have a0:=b6.size;have ce:=a3.o.1;rw[ao];dsimp only[Result.andThen];rw[Oper.upon_value];clear ao ae av b5 a8;generalize putObj W5 U.heap.size (ew jH (List.zipWith (fun(g:Sd×bF Int) (v:bE)=>(g.1,v)) G bv++[(dX x,Value.slice none 0 0)]))=W6 at B A b6 a0⊢;go_wp2_with(at_builtin;refine wpList_append_own_at _ rfl _ _ 45 rfl U.heap.size 2 j0 (aY 0) 1 8 underlying45 J bQ cc bl rfl ah bd 0 [] rfl ⟨rfl,bS ⟨rfl,rfl⟩⟩ (be (O.heap.size+1) 0) 1 1 [aY x.bJ] rfl rfl (fun j u X=>by rw[iX,fW,A.o.c j];simpa using X) Qb0 az af (by exact a0) ?_;intro v7 W7 ab ac _ M);have ag:=aa (B.o.grow bv au (by rw[<-B.o.rows.len];simp) (v':=v7) (zs':=[x.bJ]) (aG ac) (by simpa[bN,eI]using ab) (aG M));have b7:=b6.grown ac b6.size (fun q hq=>by simp[Value.ownBlock]at hq);have D:=bV ab;obtain⟨n7,k7,rfl⟩:=D;clear ab ac M B A a0;go_wp2_with fail;have d:=zh W7 U.heap.size _ G.length (dX x) bd (.slice n7 1 k7) ag.o.map (by rw[<-ak.o];simp) 379;change (Instr.entryStore 379 (.map (some U.heap.size)) (aY (G.length:Nat)) (.slice n7 1 k7)).run prog W7=_ at d
     rw[d];dsimp only[Result.andThen];rw[Oper.upon_skip];have aA:=aa (fF.Uk (x:=x.bJ) an.o ay.o ag.o);have b8:=DH b7 (bL _) (ew jH ((List.zipWith (fun(g:Sd×bF Int) (v:bE)=>(g.1,v)) G bv++[(dX x,Value.slice none 0 0)]).set G.length (dX x,Value.slice n7 1 k7)));clear d ag b7;generalize putObj W7 U.heap.size (ew jH ((List.zipWith (fun(g:Sd×bF Int) (v:bE)=>(g.1,v)) G bv++[(dX x,Value.slice none 0 0)]).set G.length (dX x,Value.slice n7 1 k7)))=W8 at aA b8⊢;exact Qcg
    ·have cg:=xV hL;obtain⟨m,hm,f⟩:=cg;obtain rfl:n=m:=af;rw[fW]at hL;let⟨zb,T⟩:=aH (G[n].2);let⟨vb,aN⟩:=aH (bv[n]);have ad:=ae.o.mid.rows.own n hn2 (aG hn1);have cD:zb.length<=1024:=by rw[<-T];exact a3.o.2 _ (cZ hn1)
     rw[lj]at ad;have ax:=hadd x.bJ;let⟨ca,cl⟩:=Jh2 aN T;rw[aN,T]at ad;rw[aN]at hL f;have hf:=bV ad;obtain⟨nb,kb,rfl⟩:=hf;have aQ:=aa ad;have ao:=Ge Bt underlying379 W5 U.heap.size _ (dX x) n _ ae.o.mid.map hL;change (Instr.mapEntry 379 (.map (some U.heap.size)) (.agg #[aY x.mem,aY x.bK])).run prog W5=.ok (.tuple #[.slice nb zb.length kb,aY (n:Nat)]) W5 at ao
     let⟨ay,cw,bB,bs⟩:=Jh4 ax f hn1 hn2;have ce:=a3.o.1;have cI:n<1024:=af;have W:=aa hkey;rw[ao];dsimp only[Result.andThen];rw[Oper.upon_value];clear ao hadd ax T aN ad f hL;go_wp2_with(at_builtin;refine wpList_append_own_at _ rfl _ _ 45 rfl U.heap.size 2 j0 (aY 0) 1 8 underlying45 J bQ cc bl rfl ah (.slice nb zb.length kb) zb.length (bN eI zb) rfl aQ.o (be (O.heap.size+1) 0) 1 1 [aY x.bJ] rfl rfl (fun j u X=>by rw[iX,fW,av.o.c j];simpa using X) Qb0 az af (by exact a8) ?_;intro v7 W7 ab ac _ M);have ag:=aa (ae.o.mid.grow n bs.o (aG bB.o) (v':=v7) (zs':=zb++[x.bJ]) (by rw[ca.o];exact ac) (by rw[cO,ox];exact ab) (by rw[ca.o];exact M));have b7:=b5.grown ac b5.size (fun q hq=>(aQ.o.lt q hq).1);have D:=bV ab;obtain⟨n7,k7,rfl⟩:=D;clear ab ac M ae av a8 b5;go_wp2_with fail;have d:=zh W7 U.heap.size _ n (dX x) _ (.slice n7 (zb.length+1) k7) ag.o.map cw.o 379;change (Instr.entryStore 379 (.map (some U.heap.size)) (aY (n:Nat)) (.slice n7 (zb.length+1) k7)).run prog W7=_ at d
     rw[d];dsimp only[Result.andThen];rw[Oper.upon_skip];have aA:=aa (fF.IN (x:=x.bJ) an.o bB.o bs.o W.o ay.o (by rw[cl.o];exact ag.o));have b8:=DH b7 (bL _) (ew jH ((List.zipWith (fun(g:Sd×bF Int) (v:bE)=>(g.1,v)) G bv).set n (dX x,Value.slice n7 (zb.length+1) k7)));clear d ag b7;generalize putObj W7 U.heap.size (ew jH ((List.zipWith (fun(g:Sd×bF Int) (v:bE)=>(g.1,v)) G bv).set n (dX x,Value.slice n7 (zb.length+1) k7)))=W8 at aA b8⊢;exact Qcg
  ·obtain rfl:k=l.length:=af;have cM:¬(l.length<(l:Int)):=af;rw[ic]at H;have b2:Hid (pT C l=0):=aa (Uq C l fun j h2=>aL.o j h2 h2);have a7:=zT l;have bn:=aa (DG l);let⟨G,hG⟩:=aH (fH l);have bP:=aa hG;rw[hG]at H bn Z a7;have an:=aa H.o.lh;have cE:G.length<=1024:=af;let⟨cq,ak⟩:=Jh2 a7.2 (zS an.o);have br:=Ui U.heap.size _ wr H.o.mid.map (by rw[ak.o];omega);have bx:=aa br;have ci:Hid (∀i (h:i<G.length),jy (List.zipWith (fun(g:Sd×bF Int) (v:bE)=>(g.1,v)) G bv) i=G[i].1):=aa (fun i h=>by
    unfold jy;rw[List.getElem?_zipWith,dG h,dG (by rw[an.o];exact h)];rfl)
   clear br a7 hG aL;go_wp2_with(go_at_call 300;refine bx.o.bC ?_;rintro e w5⟨v5,Q,rfl,hQ,ap,c5⟩;have HQ:=aa hQ;have bb:Q.length=G.length:=(by have:=hQ.length_eq;rw[ak.o]at this;simpa using this);have cC:=aa bb;have co:=aa (Sl.own ww (l:=Q.map (jy (List.zipWith (fun(g:Sd×bF Int) (v:bE)=>(g.1,v)) G bv))) (by rw[cR];exact ap));obtain⟨n5,k5,rfl⟩:=bV ap;clear ap hQ);have ae:=aa (H.o.keep c5);have bc:=am.bu (c5.bC am.size);have aE:=bc.size;have cz:Hid (∀i∈Q,i<G.length):=aa fun i hi=>by have:=HQ.o.mem_iff.1 hi;rw[ak.o]at this;simpa using this
   let⟨i0,hi,I,cf,cn⟩:=wm oF;let⟨N,hN⟩:=aH G.length;have HN:=aa (bb.bu hN);have cF:N<=1024:=af;rw[hN];clear hN bb bx H;go_loopw[11,50] (fun vo vi wr2=>∃k:Nat,k<=N/\vi=k/\wr2.ownsRow w5 120 3 vo (my G Q k).length (bN df (my G Q k))/\Bw w5 wr2/\∀j (h:j<k) (h2:j<Q.length),(du (G.getD Q[j] zG).2).2=0) (fun _ vi _=>N-(intOf vi).toNat);exact⟨0,cH _,rfl,⟨by simp[bN,my],bS ⟨rfl,by simp[my]⟩⟩,bM _ _,fun j J=>xl J af⟩;obtain⟨k,hk,rfl,ab,F,aP⟩:=hrel;let⟨HO,aO⟩:=Jh2 ab aP;obtain⟨no,ko,rfl⟩:=bV ab;clear ab aP;by_cases aC:k<N
   ·have a9:k<Q.length:=by rw[HN.o];exact aC
    have a:Q[k]<G.length:=cz.o _ (cZ a9);let⟨a',bw,R,_,cy,ba,bz⟩:=co.o;rw[cR,HN.o]at R;let⟨e1,e2⟩:n5=a'/\k5=bw:=aG R;subst e1 e2;have ct:k<(Q.map (jy (List.zipWith (fun(g:Sd×bF Int) (v:bE)=>(g.1,v)) G bv))).length:=by rw[cR];exact a9
    obtain⟨b,a6,rfl,bm,aJ⟩:=bz af;let⟨q0,q1⟩:=IK (aJ k ct);rw[lj,ci.o _ a]at q0 q1;have r0:=(F.c (p:=(b,a6+k*2)) bm).bu q0;have r1:=(F.c (p:=(b,a6+k*2+1)) bm).bu q1;have ck:0<=(k:Int):=af;have ch:k<(N:Int):=af;unfold maxLen at ba;have aU:G.getD Q[k] zG=G[Q[k]]:=by rw[dy,dG a];rfl
    have aj:Hid (my G Q (k+1)=my G Q k++(gp G[Q[k]]).toList):=aa (by
     unfold my;rw[fj a9,jf,xz];simp only[eu,nH];rw[aU];cases hf:gp G[Q[k]]with
     |none=>simp[hf]
     |some y=>simp[hf])
    have cK:(my G Q k).length<=k:=by
     unfold my;refine bW (gK _ _) ?_;rw[cR,dx];omega
    have aT:=aa ((ae.o.keep F).alloc (bH (mw G[Q[k]].1) 382));have a4:=uk Bt underlying379 bd zeroValue45 _ U.heap.size _ G[Q[k]].1 aT.o.mid.map;have cx:Q[k]<bv.length:=by rw[an.o];exact a
    have aF:look G[Q[k]].1 (List.zipWith (fun(g:Sd×bF Int) (v:bE)=>(g.1,v)) G bv) 0=some (Q[k],bv[Q[k]]):=by
     rcases zr G[Q[k]].1 G bv 0 an.o with⟨h1,_⟩|⟨n,hn1,hn2,h1,h2,_⟩
     ·exfalso;have h3:=NL h1 (G[Q[k]].1,bv[Q[k]]) (by
       rw[List.mem_iff_getElem];exact⟨Q[k],by rw[ak.o];exact a,by rw[vz]⟩)
      exact h3 rfl
     ·obtain rfl:=Ut bn.o hn1 a h2;rw[h1,fW]
    rw[aF]at a4;have ad:=aT.o.mid.rows.own Q[k] cx (aG a);rw[lj]at ad;have E:ep G[Q[k]].2:=Z.o _ (cZ a);have aR:G[Q[k]].2.length<=1000000:=by have:=cq.o _ (cZ a);omega
    have al:Hid ((du G[Q[k]].2).2≠0->mx C l [] 2):=aa (fun h=>by
     unfold mx;rw[ya z.o,b2.o,ya au,bP.o,yc]
     ·exact⟨rfl,rfl⟩
     ·rw[jT];exact⟨_,cZ a,aG h⟩)
    have ai:Hid ((du G[Q[k]].2).2=0->∀j (h:j<k+1) (h2:j<Q.length),(du (G.getD Q[j] zG).2).2=0):=aa (fun h j J h2=>by
     rcases fA j k with h3|h3
     ·exact aO.o j h3 h2
     ·obtain rfl:j=k:=af;rw[aU];exact h)
    clear aJ q0 q1 bz R aU aF;generalize my G Q k=L at*;generalize bv[Q[k]]=vb at*;generalize G[Q[k]]=p at*;obtain⟨⟨pm,pa⟩,zs⟩:=p;dsimp only at a4 ad E aR al ai aj aT r0 r1;have hf:=bV ad;obtain⟨nb,kb,rfl⟩:=hf;change (Instr.lookup 379 (.map (some U.heap.size)) (.agg #[pm,pa]) false).run prog (aZ wr #[pm,pa] 382)=.ok (.slice nb zs kb) _ at a4
    have a1:=aa (mT _ zs _ (Sl.own kI ad) E aR);let⟨⟨t,er⟩,ht⟩:∃r,du zs=r:=⟨_,rfl⟩;have HT:=aa ht;rw[ht]at al ai;dsimp only at al ai;have HX:=aa (bI.new wr 382 (mw ⟨pm,pa⟩));have b6:=F.alloc F.size (bH (mw ⟨pm,pa⟩) 382);have bX:=aa (HO.o.alloc (bH (mw ⟨pm,pa⟩) 382));have aq:=Us zs;rw[ht]at aq;dsimp only at aq;clear ad E ht;by_cases bk:er=0
    rotate_left
    ·obtain rfl:er=2:=af;have HR:=aa (al.o ah);clear bk aq;go_wp2_with(go_at_call 230;refine a1.o.bC ?_;rintro e w7⟨rfl,c7⟩;rw[HT.o];have b7:=b6.bu (c7.bC b6.size));go_ret2;have b9:=bc.bu (b7.bC aE);exact⟨_,_,_,rfl,qC _ _ _ _ _,P.bu (b9.bC P.size),HR.o⟩
    ·subst bk;have bT:=aa (ai.o rfl);clear aq al ai;by_cases s:t=0
     ·have bh:(t !=0)=false:=aG s;have a5:Hid (my G Q (k+1)=L):=aa (by rw[aj.o,show gp (⟨pm,pa⟩,zs)=none from(by unfold gp;rw[HT.o,ya (aG s)])];simp);clear s aj;go_wp2_with(go_at_call 230;refine a1.o.bC ?_;rintro e w7⟨rfl,c7⟩;rw[HT.o];have b7:=b6.bu (c7.bC b6.size);have aK:=aa (cJ bX.o c7));go_roundw;exact⟨k+1,af,aw,by rw[a5.o];exact aK.o,b7,bT.o⟩;exact aV
     ·have bh:(t !=0)=true:=aG s;have a5:Hid (L++[⟨pm,pa,t⟩]=my G Q (k+1)):=aa (by rw[aj.o,show gp (⟨pm,pa⟩,zs)=some ⟨pm,pa,t⟩from(by unfold gp;rw[HT.o,yc (aG s)])];rfl);clear s aj;go_wp2_with(first|(go_at_call 230;refine a1.o.bC ?_;rintro e w7⟨rfl,c7⟩;rw[HT.o];have b7:=b6.bu (c7.bC b6.size);have aK:=aa (cJ bX.o c7);have bY:=aa (HX.o.keep c7);have z0:=bY.o.c 0;have z1:=bY.o.c 1)|(at_builtin;refine fG eG ah oE _ rfl _ _ 66 rfl w5 120 i0 (.agg #[(),(),()]) 24 underlying66 hi I cf cn aB (.slice no L ko) L rfl (aK.o.alloc _) (some (be w7 0)) 1 [⟨pm,pa,t⟩] rfl (Sl.fg df eG _ 120 _ aB _ rfl) Qaj QaX (b7.alloc b7.size (bH #[pm,pa,t] 120)).size ?_;intro v' w8 ab ac M;have b8:=(b7.alloc b7.size (bH #[pm,pa,t] 120)).grown ac (b7.alloc b7.size _).size (fun q hq=>(aK.o.lt q hq).1);rw[a5.o]at ab;obtain⟨n8,k8,rfl⟩:=bV ab;clear ac M));go_roundw;exact⟨k+1,af,aw,ab,b8,bT.o⟩;exact aV
   ·obtain rfl:k=N:=af;have cL:¬(k<(k:Int)):=af;have cp:Hid (my G Q k=(Q.map fun i=>G.getD i zG).filterMap gp):=aa (by unfold my;rw[eU (by rw[HN.o];exact bL _)]);have HR:Hid (mx C l (my G Q k) 0):=aa (by
     unfold mx;rw[ya z.o,b2.o,ya au,bP.o,ya]
     ·exact⟨rfl,Q,by have:=HQ.o;rw[ak.o]at this;exact this,cp.o⟩
     ·rw[jT];rintro⟨p,hp,he⟩
      obtain⟨i,hi,rfl⟩:=eW hp;have bR:i∈Q:=HQ.o.mem_iff.2 (by rw[ak.o];simpa using hi);let⟨j,J,cs⟩:=eW bR;have h3:=aO.o j (by rw[<-HN.o];exact J) J;rw[cs,dy,dG hi]at h3;simp at he;exact he h3)
    go_wp2;go_ret2;have b9:=bc.bu (F.bC aE);exact⟨_,_,_,rfl,d8 HO.o (bW P.size aE),P.bu (b9.bC P.size),HR.o⟩
structure DA where
 (gd gv gb gh gs gx:Nat)
 (vm vs vc vb vh vo um us uc vx vw vl:Value)
 dd:Int
structure DS where
 C:bZ
 bal:List Int
 holds:List RH
 bQ:List Ob
 cv:List Bd
 who:List Int
 (dt state:Int)
 nE:Bool
 log:List Ev
abbrev DA.cells(A:DA)(D:DS):Array Value:=Bo A.vm A.vs A.vc D.C A.gv A.gs A.gx A.vw D.dt D.state D.nE A.vl
structure cQ(w:World)(B:Nat)(A:DA)(D:DS):Prop where
 blk:bI w A.gd 138 (A.cells D)
 ct:iz w B A.vm A.vs A.vc D.C
 gC:gY w B A.gv A.gb A.gh A.vb A.vh D.C.mem (D.C.secs.length+1) D.bal A.dd D.C.mem D.holds
 fZ:fD w B A.gs A.vo D.bQ
 box:bI w A.gx 175 #[A.um,A.us,A.uc,D.C.line,D.C.capital,D.C.lead,D.C.cj,D.C.cv,A.vx]
 nF:iz w B A.um A.us A.uc D.C
 cv:w.ownsRow B 211 5 A.vx D.cv (bN gX D.cv)
 who:w.ownsRow B 3 1 A.vw D.who (bN eI D.who)
 log:w.ownsRow B 101 5 A.vl D.log (bN eE D.log)
 l1:B<=A.gd
 l2:B<=A.gx
structure cC(D:DS):Prop where
 ct:dz D.C
 bal:D.bal.length=(D.C.secs.length+1)*(6+3*D.C.mem.length)
 b64:ep D.bal
 holds:D.holds.length<=D.C.mem
 rise:fK RH.bR D.holds
 bQ:D.bQ.length<=1024
 fC:∀x∈D.bQ,bO x.cE
 who:D.who.length<=1000
variable{w':bD}{A:DA}{D:DS}
def cQ.keep(h:cQ w B A D)(c:Bw w w'):cQ w' B A D:=⟨h.blk.keep c,h.ct.keep c,h.gC.keep c,h.fZ.keep c,h.box.keep c,h.nF.keep c,cJ h.cv c,cJ h.who c,cJ h.log c,h.l1,h.l2⟩
def cQ.alloc(h:cQ w B A D)(o:Obj):cQ (w.alloc o) B A D:=h.keep aI
variable{C:bZ}
def iz.d{wd:bD}{vm vs vc:bE}(h:iz w B vm vs vc C)(e:wd.heap=w.heap:=by rfl):iz wd B vm vs vc C:=⟨lu h.m e,lu h.s e,lu h.c e⟩
def cQ.d{wd:bD}(h:cQ w B A D)(e:wd.heap=w.heap:=by rfl):cQ wd B A D:=⟨h.blk.d e,h.ct.d e,h.gC.d e,h.fZ.d e,h.box.d e,h.nF.d e,lu h.cv e,lu h.who e,lu h.log e,h.l1,h.l2⟩
def cQ.keepD{wd:bD}(h:cQ w B A D)(c:Bw wd w')(e:wd.heap=w.heap:=by rfl):cQ w' B A D:=(h.d e).keep c
def sW(c:Below w.drew w.drew w'):Bw w w':=⟨c.os,c.tape,c.output,c.size,c.block⟩
def cC.na(h:cC D):D.C.secs.length+1<=9:=by have:=h.ct.s2;omega
def cC.hn(h:cC D):D.holds.length<=1000:=by have:=h.ct.m2;have:=h.holds;omega
def DS.uF(D:DS)(a:Ac)(bK:Int):Int×Int:=jU D.C.mem (D.C.secs.length+1) D.bal a bK
def DS.eQ(D:DS)(a:Ac)(bK:Int):Int:=(D.uF a bK).1
def ru(h:cC D)(a:Ac)(bK:Int):bO (D.eQ a bK):=Hs h.b64 a bK
def ye(h:cQ w B A D)(ok:cC D)(a:Ac)(bK:Int):bG 137 #[ptr A.gd,fo a,bK] w (bi (D.eQ a bK) w):=Ow A.gd A.gv _ rfl a bK _ _ w h.blk fun W hW=>CR B A.gv A.gb A.gh A.vb A.vh _ _ ok.ct.m2 ok.na D.bal ok.bal A.dd _ D.holds a bK W (h.keep hW).gC
def Uv(h:cQ w B A D)(ok:cC D)(a:Ac)(bK:Int):bG 59 #[ptr A.gd,fo a,bK] w (bi (bg (D.uF a bK)) w):=Ov A.gd A.gv _ rfl a bK _ _ w h.blk fun W hW=>CR B A.gv A.gb A.gh A.vb A.vh _ _ ok.ct.m2 ok.na D.bal ok.bal A.dd _ D.holds a bK W (h.keep hW).gC
def IS(h:cQ w B A D)(ok:cC D)(n:Int)(hn:bO n):bG 213 #[ptr A.gd,n] w (bi (jt n (D.eQ ⟨1,0⟩ 0)) w):=by have z:Bw w (aZ w (cT ⟨1,0⟩) 81):=aI;let⟨N,b,I⟩:=Jh3 (ye (h.keep z) ok ⟨1,0⟩ 0) (ru ok ⟨1,0⟩ 0) hn;clear h hn;go_enter func213,ntmps213;go_wp2_with(first|(go_at_call 155;refine(mZ _).bC ?_;rintro e i⟨rfl,rfl⟩)|(go_at_call 137;refine N.o.bC ?_;rintro e k⟨rfl,f⟩;have t:=z.bu (f.bC z.size))|(go_at_call 166;refine(xJ n _ I.o b.o _).bC ?_;rintro e O⟨rfl,rfl⟩));go_ret;exact⟨rfl,t⟩
def DI(v:bE)(l:bF Lg)(w:bD)(hv:Sl df 3 w v l)(hn:l.length<=100000)(h64:∀x∈l,bO x.bJ):bG 214 #[v] w (bi (aY (ei l).1) w):=by have D:=aa (zM v l w hv hn h64);obtain⟨W,K,rfl,_⟩:=hv;clear hn h64;go_enter func214,ntmps214;go_wp2_with(go_at_call 245;refine D.o.bC ?_;rintro e i⟨rfl,b⟩);go_ret;exact⟨rfl,b⟩
def Uw(a:Int)(w:bD):bG 302 #[a] w (bj (aY (if a=0 then 288230376151711744 else 274877906944)) w):=by
 by_cases h:a=0
 ·have u:=beq_iff_eq.2 h;exact Qch
 ·have u:=xp.2 h;exact Qch
def wy(h:cQ w B A D)(s:Int)(g:Nat)(hg:bI w g 3 #[s]):bG 152 #[ptr A.gd,.slice (some (be g 0)) 1 1] w (bj (aY (if s=D.state then 0 else 11)) w):=by
 have p:=h.blk.c 13;have G:=aa (Tryz.slices_Contains_int g 0 1 1 [s] D.state w au af (fun j hj=>by
  have:j=0:=aG hj
  subst this;exact hg.c 0))
 have b:w.cell? (be A.gd 13)=D.state:=p;by_cases V:s=D.state
 ·have P:([s].take 1).contains D.state=true:=by simp[V]
  have q:Hid ((if s=D.state then(0:Int)else 11)=0):=aa (yc V);exact QaY
 ·have P:([s].take 1).contains D.state=false:=by simp[Ne.symm V]
  have q:Hid ((if s=D.state then(0:Int)else 11)=11):=aa (ya V);exact QaY
def DS.good(D:DS)(a:Int):List Lg:=rj D.bQ (rh D.who a)
def zU(h:cQ w B A D)(ok:cC D)(a:Int):bG 203 #[ptr A.gd,a] w (gP df 120 3 (D.good a) w):=by
 let⟨E,l⟩:=Jh2 h ok;let⟨u,J⟩:=h.blk.k2 9 11;have t:w.cell? (be A.gd 9)=some (ptr A.gs):=u;have g:=bV h.who;obtain⟨q,j,T⟩:=g;have C:w.cell? (be A.gd 11)=some (.slice q D.who j):=J.bu (by rw[<-T];rfl);have O:=aa T;have N:=ch t C;clear h ok u J T;go_enter func203,ntmps203;go_wp2;go_region_held3(fun W=>W.cell? (be A.gd 9)=some (ptr A.gs)/\W.cell? (be A.gd 11)=some (.slice q D.who j)) (first|exact N|exact x|exact R|assumption|go_keep)
  (first
   |(go_at_call 85;refine(wg B A.gs A.vo D.bQ _ E.o.fZ.d (by have:=l.o.bQ;omega)).bC ?_;rintro e V⟨y,rfl,Z,b⟩;have H:=aa (E.o.keepD b);have v:=aa (Sl.own il Z);have m:=aa b;obtain⟨s,K,rfl⟩:=bV Z;have x:=ch (H.o.blk.c 9) ((H.o.blk.c 11).bu (ym some O.o));clear Z b)
   |(go_at_call 246;refine(Rb _ _ D.bQ D.who a _ v.o (by have:=H.o.who;rw[O.o]at this;exact Sl.own kI this) (by have:=l.o.bQ;omega) l.o.who l.o.fC).bC ?_;rintro e p⟨G,rfl,Q,f⟩;have n:=aa (H.o.keepD f);have i:=aa Q;have k:=aa f;obtain⟨F,U,rfl⟩:=bV Q;have R:=ch (n.o.blk.c 9) ((n.o.blk.c 11).bu (ym some O.o));clear Q f))
 rename_i r;clear r N x R;go_wp2;go_ret;have z:=sW m.o;exact⟨_,rfl,d8 i.o z.size,z.bu (k.o.bC z.size)⟩
def Ux(x:Ob):bO (jW x).bJ:=by
 unfold jW;dsimp only;split
 ·assumption
 ·unfold bO;omega
def yf(l:bF Ob)(p:Ob->Bool):∀x∈rj l p,bO x.bJ:=by
 intro x j;unfold rj at j;let⟨y,B,V⟩:=acY.1 j;unfold oL at V;cases V
 exact Ux y
def Uy(l:bF Ob)(p:Ob->Bool):(rj l p).length<=l:=bW (gK _ _) (gK _ _)
def wA(ok:cC D)(a:Int):(D.good a).length<=1024:=bW (Uy _ _) ok.bQ
def DS.short(D:DS)(a:Int):Int:=(lI (D.eQ ⟨1,0⟩ a) (D.good a)).1
def zV(h:cQ w B A D)(ok:cC D)(a:Int):bG 162 #[ptr A.gd,a] w (bi (D.short a) w):=by
 have z:Bw w (aZ w (cT ⟨1,0⟩) 81):=aI;let⟨E,N,b,l⟩:=Jh4 (h.keep z) (ye (h.keep z) ok ⟨1,0⟩ a) (ru ok ⟨1,0⟩ a) ok;have q:Hid (D.short a=(lI (D.eQ ⟨1,0⟩ a) (D.good a)).1):=aa rfl;let⟨n,H⟩:=aH (D.eQ ⟨1,0⟩ a);rw[H]at N b q;clear h ok H;go_enter func162,ntmps162;go_wp2_with(first
  |(go_at_call 155;refine(mZ _).bC ?_;rintro e i⟨rfl,rfl⟩)
  |(go_at_call 137;refine N.o.bC ?_;rintro e k⟨rfl,f⟩;have t:=z.bu (f.bC z.size);have J:=aa (E.o.keep f))
  |(go_at_call 203;refine(zU J.o l.o a).bC ?_;rintro e O⟨C,rfl,S,F⟩;have V:=t.bu (F.bC t.size);have c:=aa (Sl.own eG S);obtain⟨d,u,rfl⟩:=bV S;clear S)
  |(go_at_call 202;refine(De n b.o _ (D.good a) _ c.o (by have:=wA l.o a;omega) (yf _ _)).bC ?_;rintro e X⟨rfl,p⟩;have G:=V.bu (p.bC V.size)))
 go_ret;exact⟨by rw[q.o];rfl,G⟩
def rv(a:Int):Int:=if a=0 then 288230376151711744 else 274877906944
def sX(bT:List Lg)(a:Int):Bool:=decide ((mc bT a).2.2≠0)||decide (rv a<(mc bT a).1)||decide (rv a<(mc bT a).2.1)
def wB(bT:List Lg)(a:Int):Bool:=decide ((mc bT a).1≠(mc bT a).2.1)
def qD(bT:List Lg)(k:Nat):Int:=if(List.range k).any (fun a:Nat=>wB bT (a:Int))then 17 else 0
def pU(n:Nat)(bT:List Lg):Int:=if(List.range n).any (fun a:Nat=>sX bT (a:Int))then 2 else qD bT n
def Uz(bT:bF Lg)(k:Nat):qD bT (k+1)=if wB bT (k:Int)then 17 else qD bT k:=by unfold qD;rw[xH,List.any_append];cases h:wB bT (k:Int)<;>simp[h]
def UA(h:cQ w B A D)(ok:cC D)(v:bE)(bT:bF Lg)(hv:Sl df 3 w v bT)(hn:bT.length<=100000)(h64:∀x∈bT,bO x.bJ/\x.bJ≠-9223372036854775808):bG 248 #[ptr A.gd,v] w (bi (pU (D.C.secs.length+1) bT) w):=by
 let⟨M,Z⟩:=Jh2 hv h64;obtain⟨n1,k1,rfl,_⟩:=hv;let⟨T,F,ad,_⟩:=h.ct.sl.s;have q1:w.cell? (be A.gd 1)=some (.slice T D.C.secs F):=(h.blk.c 1).bu (ym some ad);let⟨S,U⟩:=aH D.C.secs.length;have X:S<=8:=by rw[<-U];exact ok.ct.s2
 rw[U]at q1⊢;have H:wrap64 ((S:Int)+1)=((S+1:Nat):Int):=aC;have ag:IntKind.i64.wrap ((S:Int)+1)=((S+1:Nat):Int):=by rw[show(S:Int)+1=((S+1:Nat):Int) by omega];exact gI _ af
 let⟨N,f⟩:=aH (S+1);rw[f]at H ag⊢;have J:N<=9:=af;clear h ok ad U f h64;go_enter func248,ntmps248;go_wp2;go_loopw[5,17] (fun vr vi wr=>∃k:Nat,k<=N/\vi=k/\vr=.int .i64 (qD bT k)/\Bw w wr/\∀j:Nat,j<k->sX bT (j:Int)=false) (fun _ vi _=>N-(intOf vi).toNat);exact⟨0,cH _,rfl,rfl,bM _ _,fun j hj=>xl hj af⟩;obtain⟨k,hk,rfl,rfl,G,E⟩:=hrel;have ac:=aa E;clear E;by_cases ae:k<N
 ·have O:0<=(k:Int):=af;have ah:k<(N:Int):=af;have L:=aa (TX (.slice n1 bT.length k1) bT (k:Int) wr (M.o.keep G) hn Z.o);have P:Hid (∀W:bD,bG 302 #[aY (k:Int)] W (bj (aY (rv (k:Int))) W)):=aa fun W=>Uw (k:Int) W;have ab:=aa (Uz bT k);let⟨⟨I,cl,m⟩,hr⟩:∃r,mc bT (k:Int)=r:=⟨_,rfl⟩;have Y:Hid (sX bT (k:Int)=(decide (m≠0)||decide (rv (k:Int)<I)||decide (rv (k:Int)<cl))):=aa (by unfold sX;rw[hr]);have p:Hid (wB bT (k:Int)=decide (I≠cl)):=aa (by unfold wB;rw[hr]);have R:Hid (sX bT (k:Int)=true->pU N bT=2):=aa fun hb=>by
   unfold pU;rw[yc];rw[jT];exact⟨k,aG ae,hb⟩
  have y:Hid (sX bT (k:Int)=false->∀j:Nat,j<k+1->sX bT (j:Int)=false):=aa fun hb j hj=>by
   rcases fA j k with h|h
   ·exact ac.o j h
   ·obtain rfl:j=k:=af;exact hb
  let⟨ms,t⟩:=aH (rv (k:Int));rw[hr]at L;rw[t]at Y P;let⟨d,n⟩:=aH (qD bT k);rw[n]at ab⊢;clear hr t n;by_cases q:m=0
  rotate_left
  ·have d1:(m !=0)=true:=aG q;have HF:=aa (R.o (by rw[Y.o];simp[q]));clear q;exact Qau
  ·subst q;by_cases u:ms<I
   ·have Q:=dT u;have HF:=aa (R.o (by rw[Y.o];simp[u]));clear u;exact Qau
   ·have Q:=dF u;by_cases K:ms<cl
    ·have l:=dT K;have HF:=aa (R.o (by rw[Y.o];simp[K]));clear u K;exact Qau
    ·have l:=dF K;have HF:=aa (y.o (by rw[Y.o];simp[u,K]));by_cases t4:I=cl
     ·have d4:(I !=cl)=false:=aG t4;have HR:Hid (qD bT (k+1)=d):=aa (by rw[ab.o,p.o];simp[t4]);exact QaE
     ·have d4:(I !=cl)=true:=aG t4;have HR:Hid (qD bT (k+1)=17):=aa (by rw[ab.o,p.o];simp[t4]);exact QaE
 ·obtain rfl:k=N:=af;have i:¬(k<(k:Int)):=af;have HF:Hid (pU k bT=qD bT k):=aa (by
   unfold pU;rw[ya];rw[jT];rintro⟨a,ha,hb⟩
   rw[ac.o a (aG ha)]at hb;cases hb)
  go_wp2;go_ret;exact⟨by rw[HF.o];rfl,G⟩
def DS.yg(D:DS)(m:Int):Int:=(oK D.C.mem (D.C.secs.length+1) D.holds D.bal ⟨8,m⟩ 0).1
def UB(h:cQ w B A D)(ok:cC D)(m:Int):bG 250 #[ptr A.gd,m] w (bi (D.yg m) w):=by
 let⟨E,l⟩:=Jh2 h ok;have i:w.cell? (be A.gd 8)=some (ptr A.gv):=h.blk.c 8;have q:Hid (D.yg m=(oK D.C.mem (D.C.secs.length+1) D.holds D.bal ⟨8,m⟩ 0).1):=aa rfl;clear h ok;go_enter func250,ntmps250;go_wp2;go_region_held3(fun W=>W.cell? (be A.gd 8)=some (ptr A.gv)) (first|exact i|exact I|exact a|assumption|go_keep)
  (first
   |(go_at_call 138;refine(pK m _).bC ?_;rintro e V⟨rfl,rfl⟩;have H:=aa ((E.o.d (wd:=w.drew)).alloc (bH (cT ⟨8,m⟩) 81));have I:=H.o.blk.c 8)
   |(go_at_call 307;refine(wc B A.gv A.gb A.gh A.vb A.vh _ _ l.o.ct.m2 l.o.na D.bal l.o.bal l.o.b64 A.dd _ D.holds l.o.hn ⟨8,m⟩ 0 _ H.o.gC).bC ?_;rintro e g⟨rfl,f⟩;have n:=aa (H.o.keep f);have b:=aa f;have a:=n.o.blk.c 8;clear f))
 rename_i r;clear r I a;go_wp2;go_ret;have z:Bw w (w.drew.alloc (bH (cT ⟨8,m⟩) 81)):=((bM w w).drew).alloc (bL _) _;exact⟨by rw[q.o];rfl,z.bu (b.o.bC z.size)⟩
def oV(C:bZ)(a:Int):Int:=if fX C a then((C.secs[(a-1).toNat]?).map (·.cF)).getD 0 else 1
def IT(vm vs vc:bE)(C:bZ)(w:bD)(hc:dM w vm vs vc C)(i:Int):
  bG 144 #[eT vm vs vc C,i] w fun e w'=>∃x:Sc,e=.returned (.tuple #[vD x,aY (if fX C i then 0 else 10)])/\(fX C i->x.cF=oV C i)/\Bw w w':=by
 by_cases h:fX C i
 ·have c:=h;unfold fX at h;obtain⟨k,rfl⟩:∃k:Nat,i=(k:Int)+1:=⟨(i-1).toNat,af⟩;refine(F9 vm vs vc C w hc k af).bC fun _ _ ⟨he,hb⟩=>⟨_,by rw[yc c];exact he,fun _=> ?_,hb⟩;unfold oV;rw[yc c,show((k:Int)+1-1).toNat=k by omega,dG af];rfl
 ·exact(Gb vm vs vc C w hc i (by unfold fX at h;omega)).bC fun _ _ ⟨he,hb⟩=>⟨_,by rw[ya h];exact he,fun c=>xl c h,hb⟩
def qE(h:bI w A.gd 138 (A.cells D)):S8 A.gd A.vm A.vs A.vc D.C w:=⟨h.c 0,h.c 1,h.c 2,h.c 3,h.c 4,h.c 5,h.c 6,h.c 7⟩
variable{X:bD}{o:Obj}
def UC{x1:bD}(c:Below (X.alloc o).drew.heap.size (X.alloc o).drew x1):Bw X x1:=by have b:Bw X (X.alloc o):=aI;exact b.bu ((sW c).bC b.size)
def yh(C:bZ)(m:Int)(n:Int)(x:Ob):Int:=if x.mem=m then wrap64 (n+wrap64 (x.cE*oV C x.bK))else n
def DS.risk(D:DS)(m:Int):Int:=(D.bQ.filterMap wh).foldl (yh D.C m) 0
def rx(C:bZ)(m:Int)(l:List Ob)(k:Nat):Int:=(l.take k).foldl (yh C m) 0
def UD(C:bZ)(m:Int)(l:bF Ob)(k:Nat)(h:k<l):rx C m l (k+1)=yh C m (rx C m l k) l[k]:=by unfold rx;rw[fj h,rX];rfl
def UE(ok:cC D):(D.bQ.filterMap wh).length<=1024:=bW (gK _ _) ok.bQ
def UF(h:cQ w B A D)(ok:cC D)(m:Int):bG 252 #[ptr A.gd,m] w (bi (D.risk m) w):=by
 have HD:=aa h;have q9:w.cell? (be A.gd 9)=some (ptr A.gs):=h.blk.c 9;have aj:=aa (QO B A.gs A.vo D.bQ w h.fZ aU);have S:=UE ok;have q:Hid (D.risk m=rx D.C m (D.bQ.filterMap wh) (D.bQ.filterMap wh).length):=aa (by unfold rx;rw[ic];rfl);let⟨l,t⟩:=aH (D.bQ.filterMap wh);rw[t]at aj q S;clear h ok t;go_enter func252,ntmps252;go_wp2_with(go_at_call 311;refine aj.o.bC ?_;rintro e i⟨v1,rfl,o1,c1⟩;have HS:=aa (Sl.own il o1);have P:=aa (HD.o.keep c1);obtain⟨n1,K,rfl⟩:=bV o1;clear o1);go_loopw[5,17] (fun vn vi wr=>∃k:Nat,k<=l.length/\vi=k/\vn=.int .i64 (rx D.C m l k)/\Bw i wr) (fun _ vi _=>l.length-(intOf vi).toNat);exact⟨0,cH _,rfl,rfl,bM _ _⟩;obtain⟨k,hk,rfl,rfl,ab⟩:=hrel;by_cases ag:k<l.length
 ·obtain⟨F,al,b,ap,rfl,_,ak⟩:=(HS.o.keep ab).hd;let⟨v,r1,r2,r3,r4,r5⟩:=oA (ak k ag);have O:0<=(k:Int):=af;have an:k<(l:Int):=af;unfold maxLen at al;have j:=aa (UD D.C m l k ag);clear ak;let⟨rk,n⟩:=aH (rx D.C m l k);rw[n]at j⊢;generalize l[k]=x at*;clear n;have cA:Bw wr (aZ wr (gE x) 71):=aI;have u:=ab.bu (cA.bC ab.size);let⟨T,ac⟩:=Jh2 (bI.new wr 71 (gE x)) (P.o.keep u);by_cases Z:x.mem=m
  rotate_left
  ·have d1:(x.mem !=m)=true:=aG Z;have I:Hid (rx D.C m l (k+1)=rk):=aa (by rw[j.o];unfold yh;rw[ya Z]);clear Z;go_wp2;go_roundw;exact⟨k+1,af,aw,by rw[I.o],u⟩;exact aV
  ·have d1:(x.mem !=m)=false:=aG Z;have I:Hid (rx D.C m l (k+1)=wrap64 (rk+wrap64 (x.cE*oV D.C x.bK))):=aa (by rw[j.o];unfold yh;rw[yc Z]);clear Z j;have x2:=T.o.c 2;have am:=qE ac.o.blk;obtain⟨p0,p1,Y,p3,p4,p5,p6,p7⟩:=am;have N:=ch p0 (ch p1 (ch Y (ch p3 (ch p4 (ch p5 (ch p6 (ch p7 x2)))))));clear p0 p1 Y p3 p4 p5 p6 p7;let⟨y,hy⟩:∃y:Int,(if fX D.C x.bK then(0:Int)else 10)=y:=⟨_,rfl⟩;have U:=aa hy;go_wp2_with fail;generalize hX:wr.alloc (bH #[x.cycle,x.mem,x.bK,x.cE,x.done,x.cN] 71)=X at*;have f:=aa (show A.gd≠X from by have:=ac.o.blk.lt;omega);have Q:=aa (show wr.heap.size≠X from by have:=T.o.lt;omega);have a:Bw i X:=u;have g:i.heap.size<=X:=a.size;clear hX hy cA v r1 r2 r3 r4 r5;go_region_held3(fun W=>W.cell? (be A.gd 0)=some (A.vm)/\W.cell? (be A.gd 1)=some (A.vs)/\W.cell? (be A.gd 2)=some (A.vc)/\W.cell? (be A.gd 3)=D.C.line/\W.cell? (be A.gd 4)=D.C.capital/\W.cell? (be A.gd 5)=D.C.lead/\W.cell? (be A.gd 6)=D.C.cj/\W.cell? (be A.gd 7)=D.C.cv/\W.cell? (be wr 2)=x.bK) (first|exact N|exact ah|exact R|assumption|go_keep)
    (first
     |(go_at_call 144;refine(IT A.vm A.vs A.vc D.C _ (by first|exact ac.o.ct.sl.d|exact(ac.o.alloc _).ct.sl.d) x.bK).bC ?_;rintro e V⟨L,rfl,s,c1⟩;rw[U.o];have HP:=aa s;have L1:=aa (show Bw X V from by first|exact sW c1|exact UC c1);have H:=aa (show cQ V B A D from by first|exact ac.o.keepD c1|exact(ac.o.alloc _).keepD c1);have X1:=aa (show bI V wr 71 (gE x)from by first|exact T.o.keepD c1|exact(T.o.alloc _).keepD c1);(try(have M:=(show bI V X 127 #[(),()]from(bI.new X 127 #[(),()]).keepD c1);have n0:=M.c 0;have n1:=M.c 1;have z:=M.free 0;have f1:=M.free 1;clear M));have ah:=(fun(h:S8 A.gd A.vm A.vs A.vc D.C V)=>ch h.1 (ch h.2.1 (ch h.2.2.1 (ch h.2.2.2.1 (ch h.2.2.2.2.1 (ch h.2.2.2.2.2.1 (ch h.2.2.2.2.2.2.1 (ch h.2.2.2.2.2.2.2 (X1.o.c 2))))))))) (qE H.o.blk);have R:=(fun(h:S8 A.gd A.vm A.vs A.vc D.C ((V.setCell (be X 0) L.cF).setCell (be X 1) L.cap)) (hx:((V.setCell (be X 0) L.cF).setCell (be X 1) L.cap).cell? (be wr 2)=x.bK)=>ch h.1 (ch h.2.1 (ch h.2.2.1 (ch h.2.2.2.1 (ch h.2.2.2.2.1 (ch h.2.2.2.2.2.1 (ch h.2.2.2.2.2.2.1 (ch h.2.2.2.2.2.2.2 hx)))))))) (qE ((H.o.blk.far (k:=X.heap.size) 0 L.cF f.o).far (k:=X.heap.size) 1 L.cap f.o)) (((X1.o.far (k:=X.heap.size) 0 L.cF Q.o).far (k:=X.heap.size) 1 L.cap Q.o).c 2);clear s c1))
   all_goals
    rename_i r;have J:=a.bu (L1.o.bC a.size);let⟨ai,ae,G,aq⟩:=Jt4 ((J.setCell (p:=(be X 0)) g L.cF).setCell (p:=(be X 1)) g L.cap) (J.alloc J.size (bH #[L.cF,L.cap] 127)) ((X1.o.alloc (bH #[L.cF,L.cap] 127)).c 3) (((X1.o.far (k:=X.heap.size) 0 L.cF Q.o).far (k:=X.heap.size) 1 L.cap Q.o).c 3);clear r N ah R H X1 L1;by_cases E:fX D.C x.bK
    ·obtain rfl:y=0:=by rw[<-U.o,yc E]
     have ad:Hid (L.cF=oV D.C x.bK):=aa (HP.o E);clear E;go_wp2;go_roundw;exact⟨k+1,af,aw,by rw[I.o,<-ad.o],by first|exact ai|exact ae⟩;exact aV
    ·obtain rfl:y=10:=by rw[<-U.o,ya E]
     have ad:Hid (oV D.C x.bK=1):=aa (by unfold oV;rw[ya E]);clear E;go_wp2;go_roundw;exact⟨k+1,af,aw,by rw[I.o,ad.o,Int.mul_one],by first|exact ai|exact ae⟩;exact aV
 ·obtain rfl:k=l.length:=af;have ao:¬(l.length<(l:Int)):=af;go_wp2;go_ret;exact⟨by rw[q.o];rfl,c1.bu (ab.bC c1.size)⟩
end
section
variable {B:Nat} {TS:List TypeId} {K:List Nat} {w w' w1 w2:World}
variable{ms:Nat}{bal:bF Int}{holds:bF RH}
def gY.cu{gv gb gh:Nat}{vb vh:bE}{na:Nat}{dd room:Int}(h:gY w B gv gb gh vb vh ms na bal dd room holds)(m:cg B TS K w w')(h1:184∉TS)(h2:224∉TS)(h3:2∉TS)(h4:227∉TS)(h5:333∉TS):gY w' B gv gb gh vb vh ms na bal dd room holds:=⟨h.blk.cu m h1,⟨h.book.blk.cu m h2,dq h.book.own m h3⟩,h.hblk.cu m h4,dq h.hown m h5,h.l1,h.l2,h.l3⟩
def fD.cu{gs:Nat}{vo:bE}{l:bF Ob}(h:fD w B gs vo l)(m:cg B TS K w w')(h1:186∉TS)(h2:71∉TS):fD w' B gs vo l:=⟨h.blk.cu m h1,dq h.own m h2,h.l1⟩
abbrev DTS:List TypeId:=[138,184,227,333,186,71,101,175,211]
def dS(w:World)(K:List Nat)(A:DA):Prop:=∀k∈K,(∃cs,bI w k 101 cs)/\A.vl.ownBlock≠some k
variable{A:DA}
def dS.lt(h:dS w K A):∀k∈K,k<w.heap.size:=fun k hk=>by obtain⟨⟨cs,hc⟩,_⟩:=h k hk;exact hc.lt
variable{g:Nat}{T:TypeId}{cs:Array bE}
def dS.blk(h:dS w K A)(hb:bI w g T cs)(hT:T≠101):g∉K:=fun hg=>by
 obtain⟨⟨c2,hc⟩,_⟩:=h g hg;unfold bI at hb hc;rw[hb]at hc;simp at hc;exact hT hc.2
variable{n:Nat}{xs:bF bE}
def dS.own{base:Nat}{e:TypeId}{sz:Nat}{x:bE}(h:dS w K A)(ho:w.ownsRow base e sz x n xs)(hT:e≠101):∀k,x.ownBlock=some k->k∉K:=fun k hk hkK=>by
 obtain⟨⟨c2,hc⟩,_⟩:=h k hkK;exact fp hc ho (Ne.symm hT) k hk rfl
def dS.log(h:dS w K A):∀k,A.vl.ownBlock=some k->k∉K:=fun k hk hkK=>(h k hkK).2 hk
def dS.keep(h:dS w K A)(c:Bw w w'):dS w' K A:=fun k hk=>by
 obtain⟨⟨cs,hc⟩,h2⟩:=h k hk;exact⟨⟨cs,hc.keep c⟩,h2⟩
def dS.d{wd:bD}(h:dS w K A)(e:wd.heap=w.heap:=by rfl):dS wd K A:=fun k hk=>by
 let⟨⟨a,P⟩,c⟩:=h k hk;exact⟨⟨a,P.d e⟩,c⟩
structure cL(B:Nat)(K:List Nat)(w w':World)(A A':DA)(D':DS):Prop where
 at':cQ w' B A' D'
 mod:cg B DTS K w w'
 gd:A'.gd=A.gd
 gv:A'.gv=A.gv
 gs:A'.gs=A.gs
 gx:A'.gx=A.gx
 goes:kP w A.vl A'.vl
variable {A A1 A2 A':DA} {D D1 D2 D':DS}
def dS.step(h:dS w K A)(s:cL B K w w' A A' D'):dS w' K A':=fun k hk=>by
 obtain⟨⟨cs,hc⟩,h2⟩:=h k hk;refine⟨⟨cs,(s.mod.far k hc.lt (ci (bS hk))).bu hc⟩, ?_⟩;rcases s.goes with e|⟨j,hj,e⟩
 ·rw[e];exact h2
 ·rw[e];have:=hc.lt
  intro e2;simp at e2;omega
variable{v:bE}
def kP.trans{v1 v2:bE}(h:kP w v v1)(h2:kP w1 v1 v2)(hs:w.heap.size<=w1):kP w v v2:=by
 rcases h2 with e|⟨k,hk,e⟩
 ·rcases h with e1|⟨j,hj,e1⟩
  ·exact bS (e.bu e1)
  ·exact ci ⟨j,hj,e.bu e1⟩
 ·exact ci ⟨k,bW hs hk,e⟩
def kP.bu:=@kP.trans
def cL.trans(s:cL B K w w1 A A1 D1)(t:cL B K w1 w2 A1 A2 D2):cL B K w w2 A A2 D2:=⟨t.at',s.mod.bu t.mod,t.gd.bu s.gd,t.gv.bu s.gv,t.gs.bu s.gs,t.gx.bu s.gx,s.goes.bu t.goes s.mod.size⟩
def cL.bu:=@cL.trans
def cL.same(h:cQ w B A D)(c:Bw w w'):cL B K w w' A A D:=⟨h.keep c,cg.below c,rfl,rfl,rfl,rfl,bS rfl⟩
def cL.keep(s:cL B K w w1 A A1 D1)(c:Bw w1 w2):cL B K w w2 A A1 D1:=s.bu (cL.same s.at' c)
def cL.before(s:cL B K w1 w2 A A1 D1)(c:Bw w w1):cL B K w w2 A A1 D1:=⟨s.at',(cg.below c).bu s.mod,s.gd,s.gv,s.gs,s.gx,s.goes.later c.size⟩
def cQ.dg{c s:Int}{e:Bool}(h:cQ w B A D)(m:cg B [138] K w w')(hb:bI w' A.gd 138 (A.cells {D with dt:=c,state:=s,nE:=e})):cL B K w w' A A {D with dt:=c,state:=s,nE:=e}:=⟨⟨hb,h.ct.cu m ah ah ah,h.gC.cu m ah ah ah ah ah,h.fZ.cu m ah ah,h.box.cu m ah,h.nF.cu m ah ah ah,dq h.cv m ah,dq h.who m ah,dq h.log m ah,h.l1,h.l2⟩,m.bC ah,rfl,rfl,rfl,rfl,bS rfl⟩
def cQ.UG(h:cQ w B A D)(c:Int)(hK:A.gd∉K):cL B K w (w.setCell (be A.gd 12) c) A A {D with dt:=c}:=h.dg (cg.set h.blk au h.l1 hK) (h.blk.set 12 c)
def cQ.setState(h:cQ w B A D)(c:Int)(hK:A.gd∉K):cL B K w (w.setCell (be A.gd 13) c) A A {D with state:=c}:=h.dg (cg.set h.blk au h.l1 hK) (h.blk.set 13 c)
def cQ.UH(h:cQ w B A D)(c:Bool)(hK:A.gd∉K):cL B K w (w.setCell (be A.gd 14) (.bool c)) A A {D with nE:=c}:=h.dg (cg.set h.blk au h.l1 hK) (h.blk.set 14 (.bool c))
def cQ.UI{l:bF Int}(h:cQ w B A D)(ho:w.ownsRow B 3 1 v l (bN eI l))(hK:A.gd∉K):cL B K w (w.setCell (be A.gd 11) v) A {A with vw:=v} {D with who:=l}:=by have m:cg B [138] K w (w.setCell (be A.gd 11) v):=cg.set h.blk au h.l1 hK;exact⟨⟨h.blk.set 11 v,h.ct.cu m ah ah ah,h.gC.cu m ah ah ah ah ah,h.fZ.cu m ah ah,h.box.cu m ah,h.nF.cu m ah ah ah,dq h.cv m ah,dq ho m ah,dq h.log m ah,h.l1,h.l2⟩,m.bC ah,rfl,rfl,rfl,rfl,bS rfl⟩
def cQ.DK{vo:bE}{bQ:bF Ob}(h:cQ w B A D)(m:cg B [186,71] K w w')(hs:fD w' B A.gs vo bQ):cL B K w w' A {A with vo:=vo} {D with bQ:=bQ}:=⟨⟨h.blk.cu m ah,h.ct.cu m ah ah ah,h.gC.cu m ah ah ah ah ah,hs,h.box.cu m ah,h.nF.cu m ah ah ah,dq h.cv m ah,dq h.who m ah,dq h.log m ah,h.l1,h.l2⟩,m.bC ah,rfl,rfl,rfl,rfl,bS rfl⟩
def cQ.told{vl:bE}{log:bF Ev}(h:cQ w B A D)(t:zm w w' B A.gd 138 (A.cells D) 15 A.vl log K vl):cL B K w w' A {A with vl:=vl} {D with log:=log}:=have m:=t.mod;⟨⟨t.blk,h.ct.cu m ah ah ah,h.gC.cu m ah ah ah ah ah,h.fZ.cu m ah ah,h.box.cu m ah,h.nF.cu m ah ah ah,dq h.cv m ah,dq h.who m ah,t.own,h.l1,h.l2⟩,m.bC ah,rfl,rfl,rfl,rfl,t.goes⟩
def cQ.IU{gb:Nat}{vb:bE}{dd:Int}(h:cQ w B A D)(m:cg B [184] K w w')(hv:gY w' B A.gv gb A.gh vb A.vh D.C.mem (D.C.secs.length+1) bal dd D.C.mem D.holds):cL B K w w' A {A with gb:=gb,vb:=vb,dd:=dd} {D with bal:=bal}:=⟨⟨h.blk.cu m ah,h.ct.cu m ah ah ah,hv,h.fZ.cu m ah ah,h.box.cu m ah,h.nF.cu m ah ah ah,dq h.cv m ah,dq h.who m ah,dq h.log m ah,h.l1,h.l2⟩,m.bC ah,rfl,rfl,rfl,rfl,bS rfl⟩
def cQ.IV{vh:bE}(h:cQ w B A D)(m:cg B [227,333] K w w')(hv:gY w' B A.gv A.gb A.gh A.vb vh D.C.mem (D.C.secs.length+1) D.bal A.dd D.C.mem holds):cL B K w w' A {A with vh:=vh} {D with holds:=holds}:=⟨⟨h.blk.cu m ah,h.ct.cu m ah ah ah,hv,h.fZ.cu m ah ah,h.box.cu m ah,h.nF.cu m ah ah ah,dq h.cv m ah,dq h.who m ah,dq h.log m ah,h.l1,h.l2⟩,m.bC ah,rfl,rfl,rfl,rfl,bS rfl⟩
def cQ.UJ(h:cQ w B A D)(hK:A.gx∉K):cL B K w (w.setCell (be A.gx 8) bd) A {A with vx:=.slice none 0 0} {D with cv:=[]}:=by have m:cg B [175] K w (w.setCell (be A.gx 8) bd):=cg.set h.box au h.l2 hK;exact⟨⟨h.blk.cu m ah,h.ct.cu m ah ah ah,h.gC.cu m ah ah ah ah ah,h.fZ.cu m ah ah,h.box.set 8 _,h.nF.cu m ah ah ah,⟨aK,bS ⟨rfl,rfl⟩⟩,dq h.who m ah,dq h.log m ah,h.l1,h.l2⟩,m.bC ah,rfl,rfl,rfl,rfl,bS rfl⟩
end
section
attribute [local go_sem ↓] wp_at_zero wp_at_succ
structure kT(w:World)(B g:Nat)(room:Int)(v:Value)(l:List Tm):Prop where
 blk:bI w g 150 #[room,v]
 own:w.ownsRow B 197 4 v l (bN fB l)
 l1:B<=g
variable{w w':bD}{B g:Nat}{v:bE}{l:bF Tm}
def kT.keep{room:Int}(h:kT w B g room v l)(c:Bw w w'):kT w' B g room v l:=⟨h.blk.keep c,cJ h.own c,h.l1⟩
def UK{room:Int}(h:kT w B g room v l)(hn:l.length<=9000):bG 168 #[ptr g] w (IE l w):=by have a:=bV h.own;obtain⟨W,K,rfl⟩:=a;have Z:=h.blk.c 1;have D:=aa (IF _ l w (Sl.own mj h.own) hn);clear h;go_enter func168,ntmps168;go_wp2_with(go_at_call 196;refine D.o.bC ?_;rintro e i⟨d,P,rfl,s,j,J,u⟩;rw[cR]at J;have Q:=aa J;have b:=aa s;have T:=aa j;obtain⟨f,U,rfl⟩:=bV J;clear J s j);go_ret;exact⟨_,P,rfl,b.o,T.o,by rw[cR];exact Q.o,u⟩
def DL(g:Nat)(lb:Array Value)(p:Tm->Bool)(w:World):Prop:=∀(W:World) (x:Tm),Bw w W->Calls prog g (#[kM x]++lb) W (bi (.bool (p x)) W)
def IW{α:Type}(p:α->Bool)(l:bF α)(k:Nat)(h:k<l):(l.take (k+1)).filter p=(l.take k).filter p++(if p l[k]then[l[k]]else[]):=by rw[fj h,yQ];congr 1;simp only[List.filter_cons,List.filter_nil]
def oW(u v:Value):Prop:=u.ownBlock=none∨u.ownBlock≠v.ownBlock
variable{u:bE}
def oW.symm(h:oW u v):oW v u:=by
 rcases h with h|h
 ·cases hv:v.ownBlock with
  |none=>exact bS hv
  |some g=>exact ci (by rw[h,hv];simp)
 ·exact ci (Ne.symm h)
variable{n:Nat}{xs:bF bE}
def yi{T k:Nat}(ho:w.ownsRow B T k u n xs)(hg:w.grownBy w' v.ownBlock)(ha:oW u v):w'.ownsRow B T k u n xs:=
 ed ho fun g hgu=>hg.block g (ho.lt g hgu).2 (by
  intro e;rcases ha with h|h
  ·rw[h]at hgu;cases hgu
  ·exact h (by rw[hgu,e]))
def yj{T k:Nat}{v':bE}(ho:w.ownsRow B T k u n xs)(ha:oW u v)(hat:v'.ownBlock=v.ownBlock∨v'.ownBlock=some w.heap.size):oW u v':=by
 rcases hat with e|e
 ·unfold oW;rw[e];exact ha
 ·cases hu:u.ownBlock with
  |none=>exact bS hu
  |some g=>
   refine ci ?_;rw[hu,e];have:=(ho.lt g hu).2
   intro h;simp at h;omega
def IX(w:World)(v:Value):Prop:=∀k,v.ownBlock=some k->w.heap.size<=k
def UL(B g:Nat)(room:Int)(l:List Tm)(K:List Nat)(p:Tm->Bool)(w:World)(e:Ending)(w':World):Prop:=∃v u P,e=.returned u/\P.Perm (List.range (l.filter p).length)/\ro ((l.filter p).map gT) P/\w'.ownsRow w 197 4 u (P.map fun i=>(l.filter p).getD i oS).length (bN fB (P.map fun i=>(l.filter p).getD i oS))/\kT w' B g room v (l.filter fun x=> !p x)/\IX w v/\cg B [150] K w w'
def IY{room:Int}(h:kT w B g room v l)(hn:l.length<=9000)(K:bF Nat)(hK:g∉K)(hB:B<=w.heap.size)(f:Nat)(lb:Array bE)(eg:∀args w,(callFunc f args).run prog w=.ok (.enter f args) w)(p:Tm->Bool)(hp:DL f lb p w):bG 157 #[ptr g,.func (.func f) #[] lb] w (UL B g room l K p w):=by
 let⟨HW,HP⟩:=Jh2 h hp;have hf:=bV h.own;obtain⟨n1,k1,rfl⟩:=hf;have p1:=h.blk.c 1;have HS:=aa (Sl.own mj h.own);let⟨i0,hi,S,X,ar⟩:=wm xS;have c1:Bw w w:=bM _ _;clear h hp;go_enter func157,ntmps157;go_wp2;go_loopw[5,6,16] (fun x5 x6 vi wr=>∃(k:Nat) (j ul:bE),k<=l.length/\vi=k/\j=x5/\ul=x6/\wr.ownsRow w.heap.size 197 4 j ((l.take k).filter p).length (bN fB ((l.take k).filter p))/\wr.ownsRow w.heap.size 197 4 ul ((l.take k).filter fun x=> !p x).length (bN fB ((l.take k).filter fun x=> !p x))/\oW j ul/\Bw w wr) (fun _ _ vi _=>l.length-(intOf vi).toNat);exact⟨0,_,_,cH _,rfl,rfl,rfl,⟨aK,bS ⟨rfl,rfl⟩⟩,⟨aK,bS ⟨rfl,rfl⟩⟩,bS rfl,bM _ _⟩;obtain⟨k,j,ul,hk,rfl,rfl,rfl,ao,an,aq,ad⟩:=hrel;let⟨ak,ai⟩:=Jh2 ao an;obtain⟨ng,z,rfl⟩:=bV ao;obtain⟨n,kl,rfl⟩:=bV an;have R:=aa aq;clear ao an aq;by_cases am:k<l
 ·obtain⟨F,az,b,aL,rfl,_,ax⟩:=(HS.o.keep ad).hd;let⟨r0,r1,r2,r3⟩:=sr (ax k am);have O:0<=(k:Int):=af;have aF:k<(l:Int):=af;unfold maxLen at az;have ag:=aa (IW p l k am);have d:=aa (IW (fun x=> !p x) l k am);have E:((l.take k).filter p).length<=k:=bW (mO _ _) aM;have av:((l.take k).filter fun x=> !p x).length<=k:=bW (mO _ _) aM;clear ax;generalize(l.take k).filter p=G at*
  generalize((l.take k).filter fun x=> !p x)=L at*
  generalize l[k]=x at*;have C:Bw wr (aZ wr (dL x) 197):=aI;have u:=ad.bu (C.bC ad.size);let⟨HX,ap⟩:=Jh2 (bI.new wr 197 (dL x)) (HP.o (aZ wr (dL x) 197) x u);let⟨y,hy⟩:=aH (p x);have HY:=aa hy;rw[hy]at ag d;clear hy;cases y with
  |true=>
   have HN:Hid (G++[x]=(l.take (k+1)).filter p):=aa (by rw[ag.o];rfl);have HM:Hid (L=(l.take (k+1)).filter fun x=> !p x):=aa (by rw[d.o];simp);clear ag d;go_wp2_with(first|(go_at_fn f;refine ap.o.bC ?_;rintro e w2⟨rfl,c2⟩;rw[HY.o];have t:=u.bu (c2.bC u.size);have ae:=aa (HX.o.keep c2);have x0:=ae.o.c 0;have x1:=ae.o.c 1;have x2:=ae.o.c 2;have x3:=ae.o.c 3;have V:=t.alloc t.size (bH (dL x) 197);have OG:=aa ((cJ (cJ ak.o C) c2).alloc (bH (dL x) 197));have OL:=aa ((cJ (cJ ai.o C) c2).alloc (bH (dL x) 197)))|(at_builtin;refine fG mj ah sq _ rfl _ _ 148 rfl w.heap.size 197 i0 (.agg #[(),(),(),()]) 32 underlying148 hi S X ar aB (.slice ng G z) G rfl OG.o (some (be w2 0)) 1 [x] rfl (Sl.fg fB mj _ 197 _ aB _ rfl) (by show G.length+1<=maxLen;unfold maxLen;omega) (by show(G.length+1)*32<=_;omega) V.size ?_;intro v' w4 ac ab M;have b4:=V.grown ab V.size (fun q hq=>(OG.o.lt q hq).1);have H:=aa (yi OL.o ab R.o.symm);have al:=aa ((yj OL.o R.o.symm M).symm);rw[HN.o]at ac;have D:=aa ac;obtain⟨n6,k6,rfl⟩:=bV ac;clear ab M ac));go_roundw;exact⟨k+1,_,_,af,aw,rfl,rfl,D.o,by rw[<-HM.o];exact H.o,al.o,b4⟩;exact aV
  |false=>
   have HN:Hid (L++[x]=(l.take (k+1)).filter fun x=> !p x):=aa (by rw[d.o];rfl);have HM:Hid (G=(l.take (k+1)).filter p):=aa (by rw[ag.o];simp);clear ag d;go_wp2_with(first|(go_at_fn f;refine ap.o.bC ?_;rintro e w2⟨rfl,c2⟩;rw[HY.o];have t:=u.bu (c2.bC u.size);have ae:=aa (HX.o.keep c2);have x0:=ae.o.c 0;have x1:=ae.o.c 1;have x2:=ae.o.c 2;have x3:=ae.o.c 3;have V:=t.alloc t.size (bH (dL x) 197);have OG:=aa ((cJ (cJ ak.o C) c2).alloc (bH (dL x) 197));have OL:=aa ((cJ (cJ ai.o C) c2).alloc (bH (dL x) 197)))|(at_builtin;refine fG mj ah sq _ rfl _ _ 148 rfl w.heap.size 197 i0 (.agg #[(),(),(),()]) 32 underlying148 hi S X ar aB (.slice n L kl) L rfl OL.o (some (be w2 0)) 1 [x] rfl (Sl.fg fB mj _ 197 _ aB _ rfl) Qaj (by show(L.length+1)*32<=_;omega) V.size ?_;intro v' w4 ac ab M;have b4:=V.grown ab V.size (fun q hq=>(OL.o.lt q hq).1);have D:=aa (yi OG.o ab R.o);have al:=aa (yj OG.o R.o M);rw[HN.o]at ac;have H:=aa ac;obtain⟨n6,k6,rfl⟩:=bV ac;clear ab M ac));go_roundw;exact⟨k+1,_,_,af,aw,rfl,rfl,by rw[<-HM.o];exact D.o,H.o,al.o,b4⟩;exact aV
 ·obtain rfl:k=l.length:=af;have aJ:¬(l.length<(l:Int)):=af;rw[ic]at ak ai;have aj:=HW.o.keep ad;have aG:=aj.blk.c 1;have aN:=aj.blk.free 1;have A:=aa aj;have aA:(l.filter p).length<=9000:=bW (mO _ _) hn;have I:∀{q:bE} {m:Nat} {xs:bF bE},wr.ownsRow w.heap.size 197 4 q m xs->(wr.setCell (be g 1) (.slice n ((l.filter fun x=> !p x)).length kl)).ownsRow w.heap.size 197 4 q m xs:=fun{q m xs} ho=>ed ho fun k hk=>fV _ _ _ _ (fp A.o.blk ho ah k hk);let⟨a,W⟩:=Jh2 (I ak.o) (I ai.o);have Z:=aa (A.o.blk.set 1 (.slice n ((l.filter fun x=> !p x)).length kl));have aC:=aa ((cg.below (B:=B) (TS:=[150]) (K:=K) ad).bu (cg.set (i:=1) (x:=.slice n ((l.filter fun x=> !p x)).length kl) A.o.blk au A.o.l1 hK));have aD:=aa (IF _ (l.filter p) _ (Sl.own mj a.o) aA);have ay:=ad.size;have av:=A.o.l1;clear aj I;go_wp2_with(go_at_call 196;refine aD.o.bC ?_;rintro e w6⟨v6,P,rfl,T,U,J,s⟩;rw[cR]at J;have N:=aa J;have Y:=aa T;have aE:=aa U;have Q:=aa s;obtain⟨n6,k6,rfl⟩:=bV J;clear J T U s);go_ret;have r:w.heap.size<=(wr.setCell (be g 1) (.slice n ((l.filter fun x=> !p x)).length kl)).heap.size:=by simpa[World.setCell]using ay
  refine⟨_,_,P,rfl,Y.o,aE.o,by rw[cR];exact d8 N.o r,⟨Z.o.keep Q.o,cJ (d8 W.o hB) Q.o,av⟩,fun k hk=>(W.o.lt k hk).1,aC.o.bu (cg.below Q.o)⟩
def UM:∀args w,(callFunc 158 args).run prog w=.ok (.enter 158 args) w:=enters_of func158 aj rfl
def UN:∀args w,(callFunc 205 args).run prog w=.ok (.enter 205 args) w:=enters_of func205 aj rfl
def kq(cq mem:Int)(x:Tm):Bool:=decide (x.cq=cq)&&decide (x.mem=mem)
def UO(g1 g2:Nat)(cq mem:Int)(w:bD)(h1:bI w g1 3 #[cq])(h2:bI w g2 3 #[mem]):DL 158 #[ptr g1,ptr g2] (kq cq mem) w:=by
 intro W x I;have C:Bw W (aZ W (dL x) 197):=aI;have Z:=((h1.keep I).keep C).c 0;have Y:=((h2.keep I).keep C).c 0;have q:Hid (kq cq mem x=(decide (x.cq=cq)&&decide (x.mem=mem))):=aa rfl;show bG 158 #[kM x,ptr g1,ptr g2] W _;clear h1 h2;by_cases a:x.cq=cq
 ·by_cases r:x.mem=mem
  ·have b:=beq_iff_eq.2 a;have Q:=beq_iff_eq.2 r;have p:Hid (kq cq mem x=true):=aa (by rw[q.o];simp[a,r]);clear a r;exact Qbl
  ·have b:=beq_iff_eq.2 a;have Q:=xp.2 r;have p:Hid (kq cq mem x=false):=aa (by rw[q.o];simp[r]);clear a r;exact Qbl
 ·have b:=xp.2 a;have p:Hid (kq cq mem x=false):=aa (by rw[q.o];simp[a]);clear a;exact Qbl
def IZ(B g:Nat)(room:Int)(l:List Tm)(K:List Nat)(p:Tm->Bool)(r:Int)(w:World)(e:Ending)(w':World):Prop:=∃v,e=.returned r/\kT w' B g room v (l.filter fun x=> !p x)/\IX w v/\cg B [150] K w w'
def UP{room:Int}(h:kT w B g room v l)(hn:l.length<=9000)(K:bF Nat)(hK:g∉K)(hB:B<=w)(cq mem:Int):bG 111 #[ptr g,cq,mem] w (IZ B g room l K (kq cq mem) (l.filter (kq cq mem)).length w):=by
 let⟨c,a⟩:=aH ((w.alloc (bH #[cq] 3)).alloc (bH #[mem] 3));have b:Bw w c:=by rw[<-a];exact aI.alloc au _
 have z:bI c w 3 #[cq]:=by rw[<-a];exact(bI.new w 3 _).alloc _
 have t:bI c (w.heap.size+1) 3 #[mem]:=by rw[<-a];exact heap_alloc2_new _ _ _
 let⟨u,A⟩:=Jh2 (IY (h.keep b) hn K hK (bW hB b.size) 158 #[ptr w,ptr (w.heap.size+1)] UM (kq cq mem) (UO _ _ cq mem c z t)) a;let⟨N,f⟩:=aH ((l.filter (kq cq mem)).length);have I:=aa f;rw[f];clear h z t a f;go_enter func111,ntmps111;go_wp2_with fail;rw[show(w.alloc (bH #[cq] 3)).alloc (bH #[mem] 3)=c from A.o];go_wp2_with(go_at_call 157;refine u.o.bC ?_;rintro e i⟨G,u2,P,rfl,s,j,J,T,W,Z⟩;have L:=aa T;have d:=aa Z;have H:Hid (P.length=N):=aa Qcy;rw[cR]at J;obtain⟨m,U,rfl⟩:=bV J;rw[H.o];clear s j J T Z);exact Qba
def UQ(g1:Nat)(t:Tm)(w:bD)(h1:bI w g1 197 (dL t)):DL 205 #[ptr g1] (fun x=>decide (x=t)) w:=by
 intro W x I;have C:Bw W (aZ W (dL x) 197):=aI;have m:=(h1.keep I).keep C;let⟨j,Z,Y,y⟩:=m.k4 0 1 2 3;show bG 205 #[kM x,ptr g1] W (bi (.bool (decide (x=t))) W);clear h1 m;by_cases V:x=t
 ·have p:Hid (decide (x=t)=true):=aa (decide_eq_true V);rw[p.o];subst V;exact QaM
 ·have p:Hid (decide (x=t)=false):=aa (decide_eq_false V);have D:=aa (GN V);clear V;rw[p.o];obtain⟨l,d,F,a⟩:=x;obtain⟨i,S,b,c⟩:=t;dsimp only at D;rcases D.o with h|⟨e1,h⟩|⟨e1,e2,h⟩|⟨e1,e2,e3,h⟩
  ·have u:=xp.2 h;clear h D;exact QaM
  ·have u:=xp.2 h;clear h D;subst e1;exact QaM
  ·have u:=xp.2 h;clear h D;subst e1 e2;exact QaM
  ·have u:=xp.2 h;clear h D;subst e1 e2 e3;exact QaM
def iJ(t:Tm)(x:Tm):Bool:=decide (x=t)
def UR{room:Int}(h:kT w B g room v l)(hn:l.length<=9000)(K:bF Nat)(hK:g∉K)(hB:B<=w)(t:Tm):bG 169 #[ptr g,kM t] w (IZ B g room l K (iJ t) (if t∈l then 0 else 8) w):=by
 let⟨c,a⟩:=aH (w.alloc (bH (dL t) 197));have b:Bw w c:=by rw[<-a];exact aI
 have z:bI c w 197 (dL t):=by rw[<-a];exact bI.new w 197 _
 let⟨u,A⟩:=Jh2 (IY (h.keep b) hn K hK (bW hB b.size) 205 #[ptr w.heap.size] UN (iJ t) (UQ _ t c z)) a;let⟨N,f⟩:=aH ((l.filter (iJ t)).length);have I:=aa f;have S:t∈l↔N≠0:=by
  rw[<-f];constructor
  ·intro Z O;have:t∈l.filter (iJ t):=tU.2 ⟨Z,by unfold iJ;simp⟩
   rw[List.length_eq_zero_iff.1 O]at this;simp at this
  ·intro O;let⟨x,j⟩:=List.exists_mem_of_length_pos (Nat.pos_of_ne_zero O);let⟨Q,r⟩:=tU.1 j;unfold iJ at r;rw[<-of_decide_eq_true r];exact Q
 clear h z a f;by_cases O:N=0
 ·have q:Hid ((if t∈l then(0:Int)else 8)=8):=aa (ya (fun Z=>S.1 Z O));clear S;rw[q.o];go_enter func169,ntmps169;go_wp2_with fail;rw[show w.alloc (bH #[t.dh,t.cq,t.mem,t.fY] 197)=c from A.o];go_wp2_with(go_at_call 157;refine u.o.bC ?_;rintro e n⟨G,u2,P,rfl,s,j,J,T,W,Z⟩;have L:=aa T;have d:=aa Z;have H:Hid (P.length=0):=aa (by have:=s.length_eq;rw[rZ,I.o,O]at this;exact this);rw[cR]at J;obtain⟨p,U,rfl⟩:=bV J;rw[H.o];clear s j J T Z);exact Qba
 ·have q:Hid ((if t∈l then(0:Int)else 8)=0):=aa (yc (S.2 O));have m:((N:Int)==0)=false:=aG O;have i:¬(N:Int)=0:=af;clear S;rw[q.o];go_enter func169,ntmps169;go_wp2_with fail;rw[show w.alloc (bH #[t.dh,t.cq,t.mem,t.fY] 197)=c from A.o];go_wp2_with(go_at_call 157;refine u.o.bC ?_;rintro e n⟨G,u2,P,rfl,s,j,J,T,W,Z⟩;have L:=aa T;have d:=aa Z;have H:Hid (P.length=N):=aa Qcy;rw[cR]at J;obtain⟨p,U,rfl⟩:=bV J;rw[H.o];clear s j J T Z);exact Qba
def zW(S:List Tm)(now:Int):Option Tm:=match S with
 |[]=>none
 |t::_=>if now<t.dh then none else some t
def mz(l:List Tm)(P:List Nat)(now:Int):Option Tm:=zW (P.map fun i=>l.getD i oS) now
def zX(l:List Tm)(o:Option Tm):List Tm:=match o with
 |none=>l
 |some t=>l.filter fun x=> !iJ t x
variable{TS:bF TypeId}{K:bF Nat}{W:bD}{T:TypeId}{cs:Array bE}
def I4{w2:bD}(h:pJ w2 w T cs W)(b:Bw w w2):cg B TS K w W:=⟨h.mod.os.bu b.os,h.mod.tape.bu b.tape,h.mod.output.bu b.output,by rw[h.size];exact b.size,fun k hk _=>(h.far k af).bu (b.block k hk)⟩
def US{w3:bD}(m:cg B TS K w w3)(h:pJ w3 w T cs W):cg B TS K w W:=⟨h.mod.os.bu m.os,h.mod.tape.bu m.tape,h.mod.output.bu m.output,by rw[h.size];exact m.size,fun k hk hc=>(h.far k af).bu (m.far k hk hc)⟩
def UT{b off c:Nat}{t:Tm}{r:bF Tm}(h:Sl fB 4 W (.slice (some (b,off)) n c) (t::r)):W.cell? (b,off)=t.dh/\W.cell? (b,off+1)=t.cq/\W.cell? (b,off+2)=t.mem/\W.cell? (b,off+3)=t.fY:=by
 obtain⟨Y,z,R,_,F,f,L⟩:=h;let⟨g,a,ha,y,d⟩:=L au;have e:b=g/\off=a:=by
  have:=R
  rw[ha]at this;simp at this;exact⟨this.1.1,this.1.2⟩
 obtain⟨rfl,rfl⟩:=e;let⟨A,E,H,B⟩:=sr (d 0 au);rw[Nat.zero_mul,gg]at A E H B;exact⟨A,E,H,B⟩
structure GA where
 (gr gt gu:Nat)
 (vm vs vc vt vu:Value)
structure GS where
 C:bZ
 cj:List RT
 used:List RU
 dW:Int
structure fu(w:World)(B:Nat)(A:GA)(D:GS):Prop where
 blk:bI w A.gr 144 (zg A.vm A.vs A.vc D.C A.gt A.gu D.dW)
 ct:iz w B A.vm A.vs A.vc D.C
 qe:bI w A.gt 188 #[D.C.cj,A.vt]
 pw:bI w A.gu 191 #[(D.C.cj*D.C.bU.length:Int),A.vu]
 cj:w.ownsRow B 163 7 A.vt D.cj (bN eO D.cj)
 used:w.ownsRow B 268 2 A.vu D.used (bN gn D.used)
 l1:B<=A.gr
 l2:B<=A.gt
 l3:B<=A.gu
def fu.keep{A:GA}{D:GS}(h:fu w B A D)(c:Bw w w'):fu w' B A D:=⟨h.blk.keep c,h.ct.keep c,h.qe.keep c,h.pw.keep c,cJ h.cj c,cJ h.used c,h.l1,h.l2,h.l3⟩
structure oX(D:GS):Prop where
 ct:dz D.C
 tn:D.cj.length<=64
 un:D.used.length<=256
 tr:fK RT.bR D.cj
 ur:fK RU.bR D.used
def DM(g:Nat)(v:bE)(room:Int)(l:bF RT)(w:bD)(hb:bI w g 188 #[room,v])(hv:Sl eO 7 w v l)(hn:l.length<=1000000):bG 84 #[ptr g] w (ki eO 163 7 l w):=by have Z:=hb.c 1;have M:=aa hv;obtain⟨a,U,rfl,_⟩:=hv;clear hb;go_enter func84,ntmps84;go_wp2_with(go_at_call 120;refine(MN _ l _ M.o hn).bC ?_;rintro e i⟨f,rfl,h,b⟩);exact QcR
def ry(x:RT):Option Tr:=some ⟨x.id,x.dD,x.dE,x.cP,x.cK,x.cF⟩
def GS.list(D:GS):List Tr:=D.cj.filterMap ry
def I5{A:GA}{D:GS}(h:fu w B A D)(ok:oX D):bG 50 #[ptr A.gr] w (gP uh 58 6 D.list w):=by
 have p8:w.cell? (be A.gr 8)=some (ptr A.gt):=h.blk.c 8;have HR:=aa (DM A.gt A.vt _ D.cj w h.qe (Sl.own nK h.cj) QcZ);have H:=ok.tn;have K:Hid (D.list=D.cj.filterMap ry):=aa rfl;let⟨J,p,S,X,Y⟩:=wm ML;rw[K.o];generalize D.cj=l at*;clear h ok K;go_enter func50,ntmps50;go_wp2_with(go_at_call 84;refine HR.o.bC ?_;rintro e i⟨v1,rfl,r,a⟩;have hf:=bV r;obtain⟨W,k1,rfl⟩:=hf);have HS:=aa (Sl.own nK r);have R:=a;have ad:=R.size;clear r a HR;go_loopw[3,14] (fun vo vi wr=>∃k:Nat,k<=l.length/\vi=k/\wr.ownsRow i 58 6 vo ((l.take k).filterMap ry).length (bN uh ((l.take k).filterMap ry))/\Bw i wr) (fun _ vi _=>l.length-(intOf vi).toNat);exact⟨0,cH _,rfl,⟨aK,bS ⟨rfl,rfl⟩⟩,bM _ _⟩;obtain⟨k,hk,rfl,r,u⟩:=hrel;have Q:=aa r;obtain⟨V,d,rfl⟩:=bV r;clear r;by_cases z:k<l
 ·obtain⟨F,ab,b,m,rfl,_,n⟩:=(HS.o.keep u).hd;let⟨v,s,P,r3,r4,r5,r6⟩:=vF (n k z);have O:0<=(k:Int):=af;have C:k<(l:Int):=af;unfold maxLen at ab;have E:=aa (pN ry l k z);have Z:((l.take k).filterMap ry).length<=k:=bW (gK _ _) aM;clear n;generalize(l.take k).filterMap ry=L at*
  generalize l[k]=x at*;have t:=u.alloc u.size (bH (lF x) 163);let⟨T,N⟩:=Jh2 (bI.new wr 163 (lF x)) (Q.o.alloc (bH (lF x) 163))
  ·have f:True:=trivial;have I:Hid (L++[⟨x.id,x.dD,x.dE,x.cP,x.cK,x.cF⟩]=(l.take (k+1)).filterMap ry):=aa (by rw[E.o,show ry x=some ⟨x.id,x.dD,x.dE,x.cP,x.cK,x.cF⟩from rfl];rfl);clear E;go_wp2_with(first|(at_builtin;refine fG Bh ah MK _ rfl _ _ 49 rfl i 58 J (.agg #[(),(),(),(),(),()]) 48 underlying49 p S X Y aB (.slice V L d) L rfl (N.o.alloc _) (some (be (wr.heap.size+1) 0)) 1 [⟨x.id,x.dD,x.dE,x.cP,x.cK,x.cF⟩] rfl (Sl.fg uh Bh _ 58 _ aB _ au) Qaj Qb7 (t.alloc t.size (bH #[x.id,x.dD,x.dE,x.cP,x.cK,x.cF] 58)).size ?_;intro j w2 r y M;have G:=(t.alloc t.size (bH #[x.id,x.dD,x.dE,x.cP,x.cK,x.cF] 58)).grown y (t.alloc t.size _).size (fun q hq=>(N.o.lt q hq).1);rw[I.o]at r;obtain⟨n2,U,rfl⟩:=bV r;clear y M));go_roundw;exact⟨k+1,af,aw,r,G⟩;exact aV
 ·obtain rfl:k=l.length:=af;have ac:¬(l.length<(l:Int)):=af;have g:l.take l.length=l:=eU (bL _);rw[g]at Q;go_wp2;go_ret;exact⟨_,rfl,d8 Q.o R.size,R.bu (u.bC R.size)⟩
def yk{A:GA}{D:GS}(h:fu w B A D)(ok:oX D)(id:Int):bG 146 #[ptr A.gr,id] w (bi (.bool (dJ RU.bR D.used id)) w):=by
 have u:w.cell? (be A.gr 9)=some (ptr A.gu):=h.blk.c 9;have H:=aa (PR A.gu _ A.vu D.used id w h.pw (Sl.own vW h.used) (by have:=ok.un;omega) ok.ur);clear h ok;let⟨y,a⟩:=aH (dJ RU.bR D.used id);have U:=aa a;let⟨z,d⟩:∃z:Int,(if dJ RU.bR D.used id then(0:Int)else 8)=z:=⟨_,rfl⟩;have Y:=aa d;have f:(z==0)=y:=by
  rw[<-d,a];cases y<;>rfl
 clear a d;go_enter func146,ntmps146;go_wp2_with(go_at_call 182;refine H.o.bC ?_;rintro e i⟨x,rfl,_,b⟩;rw[Y.o]);go_ret;exact⟨by rw[U.o];rfl,b⟩
structure ny(t:Tr):Prop where
 fit:kQ t
 val:(eA t).2=0
 v0:0<=(eA t).1/\(eA t).1<=288230376151711744
 q0:0<=t.cK/\t.cK<=274877906944
def eB(t:Tr):List Lg:=[⟨t.dD,0,(eA t).1⟩,⟨t.dD,t.cP,-t.cK⟩,⟨t.dE,0,-(eA t).1⟩,⟨t.dE,t.cP,t.cK⟩]
def UU(t:Tr)(w:World)(e:Ending)(w':World):Prop:=∃b,e=.returned (.tuple #[.slice (some ⟨b,0,none⟩) 4 4,()])/\w'.ownsRow w 120 3 (.slice (some ⟨b,0,none⟩) 4 4) 4 (bN df (eB t))/\Bw w w'
def UV(t:Tr)(h:ny t)(w:bD):bG 253 #[pG t] w (UU t w):=by have C:Bw w (aZ w (ek t) 58):=aI;have M:=aa (Cn t h.fit (aZ w (ek t) 58));let⟨⟨v,q⟩,R⟩:∃r,eA t=r:=⟨_,rfl⟩;let⟨d,j,x⟩:=Jt3 h.val h.v0 h.q0;rw[R]at d j;dsimp only at d j;subst d;have b:=aa R;have p:Hid (eB t=[⟨t.dD,0,v⟩,⟨t.dD,t.cP,-t.cK⟩,⟨t.dE,0,-v⟩,⟨t.dE,t.cP,t.cK⟩]):=aa (by unfold eB;rw[R]);have W:dK (-v)=(-v,0):=uf aJ;have B:dK (-t.cK)=(-t.cK,0):=uf aJ;let⟨a,D⟩:=Jh2 W B;have G:bO v:=aJ;have l:bO t.cK:=aJ;let⟨f,g,N⟩:=Jh3 G l (bI.new w 58 (ek t));rw[R]at M;have Z:=aa ((N.o).alloc (bH (ek t) 58));let⟨P,z,n,V,m,I⟩:_/\_/\_/\_/\_/\_:=⟨Z.o.c 0,Z.o.c 1,Z.o.c 2,Z.o.c 3,Z.o.c 4,Z.o.c 5⟩;clear h R j x W B G l;go_enter func253,ntmps253;go_wp2_with(first|(go_at_call 181;refine M.o.bC ?_;rintro e i⟨rfl,rfl⟩)|(go_at_call 312;(first|(refine(sj v f.o _).bC ?_;rintro e k⟨rfl,rfl⟩;rw[a.o])|(refine(sj t.cK g.o _).bC ?_;rintro e k⟨rfl,rfl⟩;rw[D.o]))));go_ret2;have u:=bI.new ((w.alloc (bH (ek t) 58)).alloc (bH (ek t) 58)) 120 #[t.dD,(),v,t.dD,t.cP,(-t.cK:Int),t.dE,(),(-v:Int),t.dE,t.cP,t.cK];have L:((w.alloc (bH (ek t) 58)).alloc (bH (ek t) 58)).heap.size=w.heap.size+1+1:=au;rw[L]at u;refine⟨_,rfl,⟨by rw[p.o];rfl,ci ⟨w.heap.size+1+1,4,_,rfl,af,u,bL _,az,rfl,by rw[p.o];rfl⟩⟩,((C.alloc C.size _).alloc aA _)⟩
def GS.fd(D:GS):List Lg:=D.list.flatMap eB
def pV(l:List Tr)(k:Nat):List Lg:=(l.take k).flatMap eB
def UW(l:bF Tr)(k:Nat)(h:k<l):pV l (k+1)=pV l k++eB l[k]:=by unfold pV;rw[fj h,List.flatMap_append];simp
def UX(l:bF Tr)(k:Nat):(pV l k).length<=4*k:=by
 unfold pV;have:∀(m:bF Tr),(m.flatMap eB).length=4*m.length:=by
  intro m;induction m with
  |nil=>rfl
  |cons x m ih=>
   rw[xC,cO,ih];show 4+4*m.length=4*(m.length+1);omega
 rw[this,dx];omega
def UY{A:GA}{D:GS}(h:fu w B A D)(ok:oX D)(hg:∀t∈D.list,ny t):bG 207 #[ptr A.gr] w (gP df 120 3 D.fd w):=by
 have HT:=aa (I5 h ok);have hl:D.list.length<=64:=bW (gK _ _) ok.tn;have H:=aa hg;have K:Hid (D.fd=pV D.list D.list):=aa (by unfold pV;rw[ic];rfl);let⟨J,p,S,X,ab⟩:=wm oF;rw[K.o];generalize D.list=l at*;clear h ok hg K;go_enter func207,ntmps207;go_wp2_with(go_at_call 50;refine HT.o.bC ?_;rintro e i⟨v1,rfl,a,Y⟩;have HS:=aa (Sl.own Bh a);obtain⟨W,k1,rfl⟩:=bV a;clear a);go_loopw[3,11] (fun vo vi wr=>∃k:Nat,k<=l.length/\vi=k/\wr.ownsRow i 120 3 vo (pV l k).length (bN df (pV l k))/\Bw i wr) (fun _ vi _=>l.length-(intOf vi).toNat);exact⟨0,cH _,rfl,⟨by simp[bN,pV],bS ⟨rfl,rfl⟩⟩,bM _ _⟩;obtain⟨k,hk,rfl,a,r⟩:=hrel;have HO:=aa a;obtain⟨V,d,rfl⟩:=bV a;clear a;by_cases E:k<l
 ·obtain⟨F,c,b,m,rfl,_,n⟩:=(HS.o.keep r).hd;let⟨v,s,r2,r3,r4,r5⟩:=MM (n k E);have O:0<=(k:Int):=af;have C:k<(l:Int):=af;unfold maxLen at c;have R:=aa (UW l k E);have Z:=UX l k;have T:=aa (H.o _ (cZ E));clear n;generalize pV l k=L at*;generalize l[k]=x at*;have cA:Bw wr (aZ wr (ek x) 58):=aI;have u:=r.bu (cA.bC r.size);let⟨U,I⟩:=Jh2 (HO.o.alloc (bH (ek x) 58)) (UV x T.o (aZ wr (ek x) 58));go_wp2_with(first|(go_at_call 253;refine I.o.bC ?_;rintro e w2⟨b2,rfl,Q,f⟩;have g:=u.bu (f.bC u.size);have N:=aa (cJ U.o f);have z:=aa (Sl.own eG (l:=eB x) Q);clear Q f)|(at_builtin;refine fG eG ah oE _ rfl _ _ 66 rfl i 120 J (.agg #[(),(),()]) 24 underlying66 p S X ab aB (.slice V L d) L rfl N.o (some (be b2 0)) 4 (eB x) rfl z.o (by show L.length+4<=maxLen;unfold maxLen;omega) (by show(L.length+4)*24<=_;omega) g.size ?_;intro j w4 a y M;have G:=g.grown y g.size (fun q hq=>(N.o.lt q hq).1);rw[<-R.o]at a;obtain⟨P,k6,rfl⟩:=bV a;clear y M));go_roundw;exact⟨k+1,af,aw,a,G⟩;exact aV
 ·obtain rfl:k=l.length:=af;have ac:¬(l.length<(l:Int)):=af;go_wp2;go_ret;exact⟨_,rfl,d8 HO.o Y.size,Y.bu (r.bC Y.size)⟩
abbrev GTS:List TypeId:=[144,188,191,163,268]
structure jz(B:Nat)(K:List Nat)(w w':World)(A A':GA)(D':GS):Prop where
 at':fu w' B A' D'
 mod:cg B GTS K w w'
 gr:A'.gr=A.gr
def fu.cu{A:GA}{D:GS}(h:fu w B A D)(m:cg B TS K w w')(h1:144∉TS)(h2:188∉TS)(h3:191∉TS)(h4:163∉TS)(h5:268∉TS)(h6:125∉TS)(h7:127∉TS)(h8:63∉TS):fu w' B A D:=⟨h.blk.cu m h1,h.ct.cu m h6 h7 h8,h.qe.cu m h2,h.pw.cu m h3,dq h.cj m h4,dq h.used m h5,h.l1,h.l2,h.l3⟩
def GS.next(D:GS):GS:={D with cj:=[],dW:=0}
def UZ{A:GA}{D:GS}(h:fu w B A D)(ok:oX D)(hK:A.gr∉K)(hB:B<=w):bG 173 #[ptr A.gr] w fun e w'=>∃A',e=.returned (.tuple #[])/\jz B K w w' A A' D.next:=by have z:=aa h;have p:w.cell? (be A.gr 6)=D.C.cj:=h.blk.c 6;have I:=aa (Gc D.C.cj (by have:=ok.ct.cj;omega) w);clear h ok;go_enter func173,ntmps173;go_wp2_with(go_at_call 64;refine I.o.bC ?_;rintro e i⟨gt,rfl,a,d,b⟩;have j:=aa a;have r:=aa (z.o.keep b);have t:=aa b;have g:=aa d;have l:i.cell? (be A.gr 8)=some (ptr A.gt):=r.o.blk.c 8;have f:i.frozen? (be A.gr 8)=false:=r.o.blk.free 8;have k:=aa (r.o.blk.set 8 (ptr gt));have S:(i.setCell (be A.gr 8) (ptr gt)).cell? (be A.gr 10)=D.dW:=k.o.c 10;have s:(i.setCell (be A.gr 8) (ptr gt)).frozen? (be A.gr 10)=false:=k.o.free 10;clear a d b);go_end0;have v:cg B [144] K i (i.setCell (be A.gr 8) (ptr gt)):=cg.set r.o.blk au r.o.l1 hK;have T:cg B [144] K (i.setCell (be A.gr 8) (ptr gt)) ((i.setCell (be A.gr 8) (ptr gt)).setCell (be A.gr 10) (aY 0)):=cg.set k.o au r.o.l1 hK;have m:=v.bu T;exact⟨{A with gt:=gt,vt:=.slice none 0 0},rfl,⟨⟨k.o.set 10 (aY 0),r.o.ct.cu m ah ah ah,j.o.cu m ah,r.o.pw.cu m ah,⟨by simp[GS.next,bN],bS ⟨rfl,rfl⟩⟩,dq r.o.used m ah,r.o.l1,bW hB g.o,r.o.l3⟩,(cg.below t.o).bu (m.bC ah),rfl⟩⟩
end
def I6(t:Tr)(h:kQ t)(w:bD):bG 184 #[pG t] w (bi (aY (eA t).1) w):=by have a:Bw w ((w.alloc (bH (ek t) 58)).alloc (bH (ek t) 58)):=aI.alloc au _;have D:=aa h;clear h;go_enter func184,ntmps184;go_wp2_with fail;refine(Cn t D.o _).bC ?_;rintro e i⟨rfl,rfl⟩;go_wp2;go_ret;exact⟨rfl,a⟩
def iT(s:Int)(t:Tr):Int:=if t.cP=s then t.cK else 0
def U0(s:Int)(t:Tr)(w:bD):bG 185 #[.agg #[s],pG t] w (bi (iT s t) w):=by
 by_cases h:t.cP=s
 ·have f:Hid (iT s t=t.cK):=aa (by unfold iT;rw[yc h]);have a:(t.cP !=s)=false:=aG h;exact Qa2
 ·have f:Hid (iT s t=0):=aa (by unfold iT;rw[ya h]);have a:(t.cP !=s)=true:=aG h;exact Qa2
section
attribute [local go_sem ↓] wp_at_zero wp_at_succ
def iK(x:RT):Tr:=⟨x.id,x.dD,x.dE,x.cP,x.cK,x.cF⟩
def gV(f:Tr->Int)(eD:Int)(l:List RT)(k:Nat):List Int:=eD::(l.take k).map fun x=>f (iK x)
def I7(f:Tr->Int)(eD:Int)(l:bF RT)(k:Nat)(h:k<l):gV f eD l (k+1)=gV f eD l k++[f (iK l[k])]:=by unfold gV;rw[fj h,jf];rfl
def zY(f:Tr->Int)(eD:Int)(l:bF RT)(k:Nat):(gV f eD l k).length<=k+1:=by unfold gV;simp;omega
variable{B:Nat}{w:bD}
def U1{A:GA}{D:GS}(h:fu w B A D)(ok:oX D)(eD:Int)(hm:bO eD)(hf:∀x∈D.cj,kQ (iK x))(h64:∀x∈D.cj,bO ((fun t=>(eA t).1) (iK x))):bG 183 #[ptr A.gr,.func (.func 184) #[] #[],eD] w (bi (bg (du (gV (fun t=>(eA t).1) eD D.cj D.cj))) w):=by
 let⟨g,v⟩:=aH (w.alloc (bH #[eD] 2));have c1:Bw w g:=by rw[<-v];exact aI
 have I:bI g w 2 #[eD]:=by rw[<-v];exact bI.new w 2 _
 have ak:Hid (g.ownsRow w 2 1 (.slice (some (be w 0)) 1 1) (gV (fun t=>(eA t).1) eD D.cj 0).length (bN eI (gV (fun t=>(eA t).1) eD D.cj 0))):=aa ⟨rfl,ci ⟨w,1,_,rfl,bL _,I,bL _,az,rfl,rfl⟩⟩;have s:g.cell? (be A.gr 8)=some (ptr A.gt):=(h.keep c1).blk.c 8;have ao:(w.alloc (bH #[eD] 2)).cell? (be A.gr 8)=some (ptr A.gt):=by rw[v];exact s
 have HR:=aa (DM A.gt A.vt _ D.cj g (h.keep c1).qe (Sl.own nK (h.keep c1).cj) QcZ);have H:=ok.tn;have HF:=aa hf;have Z:Hid (ep (gV (fun t=>(eA t).1) eD D.cj D.cj)):=aa (by
  intro n H;unfold gV at H;rcases je.1 H with rfl|H
  ·exact hm
  ·obtain⟨x,j,rfl⟩:=Fy.1 H;exact h64 x (rW j))
 let⟨J,p,S,X,ai⟩:=wm mW;have am:=aa v;generalize D.cj=l at*;clear h ok hf h64 v I;go_enter func183,ntmps183;go_wp2_with fail;rw[show w.alloc (bH #[eD] 2)=g from am.o];go_wp2_with(go_at_call 84;refine HR.o.bC ?_;rintro e w1⟨v1,rfl,r,f⟩;have HS:=aa r;obtain⟨n1,K,rfl⟩:=bV r;have C1:=c1.bu (f.bC c1.size);have al:=aa (cJ ak.o f);clear r f);go_loopw[8,19] (fun vo vi wr=>∃k:Nat,k<=l.length/\vi=k/\wr.ownsRow w 2 1 vo (gV (fun t=>(eA t).1) eD l k).length (bN eI (gV (fun t=>(eA t).1) eD l k))/\Bw w wr/\wr.ownsRow g.heap.size 163 7 (.slice n1 l K) l (bN eO l)) (fun _ vi _=>l.length-(intOf vi).toNat);exact⟨0,cH _,rfl,al.o,C1,HS.o⟩;obtain⟨k,hk,rfl,r,R,a⟩:=hrel;let⟨Q,an⟩:=Jh2 r a;have W:=Sl.own nK a;obtain⟨no,ko,rfl⟩:=bV r;clear r;by_cases Y:k<l
 ·obtain⟨au,aj,b,m,rfl,ar,ac⟩:=W.hd;let⟨r0,r1,r2,r3,r4,r5,r6⟩:=vF (ac k Y);have O:0<=(k:Int):=af;have aq:k<(l:Int):=af;unfold maxLen at aj;have ag:=aa (I7 (fun t=>(eA t).1) eD l k Y);have ap:=zY (fun t=>(eA t).1) eD l k;have T:=aa (HF.o _ (cZ Y));clear ac;generalize gV (fun t=>(eA t).1) eD l k=L at*;generalize l[k]=x at*;have C:Bw wr (aZ wr (lF x) 163):=aI;have u:=R.bu (C.bC R.size);let⟨U,d⟩:=Jh2 (Q.o.alloc (bH (lF x) 163)) (I6 (iK x) T.o (aZ wr (lF x) 163));let⟨y,hy⟩:=aH ((eA (iK x)).1);have HY:=aa hy;go_wp2_with(first|(go_at_call 184;refine d.o.bC ?_;rintro e w2⟨rfl,f⟩;rw[HY.o];have bB:=u.bu (f.bC u.size);have V:=bB.alloc bB.size (bH #[aY y] 2);have N:=aa ((cJ U.o f).alloc (bH #[aY y] 2));have ab:=aa (cJ (cJ (cJ an.o C) f) ((bM w2 w2).alloc (bL _) (.cells #[aY y] 2))))|(at_builtin;refine fG kI ah kj _ rfl _ _ 45 rfl w 2 J (aY 0) 8 underlying45 p S X ai aB (.slice no L ko) L rfl N.o (some (be w2 0)) 1 [y] rfl (Sl.fg eI kI _ 2 _ aB _ rfl) Qaj QaN V.size ?_;intro v' w4 r z M;have G:=V.grown z V.size (fun q hq=>(N.o.lt q hq).1);have ad:=aa (ed ab.o fun q hq=>ec.grown z q (ab.o.lt q hq).2 (fun e=>ra ab.o N.o ah q hq q e rfl));rw[<-HY.o,<-ag.o]at r;obtain⟨P,k6,rfl⟩:=bV r;clear z M));go_roundw;exact⟨k+1,af,aw,r,G,ad.o⟩;exact aV
 ·obtain rfl:k=l.length:=af;have i:¬(l.length<(l:Int)):=af;have E:=zY (fun t=>(eA t).1) eD l l;exact Qa4
def U2{A:GA}{D:GS}(h:fu w B A D)(ok:oX D)(s:Int)(eD:Int)(hm:bO eD)(hf:∀x∈D.cj,kQ (iK x))(h64:∀x∈D.cj,bO ((fun t=>iT s t) (iK x))):bG 183 #[ptr A.gr,.func (.func 185) #[.agg #[s]] #[],eD] w (bi (bg (du (gV (fun t=>iT s t) eD D.cj D.cj))) w):=by
 let⟨g,v⟩:=aH (w.alloc (bH #[eD] 2));have c1:Bw w g:=by rw[<-v];exact aI
 have I:bI g w 2 #[eD]:=by rw[<-v];exact bI.new w 2 _
 have ak:Hid (g.ownsRow w 2 1 (.slice (some (be w 0)) 1 1) (gV (fun t=>iT s t) eD D.cj 0).length (bN eI (gV (fun t=>iT s t) eD D.cj 0))):=aa ⟨rfl,ci ⟨w,1,_,rfl,bL _,I,bL _,az,rfl,rfl⟩⟩;have p8:g.cell? (be A.gr 8)=some (ptr A.gt):=(h.keep c1).blk.c 8;have ao:(w.alloc (bH #[eD] 2)).cell? (be A.gr 8)=some (ptr A.gt):=by rw[v];exact p8
 have HR:=aa (DM A.gt A.vt _ D.cj g (h.keep c1).qe (Sl.own nK (h.keep c1).cj) QcZ);have H:=ok.tn;have HF:=aa hf;have Z:Hid (ep (gV (fun t=>iT s t) eD D.cj D.cj)):=aa (by
  intro n H;unfold gV at H;rcases je.1 H with rfl|H
  ·exact hm
  ·obtain⟨x,j,rfl⟩:=Fy.1 H;exact h64 x (rW j))
 let⟨J,p,S,X,ai⟩:=wm mW;have am:=aa v;generalize D.cj=l at*;clear h ok hf h64 v I;go_enter func183,ntmps183;go_wp2_with fail;rw[show w.alloc (bH #[eD] 2)=g from am.o];go_wp2_with(go_at_call 84;refine HR.o.bC ?_;rintro e w1⟨v1,rfl,r,f⟩;have HS:=aa r;obtain⟨n1,K,rfl⟩:=bV r;have C1:=c1.bu (f.bC c1.size);have al:=aa (cJ ak.o f);clear r f);go_loopw[8,19] (fun vo vi wr=>∃k:Nat,k<=l.length/\vi=k/\wr.ownsRow w 2 1 vo (gV (fun t=>iT s t) eD l k).length (bN eI (gV (fun t=>iT s t) eD l k))/\Bw w wr/\wr.ownsRow g.heap.size 163 7 (.slice n1 l K) l (bN eO l)) (fun _ vi _=>l.length-(intOf vi).toNat);exact⟨0,cH _,rfl,al.o,C1,HS.o⟩;obtain⟨k,hk,rfl,r,R,a⟩:=hrel;let⟨Q,an⟩:=Jh2 r a;have W:=Sl.own nK a;obtain⟨no,ko,rfl⟩:=bV r;clear r;by_cases Y:k<l
 ·obtain⟨au,aj,b,m,rfl,ar,ac⟩:=W.hd;let⟨r0,r1,r2,r3,r4,r5,r6⟩:=vF (ac k Y);have O:0<=(k:Int):=af;have aq:k<(l:Int):=af;unfold maxLen at aj;have ag:=aa (I7 (fun t=>iT s t) eD l k Y);have ap:=zY (fun t=>iT s t) eD l k;have T:=aa (HF.o _ (cZ Y));clear ac;generalize gV (fun t=>iT s t) eD l k=L at*;generalize l[k]=x at*;have C:Bw wr (aZ wr (lF x) 163):=aI;have u:=R.bu (C.bC R.size);let⟨U,d⟩:=Jh2 (Q.o.alloc (bH (lF x) 163)) (U0 s (iK x) (aZ wr (lF x) 163));let⟨y,hy⟩:=aH (iT s (iK x));have HY:=aa hy;go_wp2_with(first|(go_at_call 185;refine d.o.bC ?_;rintro e w2⟨rfl,f⟩;rw[HY.o];have bB:=u.bu (f.bC u.size);have V:=bB.alloc bB.size (bH #[aY y] 2);have N:=aa ((cJ U.o f).alloc (bH #[aY y] 2));have ab:=aa (cJ (cJ (cJ an.o C) f) ((bM w2 w2).alloc (bL _) (.cells #[aY y] 2))))|(at_builtin;refine fG kI ah kj _ rfl _ _ 45 rfl w 2 J (aY 0) 8 underlying45 p S X ai aB (.slice no L ko) L rfl N.o (some (be w2 0)) 1 [y] rfl (Sl.fg eI kI _ 2 _ aB _ rfl) Qaj QaN V.size ?_;intro v' w4 r z M;have G:=V.grown z V.size (fun q hq=>(N.o.lt q hq).1);have ad:=aa (ed ab.o fun q hq=>ec.grown z q (ab.o.lt q hq).2 (fun e=>ra ab.o N.o ah q hq q e rfl));rw[<-HY.o,<-ag.o]at r;obtain⟨P,k6,rfl⟩:=bV r;clear z M));go_roundw;exact⟨k+1,af,aw,r,G,ad.o⟩;exact aV
 ·obtain rfl:k=l.length:=af;have i:¬(l.length<(l:Int)):=af;have E:=zY (fun t=>iT s t) eD l l;exact Qa4
end
def U4{α:Type}(bR:α->Int)(l:bF α)(id:Int)(h:∀y∈l,id<=bR y):dQ bR l id=0:=by
 unfold dQ;rw[List.countP_eq_zero];intro y B;have:=h y B
 simp;omega
def DN{α:Type}(bR:α->Int)(x:α):∀(l:bF α),fK bR l->dJ bR l (bR x)=false->fK bR (ef l (dQ bR l (bR x)) x):=by
 intro l;induction l with
 |nil=>intro _ _;unfold ef dQ fK;simp
 |cons y l ih=>
  intro h u;unfold fK at h;rw[A0]at h;have a:¬bR y=bR x/\dJ bR l (bR x)=false:=by
   unfold dJ at u⊢;simp only[List.any_cons,Bb,decide_eq_false_iff_not]at u;exact u
  by_cases b:bR y<bR x
  ·have o:dQ bR (y::l) (bR x)=dQ bR l (bR x)+1:=by unfold dQ;rw[List.countP_cons];simp[b]
   have r:ef (y::l) (dQ bR l (bR x)+1) x=y::ef l (dQ bR l (bR x)) x:=by unfold ef;simp
   rw[o,r];unfold fK;rw[A0];refine⟨fun z hz=> ?_,ih h.2 a.2⟩;unfold ef at hz;rcases xq.1 hz with hz|hz
   ·exact h.1 z (rW hz)
   ·rcases je.1 hz with rfl|hz
    ·exact b
    ·exact h.1 z (tW hz)
  ·have O:bR x<bR y:=by have:=a.1;omega
   rw[U4 bR (y::l) (bR x) (fun z hz=>by
    rcases je.1 hz with rfl|hz
    ·omega
    ·have:=h.1 z hz;omega)]
   unfold ef fK;simp only[List.take_zero,List.drop_zero,lU];rw[A0,A0];refine⟨fun z hz=> ?_,h⟩;rcases je.1 hz with rfl|hz
   ·exact O
   ·have:=h.1 z hz;omega
variable{ms:Nat}{holds:bF RH}{bal:bF Int}
def U5{na:Nat}{room:Int}{h:RH}(hr:fK RH.bR holds):fK RH.bR (lY ms na room holds bal h).2:=by
 unfold lY;split
 ·exact hr
 split
 ·exact hr
 split
 ·exact hr
 split
 ·exact hr
 split
 ·exact hr
 ·rename_i x _ _;exact DN RH.bR h holds hr (aG x)
def U6{na:Nat}{room:Int}{h:RH}(hn:(holds:Int)<=room):((lY ms na room holds bal h).2.length:Int)<=room:=by
 unfold lY;split
 ·exact hn
 split
 ·exact hn
 split
 ·exact hn
 split
 ·exact hn
 split
 ·exact hn
 ·rename_i M _;have s:dQ RH.bR holds h.bR<=holds:=xA;rw[qq _ _ _ s];omega
variable {B:Nat} {K:List Nat} {A:DA} {D:DS} {w:World}
def DS.tell(D:DS)(ev:List Ev):DS:={D with log:=D.log++ev}
def yl(h:cQ w B A D)(hK:dS w K A)(hB:B<=w)(ev:bF Ev)(ad:Addr)(cap:Nat)(hs:Sl eE 5 w (.slice (some ad) ev cap) ev)(hn:D.log.length+ev.length<=1000000):
  bG 164 #[ptr A.gd,.slice (some ad) ev cap] w fun e w'=>∃vl,e=.returned (.tuple #[])/\cL B K w w' A {A with vl:=vl} (D.tell ev):=
 (Gz B A.gd (A.cells D) A.vl D.log ev ad cap K w h.blk rfl h.l1 hB h.log hs hn (hK.blk h.blk ah) hK.log).bC fun _ _ ⟨vl,he,ht⟩=>⟨vl,he,h.told ht⟩
def DS.place(D:DS)(x:RH):DS:={D with holds:=(lY D.C.mem (D.C.secs.length+1) D.C.mem D.holds D.bal x).2}
def cC.place(ok:cC D)(x:RH):cC (D.place x):=
 ⟨ok.ct,ok.bal,ok.b64,by
  have h:=U6 (ms:=D.C.mem.length) (na:=D.C.secs.length+1) (room:=D.C.mem.length) (holds:=D.holds) (bal:=D.bal) (h:=x) (by have:=ok.holds;omega);show(lY _ _ _ _ _ _).2.length<=D.C.mem
  omega,U5 ok.rise,ok.bQ,ok.fC,ok.who⟩
def I8(h:cQ w B A D)(ok:cC D)(hK:dS w K A)(hB:B<=w)(x:RH):
  bG 251 #[ptr A.gv,x.bR,.agg #[x.cq,x.mem,x.bK,x.bJ]] w fun e w'=>∃vh r,e=.returned (aY r)/\cL B K w w' A {A with vh:=vh} (D.place x):=
 (Qu B A.gv A.gb A.gh A.vb A.vh _ _ ok.ct.m2 ok.na D.bal ok.bal ok.b64 A.dd _ (by have:=ok.ct.m2;omega) D.holds (by have:=ok.holds;omega) ok.rise x K w h.gC (hK.blk h.gC.hblk ah) (hK.own h.gC.hown ah) hB).bC fun _ _ ⟨vh,he,hv,hm,_⟩=>⟨vh,_,he,h.IV hm hv⟩
def U7(h:cQ w B A D)(ok:cC D)(hK:dS w K A)(hB:B<=w)(cycle:Int)(v:bE)(bT:bF Lg)(B2:Nat)(hv:w.ownsRow B2 120 3 v bT.length (bN df bT))(hn:bT.length<=100000)(h64:∀x∈bT,bO x.bJ):
  bG 249 #[ptr A.gs,cycle,v] w fun e w'=>∃vo,e=.returned (aY (iA D.bQ cycle bT).1)/\cL B K w w' A {A with vo:=vo} {D with bQ:=(iA D.bQ cycle bT).2}:=
 (TO B A.gs A.vo v D.bQ cycle bT K w h.fZ ok.bQ B2 hv hn h64 hB hK.lt (hK.blk h.fZ.blk ah) (hK.own h.fZ.own ah)).bC fun _ _ ⟨vo,he,hs,hm,_⟩=>⟨vo,he,h.DK hm hs⟩
section
attribute [local go_sem ↓] wp_at_zero wp_at_succ
def jn(bT:List Lg):List Ev:=bT.map fun x=>⟨4,x.mem,x.bK,x.bJ,0⟩
def DS.DO(D:DS)(m:Int):RH:=⟨m,8,m,0,min (D.yg m) (D.risk m)⟩
def DS.iB(D:DS):Nat->DS
 |0=>D
 |k+1=>(D.iB k).place ((D.iB k).DO ((k:Int)+1))
def DS.opened(D:DS)(bT:List Lg):DS:={D with bQ:=(iA D.bQ (wrap64 (D.dt+1)) bT).2,dt:=wrap64 (D.dt+1),state:=1}
def DS.me(D:DS)(bT:List Lg):DS:=((D.opened bT).tell (jn bT)).iB D.C.mem
def iU(D:DS)(fd:List Lg)(r:Int)(D':DS):Prop:=
 if D.state≠0 then r=11/\D'=D
 else if(D.C.bU:Int)<=D.dt then r=6/\D'=D
 else∃bT rn,mx D.C fd bT rn/\
  if rn≠0 then r=rn/\D'=D
  else if pU (D.C.secs.length+1) bT≠0 then r=pU (D.C.secs.length+1) bT/\D'=D
  else if(iA D.bQ (wrap64 (D.dt+1)) bT).1≠0 then r=(iA D.bQ (wrap64 (D.dt+1)) bT).1/\D'={D with bQ:=(iA D.bQ (wrap64 (D.dt+1)) bT).2}
  else r=0/\D'=D.me bT
def iV(l:List Int):Nat:=(l.map Int.natAbs).sum
def qF(l:List Lg):Prop:=iV (l.map (·.bJ))<=2305843009213693952
def U8:∀(l:bF Int),(cd l).natAbs<=iV l:=by
 intro l;induction l with
 |nil=>simp[cd,iV]
 |cons y l ih=>
  have e:cd (y::l)=y+cd l:=by simp[cd]
  have r:iV (y::l)=y.natAbs+iV l:=by simp[iV]
  rw[e,r];omega
def Va:∀(l:bF Int),∀x∈l,x.natAbs<=iV l:=by
 intro l;induction l with
 |nil=>intro x j;simp at j
 |cons y l ih=>
  intro x j;have r:iV (y::l)=y.natAbs+iV l:=by simp[iV]
  rw[r];rcases je.1 j with rfl|j
  ·omega
  ·have:=ih x j
   omega
def oY{κ:Type}(G:List (κ×List Int)):Nat:=(G.map fun p=>iV p.2).sum
def Vb{κ:Type} [DecidableEq κ](k:κ)(x:Int):∀(G:bF (κ×bF Int)),oY (di k x G)=oY G+x.natAbs:=by
 intro G;induction G with
 |nil=>simp[di,oY,iV]
 |cons p G ih=>
  unfold oY at*;by_cases a:k=p.1
  ·simp[di,a,iV];omega
  ·simp[di,a,ih];omega
def Vc{κ α:Type} [DecidableEq κ](f:α->κ)(g:α->Int)(l:bF α):∀(G:bF (κ×bF Int)),oY (l.foldl (fun G x=>di (f x) (g x) G) G)=oY G+iV (l.map g):=by
 induction l with
 |nil=>intro G;simp[iV]
 |cons x l ih=>
  intro G;rw[qX,ih,Vb];have r:iV ((x::l).map g)=(g x).natAbs+iV (l.map g):=by simp[iV]
  rw[r];omega
def Vd{κ:Type}:∀(G:bF (κ×bF Int)),∀p∈G,iV p.2<=oY G:=by
 intro G;induction G with
 |nil=>intro p s;simp at s
 |cons q G ih=>
  intro p s;have e:oY (q::G)=iV q.2+oY G:=by simp[oY]
  rw[e];rcases je.1 s with rfl|s
  ·omega
  ·have:=ih p s
   omega
variable{C:bZ}
def DP{l o:bF Lg}{r:Int}(h:mx C l o r)(hf:qF l)(hn:l.length<=1024):o.length<=1024/\∀x∈o,-2305843009213693952<=x.bJ/\x.bJ<=2305843009213693952:=by
 unfold mx at h;split at h
 ·rw[h.2];simp
 split at h
 ·rw[h.2];simp
 split at h
 ·rw[h.2];simp
 obtain⟨_,Q,A,J⟩:=h;have L:=zT l;have f:Q.length=(fH l).length:=aG A.length_eq;refine⟨?_,fun x hx=> ?_⟩
 ·rw[J];refine bW (gK _ _) ?_;rw[cR];omega
 ·rw[J]at hx;let⟨p,s,V⟩:=acY.1 hx;obtain⟨i,b,rfl⟩:=Fy.1 s;have a:i<(fH l).length:=by simpa using A.mem_iff.1 b
  rw[dy,dG a]at V;simp only[pB]at V;have S:=cZ a;have d:=Vd (fH l) _ S;have c:oY (fH l)=iV (l.map (·.bJ)):=by
   have:=Vc dX Lg.bJ l []
   simpa[fH,oY]using this
  have g:=U8 (fH l)[i].2;unfold qF at hf;unfold gp at V;split at V
  ·cases V
   dsimp only;unfold du dK;split
   ·dsimp only;omega
   ·simp
  ·cases V
def Ve{l:bF Lg}(h:qF l):∀x∈l,bO x.bJ:=fun x hx=>by
 have h1:=Va (l.map (·.bJ)) x.bJ (Fy.2 ⟨x,hx,rfl⟩);unfold qF at h;unfold bO;omega
def cC.tell{D:DS}(ok:cC D)(ev:bF Ev):cC (D.tell ev):=⟨ok.ct,ok.bal,ok.b64,ok.holds,ok.rise,ok.bQ,ok.fC,ok.who⟩
def cC.iB{D:DS}(ok:cC D):∀k,cC (D.iB k):=by
 intro k;induction k with
 |zero=>exact ok
 |succ k ih=>exact ih.place _
def I9(D:DS):∀k,(D.iB k).C=D.C:=by
 intro k;induction k with
 |zero=>rfl
 |succ k ih=>exact ih
variable{bT:bF Lg}
def zZ{D:DS}(ok:cC D)(h64:∀x∈bT,bO x.bJ)(c:Int):(iA D.bQ c bT).2.length<=1024/\∀x∈(iA D.bQ c bT).2,bO x.cE:=by
 unfold iA;split
 ·exact⟨ok.bQ,ok.fC⟩
 split
 ·exact⟨ok.bQ,ok.fC⟩
 split
 ·exact⟨ok.bQ,ok.fC⟩
 split
 ·exact⟨ok.bQ,ok.fC⟩
 ·rename_i d _ _ _;refine⟨aA,fun x hx=> ?_⟩;rcases xq.1 hx with hx|hx
  ·exact ok.fC x hx
  ·obtain⟨y,B,rfl⟩:=Fy.1 hx;exact h64 y B
def cC.opened{D:DS}(ok:cC D)(h64:∀x∈bT,bO x.bJ):cC (D.opened bT):=⟨ok.ct,ok.bal,ok.b64,ok.holds,ok.rise,(zZ ok h64 _).1,(zZ ok h64 _).2,ok.who⟩
def gJ(j:Nat)(h:j<=1000):wrap64 ((j:Int)+1)=(j:Int)+1/\IntKind.i64.wrap ((j:Int)+1)=(j:Int)+1:=⟨aC,gI _ af⟩
def eZ{j M:Nat}(h:j<M):M-(intOf (aY ((j:Int)+1))).toNat<M-(intOf (aY (j:Int))).toNat:=by simp[intOf];omega
def j7(wr:World)(B:Nat)(A:DA)(D:DS)(X:World):Prop:=Bw wr X/\cQ X B A D
def j7.start(wr:bD)(B:Nat)(A:DA)(D:DS)(h:cQ wr B A D):j7 wr B A D wr.drew:=⟨(bM _ _).drew,h.d⟩
variable{X:bD}
def j7.alloc{wr:bD}{B:Nat}{A:DA}{D:DS}(h:j7 wr B A D X)(o:Obj):j7 wr B A D (X.alloc o):=⟨h.1.alloc h.1.size o,h.2.alloc o⟩
def j7.keep{wr X':bD}{B:Nat}{A:DA}{D:DS}(h:j7 wr B A D X)(c:Bw X X'):j7 wr B A D X':=⟨h.1.bu (c.bC h.1.size),h.2.keep c⟩
def Vf(B:Nat)(K:List Nat)(A:DA)(D:DS)(fd:List Lg)(w:World)(e:Ending)(w':World):Prop:=∃r A' D',e=.returned (aY r)/\cL B K w w' A A' D'/\iU D fd r D'
def Vg{B:Nat}{K:bF Nat}{A:DA}{D:DS}{w:bD}(h:cQ w B A D)(ok:cC D)(hK:dS w K A)(hB:B<=w)(hcy:bO D.dt)(v:bE)(fd:bF Lg)(hv:Sl df 3 w v fd)(hn:fd.length<=1024)(hf:qF fd)(hlog:D.log.length+1024<=900000):bG 206 #[ptr A.gd,v] w (Vf B K A D fd w):=by
 have cA:Bw w (aZ w #[()] 3):=aI;let⟨ai,a5,HD,HK,f,HV⟩:=Jh6 h hK (h.keep cA) (hK.keep cA) (wy (h.keep cA) 0 w (bI.new w 3 #[()])) (hv.keep cA);let⟨OK,HF,HB⟩:=Jh3 ok hf (bW hB cA.size);obtain⟨n1,k1,rfl,_⟩:=hv;by_cases L:D.state=0
 rotate_left
 ·have HR:Hid (iU D fd 11 D):=aa (by unfold iU;rw[yc L];exact⟨rfl,rfl⟩);have HS:Hid ((if(0:Int)=D.state then(0:Int)else 11)=11):=aa (ya (Ne.symm L));rw[HS.o]at f;clear h ok hK hf L;go_enter func206,ntmps206;go_wp2_with(go_at_call 152;refine f.o.bC ?_;rintro e w1⟨rfl,hw⟩;subst hw);go_ret;exact⟨_,A,D,rfl,cL.same ai.o cA,HR.o⟩
 ·have HS:Hid ((if(0:Int)=D.state then(0:Int)else 11)=0):=aa (yc L.symm);rw[HS.o]at f;have ay:=aa L;let⟨nc,kc,p,_⟩:=h.ct.sl.c;have b6:=aa p;have p2:(w.alloc (bH #[()] 3)).cell? (be A.gd 2)=some (.slice nc D.C.bU kc):=((h.keep cA).blk.c 2).bu (ym some p);have bR:(w.alloc (bH #[()] 3)).cell? (be A.gd 12)=D.dt:=(h.keep cA).blk.c 12;by_cases hc:(D.C.bU:Int)<=D.dt
  ·have HR:Hid (iU D fd 6 D):=aa (by unfold iU;rw[ya (aG L),yc hc];exact⟨rfl,rfl⟩);have hd:=dT hc;clear h ok hK hf L p hc;go_enter func206,ntmps206;go_wp2_with(go_at_call 152;refine f.o.bC ?_;rintro e w1⟨rfl,hw⟩;subst hw);go_region;go_wp2;go_ret;exact⟨_,A,D,rfl,(cL.same ai.o cA).keep ((bM _ _).drew),HR.o⟩
  ·have hd:=dF hc;let⟨p0,p1,_,p3,p4,p5,p6,p7⟩:=qE (h.keep cA).blk;have q:=(Uu A.vm A.vs A.vc (.slice n1 fd k1) D.C fd ((w.alloc (bH #[()] 3)).drew) ((h.keep cA).ct.sl.d) (HV.o.d) af (Ve hf));rw[p]at q;have ak:=aa q;clear q p;have ag:=aa hc;clear h ok hK L hc;go_enter func206,ntmps206;go_wp2_with(go_at_call 152;refine f.o.bC ?_;rintro e w1⟨rfl,hw⟩;subst hw);go_region;go_wp2_with(go_at_call 247;refine ak.o.bC ?_;rintro e w2⟨u,rn,bT,rfl,ho,c2,a7⟩;have HO:=aa ho;obtain⟨n2,k2,rfl⟩:=bV ho;have al:=aa a7;have J:=aa (HD.o.keepD c2);have bz:=aa ((HK.o.d (wd:=(w.alloc (bH #[()] 3)).drew)).keep c2);have C2:=aa c2;clear ho a7 c2)
   ·have ao:(rn !=0)=true:=aF;have bm:rn≠0:=aG ao;have c3:=cA.bu (((bM (w.alloc (bH #[()] 3)).heap.size (aZ w #[()] 3)).drew.bu C2.o).bC cA.size);go_ret;refine⟨rn,A,D,rfl,cL.same ai.o c3, ?_⟩;unfold iU;rw[ya (aG ay.o),ya Qcm];exact⟨bT,rn,al.o,by rw[yc bm];exact⟨rfl,rfl⟩⟩
   ·have ao:(rn !=0)=false:=aF;obtain rfl:rn=0:=aG ao;have c3:=cA.bu (((bM (w.alloc (bH #[()] 3)).heap.size (aZ w #[()] 3)).drew.bu C2.o).bC cA.size);let⟨cc,aC⟩:=DP al.o HF.o hn;have az:∀x∈bT,bO x.bJ:=fun x hx=>by have:=aC x hx;unfold bO;omega
    have E:=UA J.o OK.o (.slice n2 bT.length k2) bT (Sl.own eG HO.o) af (fun x hx=>⟨az x hx,by have:=aC x hx;omega⟩);let⟨I,aA⟩:=aH (pU (D.C.secs.length+1) bT);rw[aA]at E;let⟨bZ,aE,Z⟩:=Jh3 E aA az;have cd:=bW hB c3.size;have q9:w2.cell? (be A.gd 9)=some (ptr A.gs):=J.o.blk.c 9;have aO:w2.cell? (be A.gd 12)=D.dt:=J.o.blk.c 12;clear ao E aA az aC p0 p1 p2 p3 p4 p5 p6 p7 bR ak f;go_wp2_with(go_at_call 248;refine bZ.o.bC ?_;rintro e O⟨rfl,c4⟩;have ap:=aa (J.o.keep c4);have U:=aa (bz.o.keep c4);have bc:=aa (cJ HO.o c4);have C4:=aa c4;have q9:=ap.o.blk.c 9;have aO:=ap.o.blk.c 12;clear c4)
    ·have aq:(I !=0)=true:=aF;have bb:I≠0:=aG aq;go_ret;refine⟨I,A,D,rfl,cL.same ai.o (c3.bu (C4.o.bC c3.size)), ?_⟩;unfold iU;rw[ya (aG ay.o),ya Qcm];exact⟨bT,0,al.o,by rw[ya au,aE.o,yc bb];exact⟨rfl,rfl⟩⟩
    ·have aq:(I !=0)=false:=aF;obtain rfl:I=0:=aG aq;have aL:D.dt<4:=by have:=ag.o;have:=OK.o.ct.c2;omega
     let⟨cy,ad⟩:∃c,wrap64 (D.dt+1)=c:=⟨_,rfl⟩;have b9:wrap64 (D.dt+1)=cy:=ad;have b5:IntKind.i64.wrap (D.dt+1)=cy:=by
      rw[<-ad,gI _ (by unfold bO at hcy;omega)];unfold wrap64;unfold bO at hcy;omega
     have a:=aa ad;let⟨⟨so,ob⟩,dY⟩:∃r,iA D.bQ cy bT=r:=⟨_,rfl⟩;have aK:=aa dY;have c4:=c3.bu (C4.o.bC c3.size);have V:=bW hB c4.size;have aT:=ch q9 aO;have l:=aa (U7 (ap.o.d (wd:=O.drew)) OK.o (U.o.d (wd:=O.drew)) V cy (.slice n2 bT.length k2) bT _ (lu bc.o (wd:=O.drew)) af Z.o);rw[dY]at l;dsimp only at l;clear ad dY aq;go_region_held3(fun W=>W.cell? (be A.gd 9)=some (ptr A.gs)/\W.cell? (be A.gd 12)=D.dt) (first|exact aT|exact bl|assumption|go_keep)
      (first|(go_at_call 249;refine l.o.bC ?_;rintro e T⟨vo,rfl,an⟩;have aN:=aa an;have bl:=ch (an.at'.blk.c 9) (an.at'.blk.c 12);clear an))
     rename_i ac;clear ac aT bl;have i:=aa ((cL.same (K:=K) ai.o c4).bu ((aN.o.before (w:=O) ((bM _ _).drew))));have R:=aa i.o.at';by_cases P:so=0
     rotate_left
     ·have b3:(so !=0)=true:=aG P;go_wp2;go_ret;refine⟨so,_,_,rfl,i.o, ?_⟩;unfold iU;rw[ya (aG ay.o),ya Qcm];exact⟨bT,0,al.o,by rw[ya au,aE.o,ya au,a.o,aK.o,yc P];exact⟨rfl,rfl⟩⟩
     ·subst P;have aJ:A.gd∉K:=U.o.blk ap.o.blk ah;have ae:=aa (R.o.UG (K:=K) cy aJ);have aD:=aa (ae.o.at'.setState (K:=K) 1 aJ);have bw:T.cell? (be A.gd 12)=D.dt:=R.o.blk.c 12;have bp:T.frozen? (be A.gd 12)=false:=R.o.blk.free 12;have bX:(T.setCell (be A.gd 12) cy).cell? (be A.gd 13)=D.state:=ae.o.at'.blk.c 13;have b0:(T.setCell (be A.gd 12) cy).frozen? (be A.gd 13)=false:=ae.o.at'.blk.free 13;have aQ:=aa (dq (lu bc.o (wd:=O.drew)) aN.o.mod ah);let⟨a0,a8⟩:=Jh2 (dq (dq aQ.o ae.o.mod ah) aD.o.mod ah) (i.o.bu (ae.o.bu aD.o));clear aJ;go_wp2_with fail;let⟨H,n⟩:=aH (D.opened bT);have s:=aa n;have e1:({D with bQ:=ob,dt:=cy,state:=1}:DS)=H:=by rw[<-n];unfold DS.opened;rw[a.o,aK.o]
      have ar:=a8.o;have bv:=aa (show cC H from by rw[<-n];exact OK.o.opened Z.o);have b2:H.log.length<=800000+98976:=by rw[<-n];show D.log.length<=_;omega
      change cL B K w ((T.setCell (be A.gd 12) cy).setCell (be A.gd 13) (aY 1)) A {A with vo:=vo} {D with bQ:=ob,dt:=cy,state:=1}at ar
      rw[e1]at ar;have a9:=aa ar;clear ar e1 n bw bp bX b0 a8 aD ae aQ;generalize(T.setCell (be A.gd 12) cy).setCell (be A.gd 13) (aY 1)=w7 at*
      let⟨cl,cg⟩:=Jh2 (Sl.own eG a0.o) (U.o.d (wd:=O.drew));go_loopw[75] (fun vi wr=>∃(k:Nat) (vl:bE),k<=bT.length/\vi=k/\cL B K w wr A {A with vo:=vo,vl:=vl} (H.tell (jn (bT.take k)))/\∃B0,wr.ownsRow B0 120 3 (.slice n2 bT.length k2) bT.length (bN df bT)) (aW bT.length);exact⟨0,A.vl,cH _,rfl,by rw[show H.tell (jn (bT.take 0))=H from by unfold DS.tell jn;simp];exact a9.o,_,a0.o⟩;obtain⟨k,vl,hk,rfl,t,B0,dY⟩:=hrel;let⟨ab,bS,bk⟩:=Jh3 t (Sl.own eG dY) dY;have a6:=t.mod.size;clear t dY;by_cases aR:k<bT.length
      ·obtain⟨ck,bB,b,ce,rfl,b8,aL⟩:=bS.o.hd;let⟨r0,r1,r2⟩:=kL (aL k aR);have ca:0<=(k:Int):=af;have b7:k<(bT:Int):=af;unfold maxLen at bB;have bo:Hid ((H.tell (jn (bT.take k))).tell [⟨4,bT[k].mem,bT[k].bK,bT[k].bJ,0⟩]=H.tell (jn (bT.take (k+1)))):=aa (by
        unfold DS.tell jn;rw[fj aR,jf];simp[fz])
       have bq:(H.tell (jn (bT.take k))).log.length+1<=1000000:=by
        show(H.log++jn (bT.take k)).length+1<=_
        unfold jn;rw[cO,cR,dx];omega
       clear aL;generalize bT[k]=x at*;have cX:Bw wr (aZ wr (dI x) 120):=aI;have cY:=cX.alloc cX.size (bH #[(4:Int),aY x.mem,aY x.bK,aY x.bJ,()] 101);have bY:=aa ((a5.o.step ab.o).keep cY);let⟨HT,Y⟩:=Jh2 (yl (ab.o.at'.keep cY) bY.o (bW hB (bW a6 cY.size)) [⟨4,x.mem,x.bK,x.bJ,0⟩] (be (wr.heap.size+1) 0) 1 (Sl.fg eE jg (aZ wr (dI x) 120) 101 ⟨4,x.mem,x.bK,x.bJ,0⟩ aB _ au) bq) (cJ bk.o cY);go_wp2_with(go_at_call 164;refine HT.o.bC ?_;rintro e w8⟨br,rfl,Q⟩;have bA:=aa ((ab.o.keep cY).bu Q);have a1:=aa (dq Y.o Q.mod ah);clear Q);go_roundw;exact⟨k+1,br,af,aw,by rw[<-bo.o];exact bA.o,_,a1.o⟩;exact aV
      ·obtain rfl:k=bT.length:=af;have ci:¬(bT.length<(bT:Int)):=af;rw[show bT.take bT.length=bT from eU (bL _)]at ab;let⟨D2,X⟩:=aH (H.tell (jn bT));have bh:=aa X;have ba:=aa (show cC D2 from by rw[<-X];exact bv.o.tell _);have bs:Hid (D2.C=D.C):=aa (by rw[<-X];show H.C=_;rw[<-s.o];rfl);rw[X]at ab;let⟨nm,km,aS,_⟩:=ab.o.at'.ct.sl.m;let⟨MS,av⟩:=aH D2.C.mem.length;have c0:wr.cell? (be A.gd 0)=some (.slice nm MS km):=(ab.o.at'.blk.c 0).bu (by rw[<-av];exact ym some aS);have bP:=aa av;have am:MS<=16:=by rw[<-av];exact ba.o.ct.m2
       clear X aS av;go_wp2;go_loopw[96] (fun vi wr2=>∃(j:Nat) (vh:bE),j<=MS/\vi=j/\cL B K w wr2 A {A with vo:=vo,vl:=vl,vh:=vh} (D2.iB j)) (aW MS);exact⟨0,A.vh,cH _,rfl,ab.o⟩;obtain⟨j,vh,hj,rfl,t⟩:=hrel;have M:=aa t;have b1:=t.mod.size;clear t;by_cases a2:j<MS
       ·have cb:0<=(j:Int):=af;have cm:j<(MS:Int):=af;let⟨aj,z⟩:=Jh2 (ba.o.iB j) (a5.o.step M.o);have cf:=(gJ j (bW hj (bW am ah))).1;have b4:=(gJ j (bW hj (bW am ah))).2;have aU:Hid (D2.iB (j+1)=(D2.iB j).place ((D2.iB j).DO ((j:Int)+1))):=aa rfl;have ax:Hid ((D2.iB j).DO ((j:Int)+1)=⟨(j:Int)+1,8,(j:Int)+1,0,min ((D2.iB j).yg ((j:Int)+1)) ((D2.iB j).risk ((j:Int)+1))⟩):=aa rfl;let⟨DJ,a4⟩:=aH (D2.iB j);rw[a4]at M aj aU ax;have aM:=aa (UB M.o.at' aj.o ((j:Int)+1));have q8:wr.cell? (be A.gd 8)=some (ptr A.gv):=M.o.at'.blk.c 8;let⟨un,bn⟩:=aH (DJ.yg ((j:Int)+1));let⟨ri,g⟩:=aH (DJ.risk ((j:Int)+1));have bx:=aa g;rw[bn]at aM ax;rw[g]at ax;clear a4 bn g;go_wp2_with(go_at_call 250;refine aM.o.bC ?_;rintro e w8⟨rfl,c8⟩;have a3:=aa (z.o.keep c8);have N:=aa (M.o.keep c8);have q8:=N.o.at'.blk.c 8;clear c8);have N0:=aa (j7.start w8 B {A with vo:=vo,vl:=vl,vh:=vh} DJ N.o.at');go_region_held3(fun W=>W.cell? (be A.gd 8)=some (ptr A.gv)) (first|exact q8|exact s1|exact s2|exact s3|assumption|go_keep)
         (first
          |(go_at_call 138;refine(pK ((j:Int)+1) _).bC ?_;rintro e x1⟨rfl,rfl⟩;(first|have S:=aa (G.o.alloc (bH (cT ⟨8,(j:Int)+1⟩) 81))|have S:=aa (N0.o.alloc (bH (cT ⟨8,(j:Int)+1⟩) 81)));have s1:=S.o.2.blk.c 8)
          |(go_at_call 252;refine(UF (A:={A with vo:=vo,vl:=vl,vh:=vh}) (D:=DJ) (B:=B) (by first|exact S.o.2|exact N0.o.2) aj.o ((j:Int)+1)).bC ?_;rintro e x2⟨rfl,c9⟩;rw[bx.o];(first|have G:=aa (S.o.keep c9)|have G:=aa (N0.o.keep c9));have s2:=G.o.2.blk.c 8;clear c9)
          |(go_at_call 251;(first|(refine(I8 (A:={A with vo:=vo,vl:=vl,vh:=vh}) (D:=DJ) (K:=K) G.o.2 aj.o (a3.o.keep G.o.1) (bW hB (bW N.o.mod.size G.o.1.size)) ⟨(j:Int)+1,8,(j:Int)+1,0,min un ri⟩).bC ?_;rintro e x3⟨aP,rr,rfl,F⟩;have y:=aa ((N.o.keep G.o.1).bu F))|(refine(I8 (A:={A with vo:=vo,vl:=vl,vh:=vh}) (D:=DJ) (K:=K) S.o.2 aj.o (a3.o.keep S.o.1) (bW hB (bW N.o.mod.size S.o.1.size)) ⟨(j:Int)+1,8,(j:Int)+1,0,min un ri⟩).bC ?_;rintro e x3⟨aP,rr,rfl,F⟩;have y:=aa ((N.o.keep S.o.1).bu F)));have s3:=F.at'.blk.c 8;clear F))
        all_goals
         rename_i ac;clear ac s1 s2 s3;go_wp2;go_roundw;exact⟨j+1,aP,a2,by first|rfl|go_num,by rw[aU.o,ax.o];exact y.o⟩;exact eZ a2
       ·obtain rfl:j=MS:=af;have cj:¬(j<(j:Int)):=af;go_wp2;go_ret;refine⟨0,_,_,rfl,M.o, ?_⟩;unfold iU;rw[ya (aG ay.o),ya Qcm];refine⟨bT,0,al.o, ?_⟩;rw[ya au,aE.o,ya au,a.o,aK.o,ya au];refine⟨rfl, ?_⟩;unfold DS.me;rw[s.o,bh.o,<-bs.o,bP.o]
end
def DQ(n:Int):bO (dK n).1:=by
 unfold dK;split
 ·assumption
 ·unfold bO;simp
def Vh(ms na:Nat)(bl:bF Int)(p:Sp×bF Int):bO (jV ms na bl p).2.now:=by
 unfold jV;split
 ·split
  ·exact DQ _
  ·unfold bO;simp
 ·unfold bO;simp
def Vi:∀(cs:bF Ch) (bl:bF Int),ep bl->(∀y∈cs,bO y.now)->ep (rb bl cs):=by
 intro cs;induction cs with
 |nil=>intro bl h _;exact h
 |cons x cs ih=>
  intro bl h P;refine ih _ (fun n hn=> ?_) fun y hy=>P y (jS _ hy);rcases rT hn with h1|h1
  ·exact h n h1
  ·rw[h1];exact P x (iG ..)
variable{bl:bF Int}
def Vj{na:Nat}{l:bF En}(h:ep bl):ep (mm ms na bl l).2:=by
 unfold mm;split
 ·exact h
 split
 ·exact h
 ·refine Vi _ _ h fun y hy=> ?_;unfold kp at hy;split at hy
  ·simp at hy
  split at hy
  ·simp at hy
  split at hy
  ·simp at hy
  obtain⟨x,_,_,rfl⟩:=GW _ _ y hy;exact Vh _ _ _ _
def Ja{na:Nat}{l:bF En}(h:ep bl):ep (ni ms na holds bl l).2:=by
 unfold ni;split
 ·exact h
 split
 ·exact h
 ·exact Vj h
def Jb{na:Nat}{l:bF En}:(ni ms na holds bl l).2.length=bl.length:=by
 unfold ni;split
 ·rfl
 split
 ·rfl
 ·exact He
def Vk{na:Nat}{a b:Ac}{bK bJ:Int}(h:ep bl):ep (qp ms na holds bl a b bK bJ).2:=by
 unfold qp;split
 ·exact h
 ·exact Ja h
def Vl{na:Nat}{a b:Ac}{bK bJ:Int}:(qp ms na holds bl a b bK bJ).2.length=bl.length:=by
 unfold qp;split
 ·rfl
 ·exact Jb
variable {B:Nat} {K:List Nat} {A:DA} {D:DS} {w:World}
def DS.move(D:DS)(a b:Ac)(bK bJ:Int):DS:={D with bal:=(qp D.C.mem (D.C.secs.length+1) D.holds D.bal a b bK bJ).2}
def cC.move(ok:cC D)(a b:Ac)(bK bJ:Int):cC (D.move a b bK bJ):=⟨ok.ct,(Vl).bu ok.bal,Vk ok.b64,ok.holds,ok.rise,ok.bQ,ok.fC,ok.who⟩
def DR(h:cQ w B A D)(ok:cC D)(hK:dS w K A)(hB:B<=w)(a b:Ac)(bK bJ:Int)(h64:bO bJ):
  bG 167 #[ptr A.gv,fo a,fo b,bK,bJ] w fun e w'=>∃gb vb p r,e=.returned (aY r)/\cL B K w w' A {A with gb:=gb,vb:=vb,dd:=p} (D.move a b bK bJ):=
 (PN B A.gv A.gb A.gh A.vb A.vh _ _ ok.ct.m2 ok.na D.bal ok.bal ok.b64 A.dd _ D.holds ok.hn K w h.gC (hK.blk h.gC.blk ah) hB a b bK bJ h64).bC fun _ _ ⟨gb,vb,p,he,hv,hm⟩=>⟨gb,vb,p,_,he,h.IU hm hv⟩
def DS.post(D:DS)(l:List En):DS:={D with bal:=(ni D.C.mem (D.C.secs.length+1) D.holds D.bal l).2}
def cC.post(ok:cC D)(l:bF En):cC (D.post l):=⟨ok.ct,(Jb).bu ok.bal,Ja ok.b64,ok.holds,ok.rise,ok.bQ,ok.fC,ok.who⟩
def Jc(h:cQ w B A D)(ok:cC D)(hK:dS w K A)(hB:B<=w)(v:bE)(l:bF En)(hv:Sl lW 4 w v l)(hn:l.length<=1000000)(h64:∀x∈l,bO x.bJ):
  bG 141 #[ptr A.gv,v] w fun e w'=>∃gb vb p,e=.returned (aY (ni D.C.mem (D.C.secs.length+1) D.holds D.bal l).1)/\cL B K w w' A {A with gb:=gb,vb:=vb,dd:=p} (D.post l):=
 (Hf B A.gv A.gb A.gh A.vb A.vh v _ _ ok.ct.m2 ok.na D.bal ok.bal ok.b64 A.dd _ D.holds ok.hn l K w h.gC hv hn h64 (hK.blk h.gC.blk ah) hB).bC fun _ _ ⟨gb,vb,p,he,hv,hm⟩=>⟨gb,vb,p,he,h.IU hm hv⟩
variable{w':bD}
def kR.step{r:Int×bF Ob}{e:Ending}(h:cQ w B A D)(hs:kR B A.gs A.vo K r w e w'):e=.returned r.1/\cL B K w w' A {A with vo:=A.vo} {D with bQ:=r.2}:=⟨hs.1,h.DK (hs.2.2.bC ah) hs.2.1⟩
def Jd(h:cQ w B A D)(ok:cC D)(hK:dS w K A)(m a bJ:Int):bG 154 #[ptr A.gs,m,a,bJ] w fun e w'=>e=.returned (aY (im D.bQ m a bJ).1)/\cL B K w w' A A {D with bQ:=(im D.bQ m a bJ).2}:=(QF B A.gs A.vo D.bQ m a bJ K w h.fZ aU (hK.own h.fZ.own ah)).bC fun _ _ hs=>kR.step h hs
def DT(l:List Ob)(m a x y:Int):Prop:=(y=0∨y=8)/\(y=0↔0<=eo (dR m a) l)/\(0<=eo (dR m a) l->x=wrap64 (lv (gZ l (eo (dR m a) l))-(gZ l (eo (dR m a) l)).done))
def Je(h:cQ w B A D)(ok:cC D)(m a:Int):bG 194 #[ptr A.gs,m,a] w fun e w'=>∃x y:Int,e=.returned (.tuple #[x,y])/\DT D.bQ m a x y/\Bw w w':=(QQ B A.gs A.vo D.bQ m a w h.fZ aU).bC fun _ _ ⟨x,y,he,h1,h2,h3,hb⟩=>⟨x,y,he,⟨h1,h2,h3⟩,hb⟩
def cC.yo{l:bF Ob}(ok:cC D)(h1:l.length<=1024)(h2:∀x∈l,bO x.cE):cC {D with bQ:=l}:=⟨ok.ct,ok.bal,ok.b64,ok.holds,ok.rise,h1,h2,ok.who⟩
def DU{l:bF Ob}{i:Nat}{x:Ob}(h1:l.length<=1024)(h2:∀x∈l,bO x.cE)(hx:bO x.cE):(l.set i x).length<=1024/\∀y∈l.set i x,bO y.cE:=by
 refine⟨by rw[js];exact h1,fun y hy=> ?_⟩;rcases rT hy with h|h
 ·exact h2 y h
 ·rw[h];exact hx
def DV{l:bF Ob}(h2:∀x∈l,bO x.cE)(i:Int):bO (gZ l i).cE:=by
 unfold gZ;rw[dy];cases h:l[i.toNat]? with
 |none=>decide
 |some x=>exact h2 x (vy h)
def Aa(ok:cC D)(m a bJ:Int):cC {D with bQ:=(im D.bQ m a bJ).2}:=by
 have h:(im D.bQ m a bJ).2.length<=1024/\∀x∈(im D.bQ m a bJ).2,bO x.cE:=by
  unfold im;exact QaD
 exact ok.yo h.1 h.2
def DW(ok:cC D)(m a s d:Int):cC {D with bQ:=(fL D.bQ m a s d).2}:=by
 have h:(fL D.bQ m a s d).2.length<=1024/\∀x∈(fL D.bQ m a s d).2,bO x.cE:=by
  unfold fL;exact QaD
 exact ok.yo h.1 h.2
def Jf{α:Type}(l:bF α)(i:Nat):(mq l i).Sublist l:=by
 unfold mq;have d:(l.drop (i+1)).Sublist (l.drop i):=by
  rw[show l.drop (i+1)=(l.drop i).drop 1 from by rw[List.drop_drop]];exact List.drop_sublist _ _
 have h:=(List.Sublist.refl (l.take i)).append d;rwa[rV]at h
def DS.release(D:DS)(id:Int):DS:={D with holds:=(sJ D.holds id).2}
def Jg(ok:cC D)(id:Int):cC (D.release id):=by
 have h:(sJ D.holds id).2.Sublist D.holds:=by
  unfold sJ;split
  ·exact Jf _ _
  ·exact List.Sublist.refl _
 exact⟨ok.ct,ok.bal,ok.b64,bW h.length_le ok.holds,ok.rise.sublist h,ok.bQ,ok.fC,ok.who⟩
def Vm(h:cQ w B A D)(ok:cC D)(hK:dS w K A)(hB:B<=w)(id:Int):bG 211 #[ptr A.gv,id] w fun e w'=>∃vh r,e=.returned (aY r)/\cL B K w w' A {A with vh:=vh} (D.release id):=(Qv B A.gv A.gb A.gh A.vb A.vh _ _ D.bal A.dd _ D.holds ok.hn ok.rise id K w h.gC (hK.blk h.gC.hblk ah) (hK.own h.gC.hown ah) hB).bC fun _ _ ⟨vh,he,hv,hm,_⟩=>⟨vh,_,he,h.IV hm hv⟩
def Vn(h:cQ w B A D)(ok:cC D):bG 210 #[ptr A.gv] w (gP eI 2 1 (D.holds.map RH.bR) w):=(Qx B A.gv A.gb A.gh A.vb A.vh _ _ D.bal A.dd _ D.holds ok.hn w h.gC).bC fun _ _ ⟨v,he,ho,hb⟩=>⟨v,he,by rw[cR];exact ho,hb⟩
section
attribute [local go_sem ↓] wp_at_zero wp_at_succ
def GS.mA(D:GS)(t:Tr):Int×Int:=du (gV (fun t=>(eA t).1) (eA t).1 D.cj D.cj)
def GS.many(D:GS)(t:Tr):Int×Int:=du (gV (fun x=>iT t.cP x) t.cK D.cj D.cj)
def GS.room(D:GS)(t:Tr):Int:=if(D.mA t).2≠0∨(D.many t).2≠0∨288230376151711744<(D.mA t).1∨274877906944<(D.many t).1 then 2 else 0
def Jh{B:Nat}{A:GA}{D:GS}{w:bD}(h:fu w B A D)(ok:oX D)(t:Tr)(ht:kQ t)(hf:∀x∈D.cj,kQ (iK x)):bG 148 #[ptr A.gr,pG t] w (bi (D.room t) w):=by
 have C:Bw w (aZ w (ek t) 58):=aI;let⟨X,l,S,ab,M,N⟩:=Jh6 (h.keep C) ok hf ht (I6 t ht (aZ w (ek t) 58)) (bI.new w 58 (ek t));have L:∀x:Tr,bO (eA x).1:=fun x=>DQ _;have g:∀x∈D.cj,bO ((fun x=>iT t.cP x) (iK x)):=fun x hx=>by
  have:=(hf x hx).q
  show bO (iT t.cP (iK x));unfold iT;split
  ·exact this
  ·unfold bO;omega
 let⟨j,n⟩:=Jh2 L g;let⟨⟨g1,s⟩,hg⟩:∃r,D.mA t=r:=⟨_,rfl⟩;let⟨⟨v,T⟩,Z⟩:∃r,D.many t=r:=⟨_,rfl⟩;let⟨H,HM⟩:=Jh2 hg Z;have P:Hid (D.room t=if s≠0∨T≠0∨288230376151711744<g1∨274877906944<v then 2 else 0):=aa (by unfold GS.room;rw[hg,Z]);have u:=aa (fun(W:bD) (hW:fu W B A D)=>by
  have d:=U1 hW l.o (eA t).1 (j.o t) S.o (fun x _=>j.o _);rw[show du (gV (fun t=>(eA t).1) (eA t).1 D.cj D.cj.length)=(g1,s)from H.o]at d;exact d)
 have K:=aa (fun(W:bD) (hW:fu W B A D)=>by
  have d:=U2 hW l.o t.cP t.cK ab.o.q S.o n.o;rw[show du (gV (fun x=>iT t.cP x) t.cK D.cj D.cj.length)=(v,T)from HM.o]at d;exact d)
 clear h ok hf ht L g hg Z;by_cases e1:s=0
 rotate_left
 ·have d1:(s !=0)=true:=aG e1;have p:Hid (D.room t=2):=aa (by rw[P.o,yc (bS e1)]);clear e1;exact Qad
 ·subst e1;by_cases e2:T=0
  rotate_left
  ·have d2:(T !=0)=true:=aG e2;have p:Hid (D.room t=2):=aa (by rw[P.o,yc (ci (bS e2))]);clear e2;exact Qad
  ·subst e2;by_cases Q:288230376151711744<g1
   ·have d3:=dT Q;have p:Hid (D.room t=2):=aa (by rw[P.o,yc (ci (ci (bS Q)))]);clear Q;exact Qad
   ·have d3:=dF Q;by_cases U:274877906944<v
    ·have z:=dT U;have p:Hid (D.room t=2):=aa (by rw[P.o,yc (ci (ci (ci U)))]);clear Q U;exact Qad
    ·have z:=dF U;have p:Hid (D.room t=0):=aa (by rw[P.o,ya (by simp only[ne_eq,not_true_eq_false,false_or];intro R;rcases R with R|R;exact Q R;exact U R)]);clear Q U;exact Qad
def Ji{B:Nat}{A:DA}{D:DS}{w:bD}(h:cQ w B A D)(m a:Int):bG 193 #[ptr A.gd,m,a] w (bi (fE D.C m a) w):=by
 have E:=aa h;let⟨j,Z,Y,r,s,c,p,X⟩:=qE h.blk;have G:=aa h.ct.sl;clear h;by_cases n:fR D.C m
 ·have l:=aa n;by_cases i:a=0
  ·have F:(a==0)=true:=aG i;have O:Hid (fE D.C m a=0):=aa (by unfold fE;rw[yc n,yc i]);clear n i;go_enter func193,ntmps193;go_wp2_with(go_at_call 112;refine(lG A.vm A.vs A.vc D.C _ G.o _).bC ?_;rintro e V⟨k,rfl,b⟩;rw[yc l.o];have R:=aa (b.alloc b.size (bH (eR k) 125)));go_ret;exact⟨by rw[O.o];rfl,R.o⟩
  ·have F:(a==0)=false:=aG i;let⟨y,q⟩:∃y:Int,(if fX D.C a then(0:Int)else 10)=y:=⟨_,rfl⟩;have U:=aa q;have O:Hid (fE D.C m a=y):=aa (by unfold fE;rw[yc n,ya i,q]);clear n i q;go_enter func193,ntmps193;go_wp2_with(first|(go_at_call 112;refine(lG A.vm A.vs A.vc D.C _ G.o _).bC ?_;rintro e V⟨k,rfl,b⟩;rw[yc l.o];have R:=aa (b.alloc b.size (bH (eR k) 125));have H:=aa (E.o.keep R.o);obtain⟨j,Z,Y,r,s,c,p,X⟩:=qE H.o.blk)|(go_at_call 144;refine(vP A.vm A.vs A.vc D.C _ H.o.ct.sl _).bC ?_;rintro e g⟨d,rfl,f⟩;rw[U.o];have P:=aa ((R.o.bu (f.bC R.o.size)).alloc (bW R.o.size f.size) (.cells (iQ d) 127))));go_ret;exact⟨by rw[O.o];rfl,P.o⟩
 ·have l:=aa n;have O:Hid (fE D.C m a=9):=aa (by unfold fE;rw[ya n]);clear n;go_enter func193,ntmps193;go_wp2_with(go_at_call 112;refine(lG A.vm A.vs A.vc D.C _ G.o _).bC ?_;rintro e V⟨k,rfl,b⟩;rw[ya l.o];have R:=aa (b.alloc b.size (bH (eR k) 125)));go_ret;exact⟨by rw[O.o];rfl,R.o⟩
def DS.paid(D:DS)(m a bJ:Int)(fr to:Ac)(cq:Int):DS:=(({D with bQ:=(im D.bQ m a bJ).2}:DS).move fr to a bJ).tell [⟨cq,m,a,bJ,0⟩]
def mB(D:DS)(m a bJ:Int)(fr to:Ac)(cq x y:Int)(D':DS):Prop:=
 if fE D.C m a≠0 then x=0/\y=fE D.C m a/\D'=D
 else if(im D.bQ m a bJ).1≠0 then x=0/\y=(im D.bQ m a bJ).1/\D'={D with bQ:=(im D.bQ m a bJ).2}
 else DT (D.paid m a bJ fr to cq).bQ m a x y/\D'=D.paid m a bJ fr to cq
def Vo(B:Nat)(K:List Nat)(A:DA)(D:DS)(m a bJ:Int)(fr to:Ac)(cq:Int)(w:World)(e:Ending)(w':World):Prop:=∃x y A' D',e=.returned (.tuple #[aY x,aY y])/\cL B K w w' A A' D'/\mB D m a bJ fr to cq x y D'
def Jj{B:Nat}{K:bF Nat}{A:DA}{D:DS}{w:bD}(h:cQ w B A D)(ok:cC D)(hK:dS w K A)(hB:B<=w)(m a bJ:Int)(h64:bO bJ)(fk fm tk tm cq:Int)(hlog:D.log.length<=999000):
  bG 153 #[ptr A.gd,m,a,bJ,.func (.func 154) #[ptr A.gs] #[],fo ⟨fk,fm⟩,fo ⟨tk,tm⟩,cq] w (Vo B K A D m a bJ ⟨fk,fm⟩ ⟨tk,tm⟩ cq w):=by
 let⟨g,v⟩:=aH ((w.alloc (bH (cT ⟨fk,fm⟩) 81)).alloc (bH (cT ⟨tk,tm⟩) 81));have b:Bw w g:=by rw[<-v];exact aI.alloc au _
 have z:bI g w 81 (cT ⟨fk,fm⟩):=by rw[<-v];exact(bI.new w 81 _).alloc _
 have t:bI g (w.heap.size+1) 81 (cT ⟨tk,tm⟩):=by rw[<-v];exact heap_alloc2_new _ _ _
 let⟨R,Z,ai,H,l,av⟩:=Jh6 z t h hK ok ok;let⟨P,al,ax,ak⟩:=Jh4 (h.keep b) (Ji (h.keep b) m a) h64 v;let⟨y,hy⟩:=aH (fE D.C m a);have U:=aa hy;clear h ok hK z t h64 v hy;by_cases I:y=0
 rotate_left
 ·have ao:(y !=0)=true:=aG I;have q:Hid (mB D m a bJ ⟨fk,fm⟩ ⟨tk,tm⟩ cq 0 y D):=aa (by unfold mB;rw[U.o,yc I];exact⟨rfl,rfl,rfl⟩);exact QaB
 ·subst I;let⟨⟨pe,ob⟩,hp⟩:∃r,im D.bQ m a bJ=r:=⟨_,rfl⟩;let⟨u,aj⟩:=Jh2 hp (Aa av.o m a bJ);rw[hp]at aj;clear hp;by_cases ag:pe=0
  rotate_left
  ·have ao:(pe !=0)=true:=aG ag;have q:Hid (mB D m a bJ ⟨fk,fm⟩ ⟨tk,tm⟩ cq 0 pe {D with bQ:=ob}):=aa (by unfold mB;rw[U.o,ya au,u.o,yc ag];exact⟨rfl,rfl,rfl⟩);clear ag;go_enter func153,ntmps153;go_wp2_with fail;rw[show(w.alloc (bH #[fk,fm] 81)).alloc (bH #[tk,tm] 81)=g from ak.o];go_wp2_with(first|(go_at_call 193;refine al.o.bC ?_;rintro e k⟨rfl,f⟩;rw[U.o];have t:=b.bu (f.bC b.size);have J:=aa (P.o.keep f);have an:=aa (R.o.keep f);have Q:=aa (Z.o.keep f);have ab:=Jd J.o l.o (H.o.keep t) m a bJ;rw[u.o]at ab;have ae:=aa ab;clear ab f)|(go_at_call 154;refine ae.o.bC ?_;rintro e O⟨rfl,ac⟩;have j:=aa ((cL.same (K:=K) ai.o t).bu ac);have E:=aa (an.o.cu ac.mod ah);have am:=aa (Q.o.cu ac.mod ah);have q8:O.cell? (be A.gd 8)=some (ptr A.gv):=ac.at'.blk.c 8;clear ac));go_ret2;exact⟨_,_,A,_,rfl,j.o,q.o⟩
  ·subst ag;go_enter func153,ntmps153;go_wp2_with fail;rw[show(w.alloc (bH #[fk,fm] 81)).alloc (bH #[tk,tm] 81)=g from ak.o];go_wp2_with(first|(go_at_call 193;refine al.o.bC ?_;rintro e k⟨rfl,f⟩;rw[U.o];have t:=b.bu (f.bC b.size);have J:=aa (P.o.keep f);have an:=aa (R.o.keep f);have Q:=aa (Z.o.keep f);have ab:=Jd J.o l.o (H.o.keep t) m a bJ;rw[u.o]at ab;have ae:=aa ab;clear ab f)|(go_at_call 154;refine ae.o.bC ?_;rintro e O⟨rfl,ac⟩;have j:=aa ((cL.same (K:=K) ai.o t).bu ac);have E:=aa (an.o.cu ac.mod ah);have am:=aa (Q.o.cu ac.mod ah);have q8:O.cell? (be A.gd 8)=some (ptr A.gv):=ac.at'.blk.c 8;clear ac));let⟨i,n⟩:=E.o.k2 0 1;let⟨a2,a3⟩:=am.o.k2 0 1;have V:=bW hB j.o.mod.size;have aw:=aa (H.o.step j.o);have aq:=aa (DR (j.o.at'.d (wd:=O.drew)) aj.o (aw.o.d (wd:=O.drew)) V ⟨fk,fm⟩ ⟨tk,tm⟩ a bJ ax.o);have N:=ch q8 (ch i (ch n (ch a2 a3)));go_region_held3(fun W=>W.cell? (be A.gd 8)=some (ptr A.gv)/\W.cell? (be w 0)=fk/\W.cell? (be w 1)=fm/\W.cell? (be (w.heap.size+1) 0)=tk/\W.cell? (be (w.heap.size+1) 1)=tm) (first|exact N|exact x|assumption|go_keep)
    (first|(go_at_call 167;refine aq.o.bC ?_;rintro e X⟨L,vb,pp,rr,rfl,ad⟩;have Y:=aa (j.o.bu (ad.before ((bM _ _).drew)));have A4:=(E.o.d (wd:=O.drew)).cu ad.mod ah;have s:=(am.o.d (wd:=O.drew)).cu ad.mod ah;have x:=ch (ad.at'.blk.c 8) (ch (A4.c 0) (ch (A4.c 1) (ch (s.c 0) (s.c 1))));clear ad A4 s))
   rename_i af;clear af N x q8 i n a2 a3;have cX:Bw X (aZ X (lp ⟨cq,m,a,bJ,0⟩) 101):=aI;have ar:=aa (aj.o.move ⟨fk,fm⟩ ⟨tk,tm⟩ a bJ);have HT:=aa (yl (Y.o.at'.keep cX) ((H.o.step Y.o).keep cX) (bW hB (bW Y.o.mod.size cX.size)) [⟨cq,m,a,bJ,0⟩] (be X 0) 1 (Sl.fg eE jg X 101 ⟨cq,m,a,bJ,0⟩ aB _ rfl) Qbi);have ay:Hid (D.paid m a bJ ⟨fk,fm⟩ ⟨tk,tm⟩ cq=((({D with bQ:=ob}:DS).move ⟨fk,fm⟩ ⟨tk,tm⟩ a bJ).tell [⟨cq,m,a,bJ,0⟩])):=aa (by unfold DS.paid;rw[u.o]);go_wp2_with(first|(go_at_call 164;refine HT.o.bC ?_;rintro e T⟨vl,rfl,M⟩;have G:=aa ((Y.o.keep cX).bu M);have q9:T.cell? (be A.gd 9)=some (ptr A.gs):=M.at'.blk.c 9;have ap:=aa (Je M.at' (ar.o.tell _) m a);clear M)|(go_at_call 194;refine ap.o.bC ?_;rintro e F⟨xx,yy,rfl,S,c6⟩;have p:=aa S;have C6:=aa c6;clear S c6));go_ret2;refine⟨xx,yy,_,_,rfl,G.o.keep C6.o, ?_⟩;unfold mB;rw[U.o,ya au,u.o,ya au,ay.o];exact⟨p.o,rfl⟩
def Vp(B:Nat)(K:List Nat)(A:DA)(D:DS)(m a bJ:Int)(w:World)(e:Ending)(w':World):Prop:=∃x y A' D',e=.returned (.tuple #[aY x,aY y])/\cL B K w w' A A' D'/\if D.state≠1 then x=0/\y=11/\D'=D else mB D m a bJ ⟨7,m⟩ ⟨1,0⟩ 5 x y D'
def Vq{B:Nat}{K:bF Nat}{A:DA}{D:DS}{w:bD}(h:cQ w B A D)(ok:cC D)(hK:dS w K A)(hB:B<=w)(m a bJ:Int)(h64:bO bJ)(hlog:D.log.length<=999000):
  bG 109 #[ptr A.gd,m,a,bJ] w (Vp B K A D m a bJ w):=by
 let⟨g,v⟩:=aH (w.alloc (bH #[(1:Int)] 3));have b:Bw w g:=by rw[<-v];exact aI
 have s:=wy (h.keep b) 1 w QbS;let⟨C,d,H,l,Z,P⟩:=Jh6 v h hK ok h64 (h.keep b);have q:=aa (hK.keep b);by_cases L:D.state=1
 rotate_left
 ·rw[ya (Ne.symm L)]at s;let⟨f,E⟩:=Jh2 s L;clear h ok hK h64 v s L;go_enter func109,ntmps109;exact QaF
 ·rw[yc L.symm]at s;let⟨f,E⟩:=Jh2 s L;have t:g.cell? (be A.gd 9)=some (ptr A.gs):=(h.keep b).blk.c 9;have z:=aa (j7.start g B A D P.o);have J:=bW hB b.size;clear h ok hK h64 v s L;go_enter func109,ntmps109;go_wp2_with fail;rw[show w.alloc (bH #[(1:Int)] 3)=g from C.o];go_wp2_with(go_at_call 152;refine f.o.bC ?_;rintro e i⟨rfl,T⟩;subst T);go_region_held3(fun W=>W.cell? (be A.gd 9)=some (ptr A.gs)) (first|exact t|exact I|exact M|exact O|assumption|go_keep)
   (first
    |(go_at_call 140;refine(qZ m _).bC ?_;rintro e V⟨rfl,rfl⟩;(first|have S:=aa (G.o.alloc (bH (cT ⟨7,m⟩) 81))|have S:=aa (z.o.alloc (bH (cT ⟨7,m⟩) 81)));have I:=S.o.2.blk.c 9)
    |(go_at_call 155;refine(mZ _).bC ?_;rintro e R⟨rfl,rfl⟩;(first|have G:=aa (S.o.alloc (bH (cT ⟨1,0⟩) 81))|have G:=aa (z.o.alloc (bH (cT ⟨1,0⟩) 81)));have M:=G.o.2.blk.c 9)
    |(go_at_call 153;(first|(refine(Jj (K:=K) G.o.2 l.o (q.o.keep G.o.1) (bW J G.o.1.size) m a bJ Z.o 7 m 1 0 5 hlog).bC ?_;rintro e F⟨N,k,x,Q,rfl,n,p⟩;have j:=aa ((cL.same (K:=K) d.o (b.bu (G.o.1.bC b.size))).bu n))|(refine(Jj (K:=K) S.o.2 l.o (q.o.keep S.o.1) (bW J S.o.1.size) m a bJ Z.o 7 m 1 0 5 hlog).bC ?_;rintro e F⟨N,k,x,Q,rfl,n,p⟩;have j:=aa ((cL.same (K:=K) d.o (b.bu (S.o.1.bC b.size))).bu n)));have y:=aa p;have O:F.cell? (be A.gd 9)=some (ptr A.gs):=Qcj;clear n p))
  all_goals
   exact QbN
end
def oZ(L:List Lg)(k:Sd):List Int:=(L.filter fun x=>decide (dX x=k)).map (·.bJ)
def o8(L:List Lg)(k:Sd):Int:=cd (oZ L k)
def kU(k:Sd)(G:List (Sd×List Int)):List Int:=match G with
 |[]=>[]
 |p::l=>if k=p.1 then p.2 else kU k l
def Vr(k k':Sd)(x:Int):∀G,kU k (di k' x G)=if k=k' then kU k G++[x]else kU k G:=by
 intro G;induction G with
 |nil=>by_cases h:k=k'<;>simp[di,kU,h]
 |cons p G ih=>
  by_cases d:k'=p.1
  ·by_cases c:k=k'
   ·subst c;simp[di,kU,d]
   ·have a:¬k=p.1:=fun h=>c (h.bu d.symm);simp[di,kU,d,a]
  ·by_cases c:k=p.1
   ·have a:¬k=k':=fun h=>d (h.symm.bu c);have M:¬p.1=k':=fun h=>d h.symm;simp[di,kU,d,c,M]
   ·by_cases a:k=k'
    ·subst a;simp only[di,d,if_false,kU,ih,if_true]
    ·simp only[di,d,if_false,kU,c,ih,a]
def Vs(k:Sd):∀(L:bF Lg) (G:bF (Sd×bF Int)),kU k (L.foldl (fun G x=>di (dX x) x.bJ G) G)=kU k G++oZ L k:=by
 intro L;induction L with
 |nil=>intro G;simp[oZ]
 |cons x L ih=>
  intro G;rw[qX,ih,Vr];unfold oZ;by_cases h:k=dX x
  ·subst h;simp
  ·have b:¬dX x=k:=fun e=>h e.symm;simp[h,b]
def Jk(L:bF Lg)(k:Sd):kU k (fH L)=oZ L k:=by unfold fH;rw[Vs];simp[kU]
def Vt:∀(G:bF (Sd×bF Int)),(G.map (·.1)).Nodup->∀p∈G,kU p.1 G=p.2:=by
 intro G;induction G with
 |nil=>intro _ p s;simp at s
 |cons q G ih=>
  intro H p s;rw[eu,List.nodup_cons]at H;rcases je.1 s with rfl|s
  ·simp[kU]
  ·have h:¬p.1=q.1:=fun e=>H.1 (e▸Fy.2 ⟨p,s,rfl⟩);simp only[kU,h,if_false];exact ih H.2 p s
def Vu:∀(G:bF (Sd×bF Int)) (k:Sd),kU k G≠[]->∃p∈G,p.1=k:=by
 intro G;induction G with
 |nil=>intro k h;exact xl rfl h
 |cons q G ih=>
  intro k h;by_cases d:k=q.1
  ·exact⟨q,iG ..,d.symm⟩
  ·simp only[kU,d,if_false]at h;let⟨p,s,e⟩:=ih k h;exact⟨p,jS _ s,e⟩
def Jl(L:bF Lg)(p:Sd×bF Int)(hp:p∈fH L):p.2=oZ L p.1:=by rw[<-Jk,Vt _ (DG L) p hp]
def kt(a:Int)(G:List (Sd×List Int)):Int:=(G.map fun p=>if p.1.bK=a then cd p.2 else 0).sum
def iC(a:Int)(G:List (Sd×List Int)):Int:=(G.map fun p=>if p.1.bK=a then max (cd p.2) 0 else 0).sum
def Jm(l:bF Int)(x:Int):cd (l++[x])=cd l+x:=by simp[cd]
def Vv(a:Int)(k:Sd)(x:Int):∀G,kt a (di k x G)=kt a G+if k.bK=a then x else 0:=by
 intro G;induction G with
 |nil=>simp[kt,di,cd]
 |cons p G ih=>
  unfold kt at*;by_cases b:k=p.1
  ·simp only[di,b,if_true,eu,ii,Jm];split<;>omega
  ·simp only[di,b,if_false,eu,ii,ih];omega
def Vw(a:Int)(k:Sd)(x:Int):∀G,iC a (di k x G)<=iC a G+if k.bK=a then max x 0 else 0:=by
 intro G;induction G with
 |nil=>simp[iC,di,cd]
 |cons p G ih=>
  unfold iC at*;by_cases b:k=p.1
  ·simp only[di,b,if_true,eu,ii,Jm];split<;>omega
  ·simp only[di,b,if_false,eu,ii];omega
def Jn(a:Int):∀(L:bF Lg) (G:bF (Sd×bF Int)),kt a (L.foldl (fun G x=>di (dX x) x.bJ G) G)=kt a G+(L.map fun x=>if x.bK=a then x.bJ else 0).sum:=by
 intro L;induction L with
 |nil=>intro G;simp
 |cons x L ih=>
  intro G;rw[qX,ih,Vv,eu,ii];show _+(if x.bK=a then x.bJ else 0)+_=_;omega
def Jo(a:Int):∀(L:bF Lg) (G:bF (Sd×bF Int)),iC a (L.foldl (fun G x=>di (dX x) x.bJ G) G)<=iC a G+(L.map fun x=>if x.bK=a then max x.bJ 0 else 0).sum:=by
 intro L;induction L with
 |nil=>intro G;simp
 |cons x L ih=>
  intro G;rw[qX,eu,ii];have d:=ih (di (dX x) x.bJ G);have c:=Vw a (dX x) x.bJ G;have b:(dX x).bK=x.bK:=rfl;rw[b]at c;omega
def iD(T:List Tr):Int:=(T.map fun t=>(eA t).1).sum
def jA(T:List Tr)(a:Int):Int:=(T.map fun t=>if t.cP=a then t.cK else 0).sum
def Jp(a:Int):∀(T:bF Tr),((T.flatMap eB).map fun x=>if x.bK=a then x.bJ else 0).sum=0:=by
 intro T;induction T with
 |nil=>simp
 |cons t T ih=>
  rw[xC,jf,List.sum_append,ih];simp only[eB,eu,nH,ii,List.sum_nil];split<;>split<;>omega
def Jq(a:Int):∀(T:bF Tr),(∀t∈T,ny t/\t.cP≠0)->((T.flatMap eB).map fun x=>if x.bK=a then max x.bJ 0 else 0).sum=if a=0 then iD T else jA T a:=by
 intro T;induction T with
 |nil=>intro _;simp[iD,jA]
 |cons t T ih=>
  intro h;rw[xC,jf,List.sum_append,ih fun x hx=>h x (jS _ hx)];let⟨d,c⟩:=h t (iG ..);have b:=d.v0;have M:=d.q0;simp only[eB,eu,nH,ii,List.sum_nil,iD,jA];by_cases ha:a=0
  ·subst ha;simp only[if_true,c,if_false];omega
  ·have k:¬(0:Int)=a:=fun e=>ha e.symm;simp only[ha,k,if_false];split<;>omega
def Jr(a:Int):∀(G:bF (Sd×bF Int)),(∀p∈G,bO (cd p.2))->((G.filterMap gp).map fun x=>if x.bK=a then x.bJ else 0).sum=kt a G:=by
 intro G;induction G with
 |nil=>intro _;simp[kt]
 |cons p G ih=>
  intro h;have d:=ih fun q hq=>h q (jS _ hq);have c:(du p.2).1=cd p.2:=by unfold du dK;rw[yc (h p (iG ..))]
  unfold kt at*;rw[uY];exact QaJ
def Js(a:Int):∀(G:bF (Sd×bF Int)),(∀p∈G,bO (cd p.2))->((G.filterMap gp).map fun x=>if x.bK=a then max x.bJ 0 else 0).sum=iC a G:=by
 intro G;induction G with
 |nil=>intro _;simp[iC]
 |cons p G ih=>
  intro h;have d:=ih fun q hq=>h q (jS _ hq);have c:(du p.2).1=cd p.2:=by unfold du dK;rw[yc (h p (iG ..))]
  unfold iC at*;rw[uY];exact QaJ
def Vx(a:Int):∀(l:bF Lg),cd (((l.filterMap (ip a)).filterMap jY).filterMap (iS a))=(l.map fun x=>if x.bK=a then max x.bJ 0 else 0).sum:=by
 intro l;induction l with
 |nil=>rfl
 |cons x l ih=>
  rw[eu,ii,<-ih];by_cases d:x.bK=a
  ·by_cases c:0<x.bJ
   ·have e:max x.bJ 0=x.bJ:=af;simp[ip,jY,iS,d,c,cd,e]
   ·have e:max x.bJ 0=0:=af;simp[ip,jY,iS,d,c,cd,e]
  ·simp[ip,d]
def Vy(a:Int):∀(l:bF Lg),cd (((l.filterMap (ip a)).filterMap jZ).filterMap (iS a))=(l.map fun x=>if x.bK=a then max x.bJ 0 else 0).sum-(l.map fun x=>if x.bK=a then x.bJ else 0).sum:=by
 intro l;induction l with
 |nil=>rfl
 |cons x l ih=>
  rw[eu,ii,eu,ii];by_cases d:x.bK=a
  ·by_cases c:x.bJ<0
   ·have e:max x.bJ 0=0:=af;simp[ip,jZ,iS,d,c,cd,e]at ih⊢;omega
   ·have e:max x.bJ 0=x.bJ:=af;simp[ip,jZ,iS,d,c,cd,e]at ih⊢;omega
  ·simp[ip,d,cd]at ih⊢;omega
def Vz(C:bZ):∀(l:bF Lg),(∀x∈l,fE C x.mem x.bK=0)->pT C l=0:=by
 intro l;induction l with
 |nil=>intro _;rfl
 |cons x l ih=>
  intro h;unfold pT;rw[ya (by simpa using h x (iG ..))];exact ih fun y hy=>h y (jS _ hy)
structure kW(C:bZ)(T:List Tr):Prop where
 good:∀t∈T,ny t
 who:∀t∈T,fR C t.dD/\fR C t.dE/\fX C t.cP
 n:T.length<=64
 mA:iD T<=288230376151711744
 qS:∀a,jA T a<=274877906944
def Ab:∀(T:bF Tr),(T.flatMap eB).length=4*T.length:=by
 intro T;induction T with
 |nil=>rfl
 |cons t T ih=>
  rw[xC,cO,ih];show 4+4*T.length=4*(T.length+1);omega
def VA{α β γ:Type}(f:α->Option β)(k:α->γ)(k':β->γ)(hk:∀x y,f x=some y->k' y=k x):∀(l:bF α),(l.map k).Nodup->((l.filterMap f).map k').Nodup:=by
 intro l;induction l with
 |nil=>intro _;simp
 |cons x l ih=>
  intro h;rw[eu,List.nodup_cons]at h;rw[uY];split
  ·exact ih h.2
  ·rename_i y e;rw[eu,List.nodup_cons];refine⟨fun hm=>h.1 ?_,ih h.2⟩;let⟨z,a,V⟩:=Fy.1 hm;let⟨u,X,g⟩:=acY.1 a;rw[hk x y e,hk u z g]at V;exact Fy.2 ⟨u,X,V⟩
variable{C:bZ}
def VB{T:bF Tr}(h:kW C T):∀p∈fH (T.flatMap eB),bO (cd p.2):=by
 intro p s;have d:iC p.1.bK (fH (T.flatMap eB))<=288230376151711744:=by
  have:=Jo p.1.bK (T.flatMap eB) []
  rw[Jq _ T fun t ht=>⟨h.good t ht,by have:=(h.who t ht).2.2.1;omega⟩]at this;have b:=h.mA;have X:=h.qS p.1.bK;unfold fH;simp only[iC,nH,List.sum_nil,Int.zero_add]at this⊢;split at this<;>omega
 have c:kt p.1.bK (fH (T.flatMap eB))=0:=by
  have:=Jn p.1.bK (T.flatMap eB) []
  rw[Jp]at this;simpa[kt,fH]using this
 have x:∀(G:bF (Sd×bF Int)) (a:Int),(∀q∈G,q.1.bK=a->cd q.2<=iC a G/\kt a G-iC a G<=cd q.2)/\0<=iC a G/\kt a G<=iC a G:=by
  intro G a;induction G with
  |nil=>simp[iC,kt]
  |cons q G ih=>
   obtain⟨g,i,f⟩:=ih;unfold iC kt at*;simp only[eu,ii];refine⟨fun r hr ha=> ?_, ?_, ?_⟩
   ·rcases je.1 hr with rfl|hr
    ·simp only[ha,if_true];omega
    ·have:=g r hr ha
     split<;>omega
   ·split<;>omega
   ·split<;>omega
 have M:=(x (fH (T.flatMap eB)) p.1.bK).1 p s rfl;unfold bO;omega
structure yp(C:bZ)(T:List Tr)(bT:List Lg):Prop where
 CX:pU (C.secs.length+1) bT=0
 len:bT.length<=1024
 nd:(bT.map dX).Nodup
 is:∀x∈bT,x.bJ=o8 (T.flatMap eB) (dX x)/\x.bJ≠0
 all:∀k,o8 (T.flatMap eB) k≠0->(⟨k.mem,k.bK,o8 (T.flatMap eB) k⟩:Lg)∈bT
 acX:qB bT=false
 n64:∀x∈bT,-9223372036854775808<x.bJ/\x.bJ<=9223372036854775807
def sY{l m:bF Int}(h:l.Perm m):l.sum=m.sum:=by
 induction h with
 |nil=>rfl
 |cons x _ ih=>simp[ih]
 |swap x y l=>simp only[ii];omega
 |trans _ _ h1 h2=>exact h1.bu h2
variable{bT:bF Lg}
def Jt{T:bF Tr}(h:kW C T){r:Int}(hr:mx C (T.flatMap eB) bT r):r=0/\yp C T bT:=by
 have R:=VB h;have N:=Ab T;have hn:=h.n;unfold mx at hr;rw[ya af,ya,ya]at hr;rotate_left
 ·intro P;let⟨p,s,V⟩:=jT.1 P;have:(du p.2).2=0:=by unfold du dK;rw[yc (R p s)]
  simp[this]at V
 ·rw[Vz]
  ·simp
  ·intro x F;let⟨t,Z,F⟩:=FE.1 F;let⟨w1,w2,O⟩:=h.who t Z;simp only[eB,je,qk,or_false]at F;unfold fE;rcases F with rfl|rfl|rfl|rfl
   ·simp[w1]
   ·simp[w1,O]
   ·simp[w2]
   ·simp[w2,O]
 obtain⟨v,Q,A,rfl⟩:=hr;refine⟨v, ?_⟩;generalize hG:(Q.map fun i=>(fH (T.flatMap eB)).getD i zG)=G;have D:G.Perm (fH (T.flatMap eB)):=by
  rw[<-hG];refine(A.map _).bu (List.Perm.of_eq ?_);apply jG
  ·simp
  ·intro i d c;simp at d;simp[dy,d]
 have S:∀p,p∈G↔p∈fH (T.flatMap eB):=fun p=>D.mem_iff;have Y:∀p∈G,bO (cd p.2):=fun p s=>R p ((S p).1 s);have B:(G.map (·.1)).Nodup:=(D.map _).nodup_iff.2 (DG _);have l:∀a,kt a G=0:=fun a=>by
  have e:kt a G=kt a (fH (T.flatMap eB)):=by unfold kt;exact sY (D.map _)
  have:=Jn a (T.flatMap eB) []
  rw[Jp]at this;rw[e];simpa[kt,fH]using this
 have m:∀a,iC a G<=if a=0 then iD T else jA T a:=fun a=>by
  have e:iC a G=iC a (fH (T.flatMap eB)):=by unfold iC;exact sY (D.map _)
  have:=Jo a (T.flatMap eB) []
  rw[Jq _ T fun t Z=>⟨h.good t Z,by have:=(h.who t Z).2.2.1;omega⟩]at this;rw[e];unfold fH;simpa[iC]using this
 have I:∀a,0<=iC a G:=fun a=>by
  unfold iC;clear hG D S Y B l m;induction G with
  |nil=>simp
  |cons p G ih=>simp only[eu,ii];split<;>omega
 have q:∀a,mc (G.filterMap gp) a=(iC a G,iC a G,0):=fun a=>by
  have o:=Vx a (G.filterMap gp);have e2:=Vy a (G.filterMap gp);rw[Js a G Y]at o e2;rw[Jr a G Y,l a]at e2;let⟨d,c,b,X⟩:=Jt4 (m a) (I a) h.mA (h.qS a);have K:bO (iC a G):=by unfold bO;split at d<;>omega
  unfold mc;simp only[du,o,e2,Int.sub_zero];unfold dK;rw[yc K];simp
 have E:∀a,iC a G<=rv a:=fun a=>by
  have d:=m a;have b:=h.mA;have X:=h.qS a;unfold rv;split at d<;>simp_all<;>omega
 have f:∀x∈G.filterMap gp,x.bJ=o8 (T.flatMap eB) (dX x)/\x.bJ≠0/\bO x.bJ:=by
  intro x F;let⟨p,s,V⟩:=acY.1 F;have d:=Jl _ p ((S p).1 s);have c:(du p.2).1=cd p.2:=by unfold du dK;rw[yc (Y p s)]
  unfold gp at V;rw[c]at V;split at V
  ·rename_i h3;cases V
   refine⟨?_,h3,Y p s⟩;show cd p.2=cd (oZ _ (dX ⟨p.1.mem,p.1.bK,cd p.2⟩));rw[show dX ⟨p.1.mem,p.1.bK,cd p.2⟩=p.1 from rfl,<-d]
  ·cases V
 have u:((G.filterMap gp).map dX).Nodup:=VA gp (·.1) dX (fun p x V=>by
  unfold gp at V;split at V
  ·cases V;rfl
  ·cases V) G B
 have g:∀x∈G.filterMap gp,-9223372036854775808<x.bJ:=by
  intro x F;have h3:∀(H:bF Lg) (a:Int),(∀y∈H,y.bK=a->(H.map fun x=>if x.bK=a then x.bJ else 0).sum-(H.map fun x=>if x.bK=a then max x.bJ 0 else 0).sum<=y.bJ)/\(H.map fun x=>if x.bK=a then x.bJ else 0).sum<=(H.map fun x=>if x.bK=a then max x.bJ 0 else 0).sum:=by
   intro H a;induction H with
   |nil=>simp
   |cons y H ih=>
    obtain⟨i1,i2⟩:=ih;simp only[eu,ii];refine⟨fun z hz ha=> ?_, ?_⟩
    ·rcases je.1 hz with rfl|hz
     ·simp only[ha,if_true];omega
     ·have:=i1 z hz ha
      split<;>omega
    ·split<;>omega
  have M:=(h3 _ x.bK).1 x F rfl;rw[Jr _ G Y,Js _ G Y,l]at M;have d:=E x.bK;unfold rv at d;split at d<;>omega
 refine⟨?_, ?_,u,fun x F=>⟨(f x F).1,(f x F).2.1⟩,fun k hk=> ?_, ?_,fun x F=>⟨g x F,(f x F).2.2.2⟩⟩
 ·unfold pU qD;rw[ya,ya]
  ·intro P;let⟨a,_,ha⟩:=jT.1 P;unfold wB at ha;rw[q]at ha;simp at ha
  ·intro P;let⟨a,_,ha⟩:=jT.1 P;unfold sX at ha;rw[q]at ha;have:=E (a:Int)
   simp at ha;omega
 ·refine bW (gK _ _) ?_;have d:=D.length_eq;have c:=(zT (T.flatMap eB)).1;omega
 ·have U:oZ (T.flatMap eB) k≠[]:=fun e=>hk (by unfold o8;rw[e];rfl);rw[<-Jk]at U;obtain⟨p,s,rfl⟩:=Vu _ _ U;have d:=Jl _ p s;refine acY.2 ⟨p,(S p).2 s, ?_⟩;have c:(du p.2).1=cd p.2:=by unfold du dK;rw[yc (R p s)]
  unfold gp;rw[c,d];exact yc hk
 ·unfold qB;rw[mP];intro i W;have W:i<(G.filterMap gp).length:=aG W;rw[dy,dG W,pB];have F:=cZ W;have d:=f _ F;have c:=g _ F;unfold oT;intro P;simp only[Bool.or_eq_true,decide_eq_true_eq]at P;rcases P with(P|P)|P
  ·exact d.2.1 P
  ·omega
  ·let⟨y,hy,L⟩:=jT.1 P;obtain⟨j,J,rfl⟩:=eW hy;rw[dx]at J;rw[uX]at L;have ab:j<i:=af;have aa:j<(G.filterMap gp).length:=af;have e:dX ((G.filterMap gp)[j])=dX ((G.filterMap gp)[i]):=by
    unfold sU at L;simp at L;unfold dX;rw[L.1,L.2]
   have s:=AW.1 (acZ.1 u) j i (aG aa) (aG W) ab;simp at s;exact s e
structure lJ(D:GS):Prop where
 ok:oX D
 sub:∀x∈D.cj,dJ RU.bR D.used x.bR=true
 tl:(D.cj:Int)<=D.dW
 al:D.dW<=D.C.cj
 ul:(D.used:Int)<=D.C.cj*D.C.bU.length
 id:∀x∈D.cj,x.bR=x.id
 good:∀x∈D.cj,ny (iK x)/\fR D.C (iK x).dD/\fR D.C (iK x).dE/\fX D.C (iK x).cP
def rz(t:Tr):RT:=⟨t.id,t.id,t.dD,t.dE,t.cP,t.cK,t.cF⟩
def VC(t:Tr):iK (rz t)=t:=rfl
def GS.put(D:GS)(t:Tr):GS:={D with cj:=ef D.cj (dQ RT.bR D.cj t.id) (rz t),used:=ef D.used (dQ RU.bR D.used t.id) ⟨t.id,wrap64 (D.dW+1)⟩,dW:=wrap64 (D.dW+1)}
def GS.add(D:GS)(t:Tr):Int×GS:=
 if lr D.C t≠0 then(lr D.C t,D)
 else if dJ RU.bR D.used t.id=true then(7,D)
 else if D.C.cj<=D.dW∨(D.used:Int)=D.C.cj*D.C.bU.length then(6,D)
 else if D.room t≠0 then(D.room t,D)
 else(0,D.put t)
variable{t:Tr}
def Ad(hf:kQ t)(h:lr C t=0):ny t/\fR C t.dD/\fR C t.dE/\fX C t.cP/\1<=t.cK/\1<=t.cF/\t.dD≠t.dE:=by
 unfold lr at h;split at h
 ·rename_i d;exact xl h d
 ·rename_i d;have d:m7 C t=0:=aG d;unfold m7 at d;split at d
  ·rename_i c;split at d
   ·omega
   rename_i x;split at h
   ·rename_i M;split at h
    ·omega
    rename_i V;split at h
    ·omega
    rename_i A;have R:(eA t).2=0/\(eA t).1<=288230376151711744/\t.cK<=274877906944:=by
     unfold ut at A;simp at A;exact⟨A.1.1,af,af⟩
    have V:1<=t.cK/\1<=t.cF:=af;have T:0<=(eA t).1:=by
     have Z:0<=t.cK*t.cF:=ud af af;unfold eA dK;split
     ·exact Z
     ·exact kh _
    exact⟨⟨hf,R.1,⟨T,R.2.1⟩,⟨af,R.2.2⟩⟩,c.1,c.2,M,V.1,V.2,x⟩
   ·omega
  ·omega
def wC{α:Type}(l:bF α)(i:Nat)(x y:α):y∈ef l i x↔y=x∨y∈l:=by
 unfold ef;rw[xq,je];constructor
 ·rintro(h|h|h)
  ·exact ci (rW h)
  ·exact bS h
  ·exact ci (tW h)
 ·rintro(h|h)
  ·exact ci (bS h)
  ·rw[<-rV i l]at h;rcases xq.1 h with h|h
   ·exact bS h
   ·exact ci (ci h)
def Ju{α:Type}(l:bF α)(i:Nat)(x:α):(ef l i x).Perm (x::l):=by unfold ef;refine List.perm_middle.bu ?_;rw[rV]
def Jv{α:Type}(bR:α->Int)(l:bF α)(i:Nat)(x:α)(n:Int):dJ bR (ef l i x) n=(decide (bR x=n)||dJ bR l n):=by
 unfold dJ;rw[Bool.eq_iff_iff];simp only[jT,Bool.or_eq_true,decide_eq_true_eq];constructor
 ·rintro⟨y,B,e⟩
  rcases(wC l i x y).1 B with rfl|B
  ·exact bS e
  ·exact ci ⟨y,B,e⟩
 ·rintro(e|⟨y,B,e⟩)
  ·exact⟨x,(wC l i x x).2 (bS rfl),e⟩
  ·exact⟨y,(wC l i x y).2 (ci B),e⟩
def DZ{α:Type}(bR:α->Int)(l:bF α)(id:Int):dQ bR l id<=l:=xA
def Jw{D:GS}(h:lJ D){n:Int}(hn:dJ RU.bR D.used n=false):dJ RT.bR D.cj n=false:=by
 cases hh:dJ RT.bR D.cj n with
 |false=>rfl
 |true=>
  unfold dJ at hh;let⟨x,j,e⟩:=jT.1 hh;have:=h.sub x j
  have e:x.bR=n:=aG e;rw[e,hn]at this;exact this.symm
def Ea{D:GS}(h:lJ D):0<=D.dW/\D.dW<=64:=by
 have:=h.tl
 have:=h.al
 have:=h.ok.ct.cj
 omega
def Eb{D:GS}(h:lJ D)(hf:kQ t)(h1:lr D.C t=0)(h2:dJ RU.bR D.used t.id=false)(h3:D.dW<D.C.cj)(h4:(D.used:Int)<D.C.cj*D.C.bU.length):lJ (D.put t):=by
 have u:=Ea h;have T:wrap64 (D.dW+1)=D.dW+1:=aC;let⟨b,a,S⟩:=Jt3 (Ad hf h1) h.ok.ct.cj h.tl;have q:(D.put t).cj.length=D.cj.length+1:=qq _ _ _ (DZ _ _ _);have O:(D.put t).used.length=D.used.length+1:=qq _ _ _ (DZ _ _ _);refine⟨⟨h.ok.ct, ?_, ?_, ?_, ?_⟩, ?_, ?_, ?_, ?_, ?_, ?_⟩
 ·rw[q];omega
 ·rw[O];have P:=h.ok.ct.c2;have:D.C.cj*(D.C.bU:Int)<=64*4:=Int.mul_le_mul a.2 af af af
  omega
 ·exact DN RT.bR (rz t) D.cj h.ok.tr (Jw h h2)
 ·exact DN RU.bR ⟨t.id,wrap64 (D.dW+1)⟩ D.used h.ok.ur h2
 ·intro x j;show dJ RU.bR (ef _ _ _) x.bR=true;rw[Jv];rcases(wC _ _ _ _).1 j with rfl|j
  ·simp[rz]
  ·simp[h.sub x j]
 ·rw[q];show _<=wrap64 (D.dW+1);omega
 ·show wrap64 (D.dW+1)<=D.C.cj;omega
 ·rw[O];show _<=D.C.cj*(D.C.bU:Int);omega
 ·intro x j;rcases(wC _ _ _ _).1 j with rfl|j
  ·rfl
  ·exact h.id x j
 ·intro x j;rcases(wC _ _ _ _).1 j with rfl|j
  ·exact⟨b.1,b.2.1,b.2.2.1,b.2.2.2.1⟩
  ·exact h.good x j
def VD{D:GS}(h:lJ D)(hf:kQ t):lJ (D.add t).2:=by
 unfold GS.add;split
 ·exact h
 split
 ·exact h
 split
 ·exact h
 split
 ·exact h
 ·rename_i d c x M;have:=h.ul
  exact Eb h hf (aG d) (aG c) af af
def yq(C:bZ)(L:List Tr)(t:Tr):Prop:=lr C t=0/\t.id∉L.map (·.id)/\(L:Int)<C.cj/\(L:Int)<C.cj*C.bU.length/\iD L+(eA t).1<=288230376151711744/\jA L t.cP+t.cK<=274877906944
structure nX(D:GS)(L:List Tr):Prop where
 lQ:lJ D
 yL:(D.cj.map iK).Perm L
 jc:∀i,dJ RU.bR D.used i=true↔i∈L.map (·.id)
 acc:D.dW=L.length
 ul:D.used.length=L.length
 mA:iD L<=288230376151711744
 qS:∀a,jA L a<=274877906944
variable{L:bF Tr}
def VE{D:GS}(h:nX D L)(t:Tr):cd (gV (fun t=>(eA t).1) (eA t).1 D.cj D.cj)=iD L+(eA t).1:=by
 have e:(D.cj.map fun x=>(eA (iK x)).1).sum=iD L:=by
  have:=sY (h.yL.map fun t=>(eA t).1)
  rw[lD]at this;exact this
 unfold gV cd;rw[ic,ii,e];omega
def VF{D:GS}(h:nX D L)(t:Tr):cd (gV (fun x=>iT t.cP x) t.cK D.cj D.cj)=jA L t.cP+t.cK:=by
 have e:(D.cj.map fun x=>iT t.cP (iK x)).sum=jA L t.cP:=by
  have:=sY (h.yL.map fun x=>iT t.cP x)
  rw[lD]at this;exact this
 unfold gV cd;rw[ic,ii,e];omega
def Ae{D:GS}(h:nX D L):∀t∈L,ny t/\fR D.C t.dD/\fR D.C t.dE/\fX D.C t.cP:=fun t ht=>by
 obtain⟨x,hx,rfl⟩:=Fy.1 (h.yL.mem_iff.2 ht);exact h.lQ.good x hx
def VG(h:∀t∈L,ny t):0<=iD L:=by
 induction L with
 |nil=>simp[iD]
 |cons t L ih=>
  have d:=ih fun x hx=>h x (jS _ hx);have c:=(h t (iG ..)).v0;unfold iD at*;rw[eu,ii];omega
def VH(h:∀t∈L,ny t)(a:Int):0<=jA L a:=by
 induction L with
 |nil=>simp[jA]
 |cons t L ih=>
  have d:=ih fun x hx=>h x (jS _ hx);have c:=(h t (iG ..)).q0;unfold jA at*;rw[eu,ii];split<;>omega
def Jy{D:GS}(h:nX D L)(ht:ny t):D.room t=0↔iD L+(eA t).1<=288230376151711744/\jA L t.cP+t.cK<=274877906944:=by
 have k:=VG fun x hx=>(Ae h x hx).1;have u0:=VH (fun x hx=>(Ae h x hx).1) t.cP;let⟨b,u1,N,A⟩:=Jt4 h.mA (h.qS t.cP) ht.v0 ht.q0;have G:bO (iD L+(eA t).1):=aJ;have a:bO (jA L t.cP+t.cK):=aJ;have o:D.mA t=(iD L+(eA t).1,0):=by unfold GS.mA du;rw[VE h];unfold dK;rw[yc G]
 have r:D.many t=(jA L t.cP+t.cK,0):=by unfold GS.many du;rw[VF h];unfold dK;rw[yc a]
 unfold GS.room;rw[o,r];simp only[ne_eq,not_true_eq_false,false_or];split<;>simp<;>omega
def VI(L:bF Tr)(t:Tr):iD (L++[t])=iD L+(eA t).1:=by simp[iD]
def VJ(L:bF Tr)(t:Tr)(a:Int):jA (L++[t]) a=jA L a+if t.cP=a then t.cK else 0:=by simp[jA]
def VK{D:GS}(h:nX D L)(hf:kQ t):((D.add t).1=0↔yq D.C L t)/\((D.add t).1=0->nX (D.add t).2 (L++[t]))/\((D.add t).1≠0->(D.add t).2=D)/\(D.add t).2.C=D.C:=by
 have f:=h.jc t.id;by_cases d:lr D.C t=0
 rotate_left
 ·have e:D.add t=(lr D.C t,D):=by unfold GS.add;rw[yc d]
  rw[e];exact⟨⟨fun c=>xl c d,fun c=>xl c.1 d⟩,fun c=>xl c d,fun _=>rfl,rfl⟩
 by_cases c:dJ RU.bR D.used t.id=true
 ·have e:D.add t=(7,D):=by unfold GS.add;rw[ya (aG d),yc c]
  rw[e];exact⟨⟨fun x=>by simp at x,fun x=>xl (f.1 c) x.2.1⟩,fun x=>by simp at x,fun _=>rfl,rfl⟩
 by_cases x:D.C.cj<=D.dW∨(D.used:Int)=D.C.cj*D.C.bU.length
 ·have e:D.add t=(6,D):=by unfold GS.add;rw[ya (aG d),ya c,yc x]
  rw[e];have ha:=h.acc;have X:=h.ul;refine⟨⟨fun M=>by simp at M,fun M=> ?_⟩,fun M=>by simp at M,fun _=>rfl,rfl⟩;have V:=M.2.2.1;have A:=M.2.2.2.1;rcases x with x|x
  ·omega
  ·rw[X]at x;omega
 have b:=Ad hf d;have n:=Jy h b.1;by_cases M:D.room t=0
 rotate_left
 ·have e:D.add t=(D.room t,D):=by unfold GS.add;rw[ya (aG d),ya c,ya x,yc M]
  rw[e];exact⟨⟨fun V=>xl V M,fun V=>xl (n.2 V.2.2.2.2) M⟩,fun V=>xl V M,fun _=>rfl,rfl⟩
 ·have e:D.add t=(0,D.put t):=by unfold GS.add;rw[ya (aG d),ya c,ya x,ya (aG M)]
  rw[e];let⟨ha,X,g⟩:=Jt3 h.acc h.ul h.lQ.ul;have c:dJ RU.bR D.used t.id=false:=aG c;have u:=Ea h.lQ;refine⟨⟨fun _=>⟨d,fun hm=> ?_,af,by rw[<-X];omega,n.1 M⟩,fun _=>rfl⟩,fun _=> ?_,fun V=>xl rfl V,rfl⟩
  ·rw[f.2 hm]at c;exact xl c au
  ·refine⟨Eb h.lQ hf d c af af, ?_,fun i=> ?_, ?_, ?_, ?_,fun a=> ?_⟩
   ·have:=(Ju D.cj (dQ RT.bR D.cj t.id) (rz t)).map iK
    refine this.bu ?_;rw[eu,VC];exact(h.yL.cons t).bu (List.perm_append_comm (l₁:=[t]))
   ·show dJ RU.bR (ef _ _ _) i=true↔_;rw[Jv,jf,xq,<-h.jc i];simp;constructor
    ·rintro(V|V)
     ·exact ci V.symm
     ·exact bS V
    ·rintro(V|V)
     ·exact ci V
     ·exact bS V.symm
   ·show wrap64 (D.dW+1)=_;rw[cO];simp only[gL,jE];unfold wrap64;omega
   ·have:=qq D.used (dQ RU.bR D.used t.id) ⟨t.id,wrap64 (D.dW+1)⟩ (DZ _ _ _)
    show(ef _ _ _).length=_
    rw[this,cO,X];rfl
   ·rw[VI];exact(n.1 M).1
   ·rw[VJ];split
    ·rename_i V;subst V;exact(n.1 M).2
    ·have:=h.qS a;omega
def uG(D:GS):D.list=D.cj.map iK:=by
 unfold GS.list;induction D.cj with
 |nil=>rfl
 |cons x l ih=>rw[uY,eu,<-ih];rfl
def Jz{D:GS}(h:nX D L):D.list.Perm L:=by rw[uG];exact h.yL
def Ec{D:GS}(h:nX D L):kW D.C D.list:=by
 have s:=Jz h;have o:iD D.list=iD L:=sY (s.map fun t=>(eA t).1);have r:∀a,jA D.list a=jA L a:=fun a=>sY (s.map fun t=>if t.cP=a then t.cK else 0);refine⟨fun t ht=>(Ae h t (s.mem_iff.1 ht)).1,fun t ht=>(Ae h t (s.mem_iff.1 ht)).2, ?_,by rw[o];exact h.mA,fun a=>by rw[r];exact h.qS a⟩;have:=h.lQ.ok.tn
 rw[uG,cR];omega
section
attribute [local go_sem ↓] wp_at_zero wp_at_succ
structure Cm where
 (kd id mb ot sc qt pr:Int)deriving DecidableEq
structure Cm.Fit(c:Cm):Prop where
 kd:bO c.kd
 id:bO c.id
 mb:bO c.mb
 ot:bO c.ot
 sc:bO c.sc
 qt:bO c.qt
 pr:bO c.pr
def lK(k:Int):Nat×Bool:=
 if k=2 then(63,true)else if k=7 then(58,true)else if k=5 then(26,true)else if k=6 then(26,true)else
 if k=4 then(18,true)else if k=8 then(18,true)else if k=9 then(18,true)else if k=1 then(0,true)else if k=10 then(0,true)else
 if k=3 then(1,true)else(0,false)
def Cm.at(c:Cm)(j:Nat):Int:=match j with
 |0=>c.id
 |1=>c.mb
 |2=>c.ot
 |3=>c.sc
 |4=>c.qt
 |_=>c.pr
def sZ(j:Nat):Nat:=2^j
def uH(b j:Nat):Bool:=b.testBit j
def VL(k:Int):(lK k).1<64:=by unfold lK;repeat'(first|decide|split)
def rA(b:Nat)(c:Cm)(j:Nat):Bool:=match j with
 |0=>true
 |j+1=>rA b c j&&(uH b j||decide (c.at j=0))
def Cm.right(c:Cm):Bool:=(lK c.kd).2&&rA (lK c.kd).1 c 6
def JA(b:Nat)(c:Cm)(j:Nat):rA b c (j+1)=(rA b c j&&(uH b j||decide (c.at j=0))):=rfl
def VM(b:Nat)(c:Cm)(j:Nat)(h:rA b c j=false):∀k,j<=k->rA b c k=false:=by
 intro k a;induction k with
 |zero=>
  obtain rfl:j=0:=af;exact h
 |succ k ih=>
  by_cases e:j=k+1
  ·subst e;exact h
  ·rw[JA,ih af];rfl
def JB(k:Int)(w:bD):bG 69 #[k] w fun e w'=>e=.returned (.tuple #[aY ((lK k).1:Nat),.bool (lK k).2])/\w=w':=by
 by_cases h:k=2∨k=7∨k=5∨k=6∨k=4∨k=8∨k=9∨k=1∨k=10∨k=3
 ·rcases h with rfl|rfl|rfl|rfl|rfl|rfl|rfl|rfl|rfl|rfl
  all_goals
   exact Qdg
 ·have e:lK k=(0,false):=by unfold lK;simp only[not_or]at h;simp[h]
  have d:(k==2)=false:=aA;have c:(k==7)=false:=aA;have x:(k==5)=false:=aA;have M:(k==6)=false:=aA;have V:(k==4)=false:=aA;have A:(k==8)=false:=aA;have r:(k==9)=false:=aA;have i:(k==1)=false:=aA;have T:(k==10)=false:=aA;have a:(k==3)=false:=aA;rw[e];clear h e;exact Qdg
@[reducible] def rB(c:Cm):Value:=.agg #[c.kd,c.id,c.mb,c.ot,c.sc,c.qt,c.pr]
@[reducible] def jB(c:Cm):Array Value:=#[c.kd,c.id,c.mb,c.ot,c.sc,c.qt,c.pr]
def JC(j:Nat):Value:=.func (Fn.func (93+j)) #[] #[]
def JD(c:Cm):Array Value:=#[(1:Int),c.id,.func (Fn.func 93) #[] #[],(2:Int),c.mb,.func (Fn.func 94) #[] #[],(4:Int),c.ot,.func (Fn.func 95) #[] #[],(8:Int),c.sc,.func (Fn.func 96) #[] #[],(16:Int),c.qt,.func (Fn.func 97) #[] #[],(32:Int),c.pr,.func (Fn.func 98) #[] #[]]
def rC(W:World)(g:Nat)(c:Cm):Prop:=W.heap[g]?=some (.cells (JD c) 157 (0,0))
variable{W:bD}{g:Nat}{o:Obj}
def JE(h:W.heap[g]?=some o):g<W:=by
 rcases fA g W with h'|h'
 ·exact h'
 ·simp[qT h']at h
variable{c:Cm}
def rC.lt(h:rC W g c):g<W:=JE h
def rC.wD(h:rC W g c):∀j,j<6->W.cell? ⟨g,j*3,none⟩=some (.int .i64 (sZ j:Nat))/\W.cell? ⟨g,j*3+1,none⟩=some (.int .i64 (c.at j))/\W.cell? ⟨g,j*3+2,none⟩=some (JC j):=by
 intro j J;have u:W.heap[g]?=some (.cells (JD c) 157 (0,0)):=h;obtain rfl|rfl|rfl|rfl|rfl|rfl:j=0∨j=1∨j=2∨j=3∨j=4∨j=5:=af
 all_goals exact⟨by rw[bI.c u];rfl,by rw[bI.c u];rfl,by rw[bI.c u];rfl⟩
def rC.keep{W':bD}(h:rC W g c)(hb:Bw W W'):rC W' g c:=(hb.block g h.lt).bu h
def Boxed(W:World)(g:Nat)(c:Cm):Prop:=W.heap[g]?=some (.cells (jB c) 38 (0,0))
def Boxed.lt(h:Boxed W g c):g<W:=JE h
def Boxed.keep{W':bD}(h:Boxed W g c)(hb:Bw W W'):Boxed W' g c:=(hb.block g h.lt).bu h
def Boxed.new(W:bD)(c:Cm):Boxed (aZ W (jB c) 38) W c:=heap_alloc_new _ _
def Boxed.cells(h:Boxed W g c):W.cell? (be g 0)=c.kd/\W.cell? (be g 1)=c.id/\W.cell? (be g 2)=c.mb/\W.cell? (be g 3)=c.ot/\
  W.cell? (be g 4)=c.sc/\W.cell? (be g 5)=c.qt/\W.cell? (be g 6)=c.pr:=by
 have u:W.heap[g]?=some (.cells (jB c) 38 (0,0)):=h;exact⟨by rw[bI.c u];rfl,by rw[bI.c u];rfl,by rw[bI.c u];rfl,by rw[bI.c u];rfl,by rw[bI.c u];rfl,by rw[bI.c u];rfl,by rw[bI.c u];rfl⟩
def VN(c:Cm)(w:World)(e:Ending)(w':World):Prop:=∃g,e=.returned (.slice (some ⟨g,0,none⟩) 6 6)/\rC w' g c/\w.heap.size<g/\Bw w w'
def VO(c:Cm)(w:bD):bG 70 #[rB c] w (VN c w):=by obtain⟨f,B,n,b,d,a,g⟩:=c;go_enter func70,ntmps70;go_wp2;go_ret;refine⟨w.heap.size+1,rfl, ?_,Nat.lt_succ_self _,aI.alloc au _⟩;exact heap_alloc2_new _ _ _
def JF:∀b:Fin 64,∀j:Fin 6,bits .and .i64 ((b.val:Nat):Int) ((sZ j.val:Nat):Int)=if uH b.val j.val then((sZ j.val:Nat):Int)else 0:=ai
def VP(b j:Nat)(hb:b<64)(hj:j<6)(h:uH b j=true):(bits .and .i64 (b:Int) (sZ j:Int)==0)=false/\(bits .and .i64 (b:Int) (sZ j:Int) !=0)=true:=by
 have:=JF ⟨b,hb⟩ ⟨j,hj⟩
 simp only[h,if_true]at this;rw[this];have c:0<sZ j:=Nat.two_pow_pos j;constructor
 ·simp;omega
 ·simp;omega
def VQ(b j:Nat)(hb:b<64)(hj:j<6)(h:uH b j=false):(bits .and .i64 (b:Int) (sZ j:Int)==0)=true/\(bits .and .i64 (b:Int) (sZ j:Int) !=0)=false:=by
 have:=JF ⟨b,hb⟩ ⟨j,hj⟩
 simp only[h]at this;rw[this];exact⟨rfl,rfl⟩
def Cm.kX(c:Cm):Int:=if c.right then 0 else 3
def VR(c:Cm)(w wr:World)(g k:Nat):Prop:=rA (lK c.kd).1 c k=true/\rC wr g c/\Bw w wr
def Ed(c:Cm)(w:bD):bG 35 #[rB c] w (bi c.kX w):=by
 have h:=VL c.kd;by_cases p:(lK c.kd).2=true
 ·have q:Hid (c.right=rA (lK c.kd).1 c 6):=aa (by unfold Cm.right;rw[p];rfl);have B:=aa p;clear p;go_enter func35,ntmps35;go_wp2_with fail;refine(JB _ _).bC ?_;rintro e s⟨rfl,rfl⟩;rw[B.o];go_wp2_with fail;refine(VO c _).bC ?_;rintro e x⟨g,rfl,R,_,f⟩;have t:Bw w x:=((bM w w).alloc (bL _) _).bu (f.bC au);clear f;generalize y:(lK c.kd).1=bb at*;have Q:=aa y;clear y;go_wp2;go_loopw[18] (fun i wr=>∃k:Nat,k<=6/\i=k/\VR c w wr g k) (aW 6);exact⟨0,cH _,rfl,rfl,R,t⟩;obtain⟨k,p,rfl,m,a,l⟩:=hrel;rw[Q.o]at m;have V:=aa m;have z:=a.lt;clear m;by_cases n:k<6
  ·let⟨A,E,H⟩:=a.wD k n;unfold JC at H;have M:=aa a;have j:(k:Int)<6:=af;clear a R;have b:=JA bb c k;rw[V.o]at b;cases hh:uH bb k
   ·let⟨v,u⟩:=VQ bb k h n hh;rw[hh]at b;have d:=aa b;clear b hh;by_cases r:c.at k=0
    ·have T:(c.at k !=0)=false:=by simp[r]
     have Y:=aa r;clear r;go_wp2;go_roundw;exact⟨k+1,af,aw,by rw[Q.o,d.o];simp[Y.o],M.o.keep aI,l.alloc l.size _⟩;exact aV
    ·have T:(c.at k !=0)=true:=aG r;have K:Hid (c.kX=3):=aa (by
      unfold Cm.kX;rw[q.o,ya];rw[VM bb c (k+1) (by rw[d.o];simpa using r) 6 af];simp)
     clear r;go_wp2;go_ret;exact⟨by rw[K.o];rfl,l.alloc l.size _⟩
   ·let⟨v,u⟩:=VP bb k h n hh;rw[hh]at b;have d:=aa b;clear b hh;go_wp2;go_roundw;exact⟨k+1,af,aw,by rw[Q.o,d.o];rfl,M.o.keep aI,l.alloc l.size _⟩;exact aV
  ·obtain rfl:k=6:=af;have K:Hid (c.kX=0):=aa (by unfold Cm.kX;rw[q.o,V.o];rfl);clear a R;go_wp2;go_ret;exact⟨by rw[K.o];rfl,l⟩
 ·have D:(lK c.kd).2=false:=aG p;have K:Hid (c.kX=3):=aa (by unfold Cm.kX Cm.right;rw[D];rfl);have B:=aa D;clear p D;rw[K.o];go_enter func35,ntmps35;go_wp2_with fail;refine(JB _ _).bC ?_;rintro e s⟨rfl,rfl⟩;rw[B.o];go_wp2;go_ret;exact⟨rfl,aI⟩
def Cm.g8(c:Cm):Tr:=⟨c.id,c.mb,c.ot,c.sc,c.qt,c.pr⟩
end
structure YA where
 (gy gw:Nat)
 D:DA
 G:GA
 (vm vs vc vt vl:Value)
structure YS where
 C:bZ
 D:DS
 G:GS
 ce:List Tm
 (phase clock cycle:Int)
 told:Nat
 log:List Ev
def bZ.room(C:bZ):Int:=4*(C.bU:Int)+2*(C.mem:Int)
abbrev YA.cells(A:YA)(Y:YS):Array Value:=xU A.vm A.vs A.vc Y.C A.D.gd A.G.gr A.gw Y.phase Y.clock Y.cycle Y.told A.vl
structure dp(w:World)(B:Nat)(A:YA)(Y:YS):Prop where
 blk:bI w A.gy 94 (A.cells Y)
 ct:iz w B A.vm A.vs A.vc Y.C
 dg:cQ w B A.D Y.D
 reg:fu w B A.G Y.G
 ce:kT w B A.gw Y.C.room A.vt Y.ce
 log:w.ownsRow B 101 5 A.vl Y.log (bN eE Y.log)
 lA:∀k,A.vl.ownBlock=some k->A.D.vl.ownBlock≠some k
 l1:B<=A.gy
 ol:kO w
 l0:0<B
structure dv(Y:YS):Prop where
 dc:Y.D.C=Y.C
 gc:Y.G.C=Y.C
 ez:cC Y.D
 gH:lJ Y.G
 told:Y.told<=Y.D.log
 ce:(Y.ce:Int)<=Y.C.room
 bU:0<=Y.cycle/\Y.cycle<=100000
 clock:0<=Y.clock/\Y.clock<=100000
 cn:0<=Y.D.dt/\Y.D.dt<=100000
 jD:∀x∈Y.D.bQ,bO x.done
variable{Y:YS}
def dv.ct(ok:dv Y):dz Y.C:=by have:=ok.ez.ct;rwa[ok.dc]at this
def Ee(h:dz C):C.room<=48:=by have:=h.c2;have:=h.m2;unfold bZ.room;omega
def dv.wn(ok:dv Y):Y.ce.length<=48:=by have:=ok.ce;have:=Ee ok.ct;omega
def dp.lt{w:bD}{B:Nat}{A:YA}(h:dp w B A Y):B<=w:=bW h.l1 (pE h.blk.lt)
def fu.d{w wd:bD}{B:Nat}{A:GA}{D:GS}(h:fu w B A D)(e:wd.heap=w.heap:=by rfl):fu wd B A D:=⟨h.blk.d e,h.ct.d e,h.qe.d e,h.pw.d e,lu h.cj e,lu h.used e,h.l1,h.l2,h.l3⟩
variable{g:Nat}{v:bE}{l:bF Tm}
def kT.d{w wd:bD}{B:Nat}{room:Int}(h:kT w B g room v l)(e:wd.heap=w.heap:=by rfl):kT wd B g room v l:=⟨h.blk.d e,lu h.own e,h.l1⟩
variable{TS:bF TypeId}
def kT.cu{B:Nat}{K:bF Nat}{w:bD}{room:Int}(h:kT w B g room v l)(m:cg B TS K w w')(h1:150∉TS)(h2:197∉TS):kT w' B g room v l:=⟨h.blk.cu m h1,dq h.own m h2,h.l1⟩
def dp.keep{w:bD}{B:Nat}{A:YA}(h:dp w B A Y)(c:Bw w w'):dp w' B A Y:=⟨h.blk.keep c,h.ct.keep c,h.dg.keep c,h.reg.keep c,h.ce.keep c,cJ h.log c,h.lA,h.l1,h.ol.keep c,h.l0⟩
def dp.alloc{w:bD}{B:Nat}{A:YA}(h:dp w B A Y)(o:Obj):dp (w.alloc o) B A Y:=h.keep aI
def dp.d{w wd:bD}{B:Nat}{A:YA}(h:dp w B A Y)(e:wd.heap=w.heap:=by rfl):dp wd B A Y:=⟨h.blk.d e,h.ct.d e,h.dg.d e,h.reg.d e,h.ce.d e,lu h.log e,h.lA,h.l1,h.ol.d e,h.l0⟩
def dp.keepD{w wd:bD}{B:Nat}{A:YA}(h:dp w B A Y)(c:Bw wd w')(e:wd.heap=w.heap:=by rfl):dp w' B A Y:=(h.d e).keep c
abbrev YTS:List TypeId:=[94,138,184,227,333,186,71,101,175,211,144,188,191,163,268,150,197]
structure dr(B:Nat)(w w':World)(A A':YA)(Y':YS):Prop where
 at':dp w' B A' Y'
 mod:cg B YTS [] w w'
 gy:A'.gy=A.gy
section
variable {B:Nat} {w w' w1 w2:World} {A A1 A2 A':YA} {Y Y1 Y2 Y':YS}
def dr.trans(s:dr B w w1 A A1 Y1)(t:dr B w1 w2 A1 A2 Y2):dr B w w2 A A2 Y2:=⟨t.at',s.mod.bu t.mod,t.gy.bu s.gy⟩
def dr.bu:=@dr.trans
def dr.same(h:dp w B A Y)(c:Bw w w'):dr B w w' A A Y:=⟨h.keep c,cg.below c,rfl⟩
def dr.keep(s:dr B w w1 A A1 Y1)(c:Bw w1 w2):dr B w w2 A A1 Y1:=s.bu (dr.same s.at' c)
def dr.before(s:dr B w1 w2 A A1 Y1)(c:Bw w w1):dr B w w2 A A1 Y1:=⟨s.at',(cg.below c).bu s.mod,s.gy⟩
def dp.pb(h:dp w B A Y):dS w (oG A.vl) A.D:=fun k hk=>by
 have hk:=mX.1 hk;refine⟨?_,h.lA k hk⟩;obtain⟨_,h2⟩:=h.log;rcases h2 with⟨e,_⟩|⟨g,cap,cur,e,_,hh,_⟩
 ·rw[e]at hk;simp[Value.ownBlock]at hk
 ·rw[e]at hk;simp[Value.ownBlock]at hk;subst hk;exact⟨cur,hh⟩
def dp.pd{D':DS}{A':DA}(h:dp w B A Y)(s:cL B (oG A.vl) w w' A.D A' D'):dr B w w' A {A with D:=A'} {Y with D:=D'}:=by have m:=s.mod;refine⟨⟨?_,h.ct.cu m ah ah ah,s.at',h.reg.cu m ah ah ah ah ah ah ah ah,h.ce.cu m ah ah,Bq h.log m (fun k hk=>mX.2 hk),fun k hk=>((h.pb.step s) k (mX.2 hk)).2,h.l1,h.ol.cu m h.l0,h.l0⟩,(m.bC ah).less au,rfl⟩;have u:=h.blk.cu m ah;show bI w' A.gy 94 (xU A.vm A.vs A.vc Y.C A'.gd A.G.gr A.gw Y.phase Y.clock Y.cycle Y.told A.vl);rw[s.gd];exact u
def dp.yr{G':GS}{A':GA}(h:dp w B A Y)(s:jz B [] w w' A.G A' G'):dr B w w' A {A with G:=A'} {Y with G:=G'}:=by
 have m:=s.mod;refine⟨⟨?_,h.ct.cu m ah ah ah, ?_,s.at',h.ce.cu m ah ah,dq h.log m ah,h.lA,h.l1,h.ol.cu m h.l0,h.l0⟩,m.bC ah,rfl⟩
 ·have u:=h.blk.cu m ah;show bI w' A.gy 94 (xU A.vm A.vs A.vc Y.C A.D.gd A'.gr A.gw Y.phase Y.clock Y.cycle Y.told A.vl);rw[s.gr];exact u
 ·have d:=h.dg;exact⟨d.blk.cu m ah,d.ct.cu m ah ah ah,d.gC.cu m ah ah ah ah ah,d.fZ.cu m ah ah,d.box.cu m ah,d.nF.cu m ah ah ah,dq d.cv m ah,dq d.who m ah,dq d.log m ah,d.l1,d.l2⟩
def cQ.cu{A:DA}{D:DS}{K:bF Nat}(d:cQ w B A D)(m:cg B TS K w w')(h:∀T∈[138,125,127,63,184,224,2,227,333,186,71,175,211,3,101],T∉TS):cQ w' B A D:=⟨d.blk.cu m (h _ ah),d.ct.cu m (h _ ah) (h _ ah) (h _ ah),d.gC.cu m (h _ ah) (h _ ah) (h _ ah) (h _ ah) (h _ ah),d.fZ.cu m (h _ ah) (h _ ah),d.box.cu m (h _ ah),d.nF.cu m (h _ ah) (h _ ah) (h _ ah),dq d.cv m (h _ ah),dq d.who m (h _ ah),dq d.log m (h _ ah),d.l1,d.l2⟩
def dp.Ef(h:dp w B A Y)(m:cg B [150,197] [] w w')(hw:kT w' B A.gw Y.C.room v l):dr B w w' A {A with vt:=v} {Y with ce:=l}:=⟨⟨h.blk.cu m ah,h.ct.cu m ah ah ah,h.dg.cu m ah,h.reg.cu m ah ah ah ah ah ah ah ah,hw,dq h.log m ah,h.lA,h.l1,h.ol.cu m h.l0,h.l0⟩,m.bC ah,rfl⟩
def dp.JG{p k c:Int}(h:dp w B A Y)(m:cg B [94] [] w w')(hb:bI w' A.gy 94 (A.cells {Y with phase:=p,clock:=k,cycle:=c})):dr B w w' A A {Y with phase:=p,clock:=k,cycle:=c}:=⟨⟨hb,h.ct.cu m ah ah ah,h.dg.cu m ah,h.reg.cu m ah ah ah ah ah ah ah ah,h.ce.cu m ah ah,dq h.log m ah,h.lA,h.l1,h.ol.cu m h.l0,h.l0⟩,m.bC ah,rfl⟩
def dp.VS(h:dp w B A Y)(k:Int):dr B w (w.setCell (be A.gy 12) k) A A {Y with clock:=k}:=h.JG (cg.set h.blk au h.l1 au) (h.blk.set 12 _)
def dp.VT(h:dp w B A Y)(k:Int):dr B w (w.setCell (be A.gy 13) k) A A {Y with cycle:=k}:=h.JG (cg.set h.blk au h.l1 au) (h.blk.set 13 _)
end
def YS.hear(Y:YS):YS:={Y with log:=Y.log++Y.D.log.drop Y.told,told:=Y.D.log.length}
def YS.tell(Y:YS)(x:Ev):YS:={Y.hear with log:=Y.hear.log++[x]}
def YS.come(Y:YS)(p:Int):YS:=({Y with phase:=p}:YS).tell ⟨1,0,0,p,Y.cycle⟩
section
variable {B:Nat} {w w':World} {A:YA} {Y:YS}
variable{n:Nat}
def dp.heard{vl':bE}{l:bF Ev}{p:Int}(h:dp w B A Y)(t:zn w w' B A.gy (A.cells {Y with phase:=p}) A.vl l n (oG A.D.vl) vl'):dr B w w' A {A with vl:=vl'} {Y with phase:=p,log:=l,told:=n}:=by
 have m:=t.mod;have d:=h.dg;refine⟨⟨t.blk,h.ct.cu m ah ah ah, ?_,h.reg.cu m ah ah ah ah ah ah ah ah,h.ce.cu m ah ah,t.own, ?_,h.l1,h.ol.cu m h.l0,h.l0⟩,(m.bC ah).less au,rfl⟩
 ·exact⟨d.blk.cu m ah,d.ct.cu m ah ah ah,d.gC.cu m ah ah ah ah ah,d.fZ.cu m ah ah,d.box.cu m ah,d.nF.cu m ah ah ah,dq d.cv m ah,dq d.who m ah,Bq d.log m (fun k a=>mX.2 a),d.l1,d.l2⟩
 ·intro k a b;rcases t.goes with e|⟨j,hj,e⟩
  ·exact h.lA k (by rw[<-e];exact a) b
  ·have r:j=k:=by rw[e]at a;simpa using a
   have:=(d.log.lt k b).2
   omega
def VU(h:dp w B A Y)(ok:dv Y)(hn:Y.log.length+Y.D.log.length<=999000):bG 38 #[ptr A.gy] w fun e w'=>∃A',e=.returned (.tuple #[])/\dr B w w' A A' Y.hear:=(GI B A.gy A.D.gd (A.cells Y) (A.D.cells Y.D) A.vl A.D.vl Y.log Y.D.log Y.told (oG A.D.vl) w h.blk rfl rfl rfl h.l1 h.lt h.log h.dg.blk rfl h.dg.log ok.told af (fun hg=>fp h.blk h.dg.log ah A.gy (mX.1 hg) rfl) (fun k hk hk2=>h.lA k hk (mX.1 hk2))).bC fun _ _ ⟨vl',he,t⟩=>⟨_,he,h.heard (p:=Y.phase) t⟩
def Eg(h:dp w B A Y)(ok:dv Y)(hn:Y.log.length+Y.D.log.length<=999000)(x:Ev):bG 106 #[ptr A.gy,vEv x] w fun e w'=>∃A',e=.returned (.tuple #[])/\dr B w w' A A' (Y.tell x):=(GJ x B A.gy A.D.gd (A.cells Y) (A.D.cells Y.D) A.vl A.D.vl Y.log Y.D.log Y.told (oG A.D.vl) w h.blk rfl rfl rfl h.l1 h.lt h.log h.dg.blk rfl h.dg.log ok.told af (fun hg=>fp h.blk h.dg.log ah A.gy (mX.1 hg) rfl) (fun k hk hk2=>h.lA k hk (mX.1 hk2)) (fun k hk=>(h.dg.log.lt k (mX.1 hk)).2)).bC fun _ _ ⟨vl',he,t⟩=>⟨_,he,h.heard (p:=Y.phase) t⟩
def yt(h:dp w B A Y)(ok:dv Y)(hn:Y.log.length+Y.D.log.length<=999000)(p:Int):bG 102 #[ptr A.gy,p] w fun e w'=>∃A',e=.returned (.tuple #[])/\dr B w w' A A' (Y.come p):=(OB p Y.cycle Y.phase B A.gy A.D.gd (A.cells Y) (A.D.cells Y.D) A.vl A.D.vl Y.log Y.D.log Y.told (oG A.D.vl) w h.blk rfl rfl rfl rfl rfl h.l1 h.lt h.log h.dg.blk rfl h.dg.log ok.told af (fun hg=>fp h.blk h.dg.log ah A.gy (mX.1 hg) rfl) (fun k hk hk2=>h.lA k hk (mX.1 hk2)) (fun k hk=>(h.dg.log.lt k (mX.1 hk)).2)).bC fun _ _ ⟨vl',he,t⟩=>⟨_,he,h.heard (p:=p) t⟩
end
variable{Y:YS}
def dv.hear(ok:dv Y):dv Y.hear:=⟨ok.dc,ok.gc,ok.ez,ok.gH,bL _,ok.ce,ok.bU,ok.clock,ok.cn,ok.jD⟩
def dv.tell(ok:dv Y)(x:Ev):dv (Y.tell x):=⟨ok.dc,ok.gc,ok.ez,ok.gH,bL _,ok.ce,ok.bU,ok.clock,ok.cn,ok.jD⟩
def dv.come(ok:dv Y)(p:Int):dv (Y.come p):=⟨ok.dc,ok.gc,ok.ez,ok.gH,bL _,ok.ce,ok.bU,ok.clock,ok.cn,ok.jD⟩
section
attribute [local go_sem ↓] wp_at_zero wp_at_succ
def iE(C:bZ)(i:Int):Prop:=0<=i/\i<C.bU
instance(C:bZ)(i:Int):Decidable (iE C i):=by unfold iE;infer_instance
def VV(vm vs vc:bE)(C:bZ)(i:Int)(w:bD)(hc:dM w vm vs vc C)(hv:dz C):bG 313 #[eT vm vs vc C,i] w fun e w'=>(∃n:Int,e=.returned (.tuple #[n,aY (if iE C i then 0 else 8)]))/\Bw w w':=by
 have g:Bw w (aZ w (cU vm vs vc C) 26):=aI;let⟨G,B,M⟩:=Jh3 (hc.alloc (bH (cU vm vs vc C) 26)) (bI.new w 26 (cU vm vs vc C)) hv;let⟨D,k,u,_,S,t,a⟩:=hc.c;have E:=aa a;subst u;clear hc hv a;by_cases d:i<0
 ·have l:=dT d;have q:Hid ((if iE C i then(0:Int)else 8)=8):=aa (ya Qdj);rw[q.o];go_enter func313,ntmps313;go_wp2_with fail;refine(sw vm vs _ C _ G.o M.o).bC ?_;rintro e h⟨rfl,f⟩;go_wp2;go_ret2;exact⟨⟨_,rfl⟩,g.bu (f.bC g.size)⟩
 have l:=dF d;by_cases s:(C.bU:Int)<=i
 ·have N:=dT s;have q:Hid ((if iE C i then(0:Int)else 8)=8):=aa (ya Qdj);rw[q.o];exact QaL
 have N:=dF s;have q:Hid ((if iE C i then(0:Int)else 8)=0):=aa (yc Qdj);rw[q.o];by_cases F:i=0
 ·subst F;have r:(decide (C.bU=[]))=false:=dF (by intro e;have:=M.o.c1;rw[e]at this;simp at this);have T:¬C.bU=[]:=of_decide_eq_false r;exact QaL
 ·let⟨j,J⟩:∃j:Nat,i=(j:Int)+1:=⟨(i-1).toNat,af⟩;subst J;have P:(((j:Int)+1)==0)=false:=aA;have Q:j<C.bU:=af;obtain⟨b,m,rfl,y,a⟩:=E.o af;have A:=a j Q 3 _ rfl;have L:IntKind.i64.wrap ((j:Int)+1-1)=(j:Int):=by rw[Int.add_sub_cancel];exact gI _ (by have:=M.o.c2;omega)
  have I:wrap64 ((j:Int)+1-1)=(j:Int):=by have:=M.o.c2;unfold wrap64;omega
  have O:0<=(j:Int):=af;have K:j<(C.bU:Int):=af;unfold maxLen at t;clear d s F a;generalize C.bU[j]=x at*;go_enter func313,ntmps313;go_wp2_with fail;refine(sw vm vs _ C _ G.o M.o).bC ?_;rintro e h⟨rfl,f⟩;have R:=aa (B.o.keep f);have H:=R.o.c 2;have z:=g.bu (f.bC g.size);have v:=(z.c (p:=(b,m+j*4+3)) y).bu A;go_wp2;go_ret2;exact⟨⟨_,rfl⟩,z⟩
def fN(C:bZ)(i:Int):Cy:=if iE C i then C.bU.getD i.toNat ⟨0,0,0,0⟩else⟨0,0,0,0⟩
def VW(vm vs vc:bE)(C:bZ)(i:Int)(w:bD)(hc:dM w vm vs vc C)(hv:dz C):bG 254 #[eT vm vs vc C,i] w (bi (.tuple #[xO (fN C i),aY (if iE C i then 0 else 8)]) w):=by
 have cA:Bw w (aZ w (cU vm vs vc C) 26):=aI;let⟨g,a⟩:=aH ((w.alloc (bH (cU vm vs vc C) 26)).alloc (bH #[(),(),(),()] 63));have d:Bw w g:=by rw[<-a];exact cA.alloc cA.size _
 have G:=aa (hc.keep d);have N:Hid (bI g w 26 (cU vm vs vc C)):=aa (by rw[<-a];exact(bI.new w 26 (cU vm vs vc C)).alloc _);have R:Hid (bI g (w.heap.size+1) 63 #[(),(),(),()]):=aa QbR;let⟨A,S⟩:=Jh2 a (VV vm vs vc C i g G.o hv);have q:=N.o;let⟨q0,E,H,B,q4,l,q6,r⟩:=s8 N.o;let⟨D,k,ac,_,d5,t,L⟩:=hc.c;have ab:=aa L;subst ac;clear L q;by_cases J:iE C i
 ·have U:Hid ((if iE C i then(0:Int)else 8)=0):=aa (yc J);rw[U.o]at S⊢;obtain⟨j,rfl⟩:∃j:Nat,i=(j:Int):=⟨i.toNat,by unfold iE at J;omega⟩;have Q:j<C.bU:=by unfold iE at J;omega
  have T:Hid (fN C (j:Int)=C.bU[j]):=aa (by unfold fN;rw[yc J,xD,dy,dG Q];rfl);rw[T.o];obtain⟨b,m,rfl,y,L⟩:=ab.o af;let⟨p0,Z,Y,p3⟩:=yX (L j Q);have O:0<=(j:Int):=af;have ad:j<(C.bU:Int):=af;unfold maxLen at t;clear J hc hv L T U a;generalize C.bU[j]=x at*;go_enter func254,ntmps254;go_wp2_with fail;rw[show(w.alloc (bH (cU vm vs _ C) 26)).alloc (bH #[(),(),(),()] 63)=g from A.o];go_wp2_with fail;refine S.o.bC ?_;rintro e w1⟨⟨n,rfl⟩,V⟩;have z:=d.bu (V.bC d.size);have X:=aa (R.o.keep V);let⟨u,r0,s,P,f⟩:=Jt5 ((N.o.keep V).c 2) ((z.c (p:=(b,m+j*4)) y).bu p0) ((z.c (p:=(b,m+j*4+1)) y).bu Z) ((z.c (p:=(b,m+j*4+2)) y).bu Y) ((z.c (p:=(b,m+j*4+3)) y).bu p3);go_wp2_with(refine fQ rfl 63 _ _ rfl rfl (w.heap.size+1) #[x.cut,x.cI,x.fJ,x.close] rfl rfl aj aD _ X.o rfl ?_;intro M F;have PX:=aa F;have W:=F.row.c 0;have I:=F.row.c 1;have h:=F.row.c 2;have K:=F.row.c 3;clear F);refine wb (v:=.tuple #[.agg #[x.cut,x.cI,x.fJ,x.close],()]) QcN rfl ?_;exact⟨rfl,PX.o.low z af⟩
 ·have U:Hid ((if iE C i then(0:Int)else 8)=8):=aa (ya J);rw[U.o]at S⊢;have T:Hid (fN C i=⟨0,0,0,0⟩):=aa (by unfold fN;rw[ya J]);rw[T.o];clear J hc hv T U a ab;go_enter func254,ntmps254;go_wp2_with fail;rw[show(w.alloc (bH (cU vm vs _ C) 26)).alloc (bH #[(),(),(),()] 63)=g from A.o];go_wp2_with fail;refine S.o.bC ?_;rintro e w1⟨⟨n,rfl⟩,V⟩;have z:=d.bu (V.bC d.size);have X:=aa (R.o.keep V);go_wp2_with(refine fQ rfl 63 _ _ rfl rfl (w.heap.size+1) #[(),(),(),()] rfl rfl aj aD _ X.o rfl ?_;intro M F;have PX:=aa F;have W:=F.row.c 0;have I:=F.row.c 1;have h:=F.row.c 2;have K:=F.row.c 3;clear F);refine wb (v:=.tuple #[.agg #[(),(),(),()],(8:Int)]) QcN rfl ?_;exact⟨rfl,PX.o.low z af⟩
end
section
open Go.Shelf
attribute [local go_sem] Oper.semAt_some
def iL(C:bZ)(x:Cy)(n:Nat):List (Int×Int):=(List.range n).filterMap fun(i:Nat)=>if 0<C.lead/\x.cut<x.cI-(2-(i:Int))*C.lead then some ((i:Int)+1,x.cI-(2-(i:Int))*C.lead)else none
def Af(C:bZ)(x:Cy)(n:Nat):iL C x (n+1)=iL C x n++if 0<C.lead/\x.cut<x.cI-(2-(n:Int))*C.lead then[((n:Int)+1,x.cI-(2-(n:Int))*C.lead)]else[]:=by
 unfold iL;rw[xH,xz];congr 1;by_cases h:0<C.lead/\x.cut<x.cI-(2-(n:Int))*C.lead
 ·simp[h]
 ·simp[h]
def Eh(C:bZ)(x:Cy)(n:Nat):(iL C x n).length<=n:=by unfold iL;refine bW (gK _ _) ?_;simp
def JH(h:¬0<C.lead)(x:Cy)(n:Nat):iL C x n=[]:=by unfold iL;rw[List.filterMap_eq_nil_iff];intro i _;simp[h]
def KB(a b:Nat)(W W':World):Prop:=W'.heap[a]?=W.heap[a]?/\W'.heap[b]?=W.heap[b]?
def KB.refl(a b:Nat)(W:bD):KB a b W W:=⟨rfl,rfl⟩
variable{W:bD}
def KB.trans{a b:Nat}{U V:bD}(h:KB a b U V)(k:KB a b V W):KB a b U W:=⟨k.1.bu h.1,k.2.bu h.2⟩
def KB.bu:=@KB.trans
abbrev VX(p:Int×Int):Array Value:=#[p.1,p.2]
def VY(F:Fence)(n:Nat)(h:F.fn 314)(hro:F.round=none)(hn:1<=n)(l bc bx:Nat)(vm vs vc:bE)(C:bZ)(x:Cy)(hC:dz C)(hx:0<=x.cI/\x.cI<=100000)(J Jx:bF (Int×Int)->bD->Prop)(hY:∀pre y W,J pre W->pre.length<2->YieldAt F (n-1) prog l #[aY y.1,aY y.2] W fun e W'=>
   (e=.returned (.bool true)/\J (pre++[y]) W'/\KB bc bx W W')∨(e=.returned (.bool false)/\Jx (pre++[y]) W'))(W:bD)(hc:bI W bc 26 (cU vm vs vc C))(hbx:bI W bx 63 (iy x))(h0:J [] W):
  CallsIn F n prog 314 #[.func (.yield l) #[] #[],ptr bc,ptr bx] W fun e W'=>(∃v,e=.returned v)/\
   ((∃ys,ys=iL C x 2/\J ys W')∨(∃pre,True/\Jx pre W')):=by
 refine callsIn_of_wp func314 rfl h ?_ hro;simp only[ntmps314,mN,gL,jE,Nat.reduceAdd,Nat.reduceSub,uU,uT,uW,uV,lU,rY];gi_wp2
 gi_loopw [4] (fun p wr=>∃k:Nat,k<=2/\p=.int .i64 ((k+1:Nat):Int)/\J (iL C x k) wr/\KB bc bx W wr) (fun p _=>3-(intOf p).toNat)
 exact⟨0,af,rfl,h0,KB.refl _ _ _⟩;obtain⟨k,H,rfl,s,u⟩:=hrel;have z:=aa s;have S:=hC.lead;let⟨G,T⟩:=Jh2 (u.1.trans hc) (u.2.trans hbx);have q:bI wr bc 26 (cU vm vs vc C):=G.o;have m:bI wr bx 63 (iy x):=T.o;have L:=q.c 5;let⟨E,V⟩:=m.k2 0 1;clear s q m;obtain rfl|rfl|rfl:k=0∨k=1∨k=2:=af
 ·by_cases j:0<C.lead
  ·have r:=dT j;have i:wrap64 (2*C.lead)=2*C.lead:=jF _ af;have t:IntKind.i64.wrap (2*C.lead)=2*C.lead:=gI _ af;have O:wrap64 (x.cI-2*C.lead)=x.cI-2*C.lead:=jF _ af;have X:IntKind.i64.wrap (x.cI-2*C.lead)=x.cI-2*C.lead:=gI _ af;have D:Hid (iL C x 1=iL C x 0++if x.cut<x.cI-2*C.lead then[((1:Int),x.cI-2*C.lead)]else[]):=aa (by rw[Af];simp[j]);by_cases d:x.cut<x.cI-2*C.lead
   ·have Q:=dT d;have K:Hid (iL C x 1=iL C x 0++[((1:Int),x.cI-2*C.lead)]):=aa (by rw[D.o,yc d]);obtain⟨fn,A,N,I,B,M⟩:=hY _ ((1:Int),x.cI-2*C.lead) wr z.o (by have:=Eh C x 0;omega);dsimp only at B;clear d;gi_wp2
    refine M.mono ?_;rintro e b (⟨rfl,f,a⟩|⟨rfl,g⟩)
    ·gi_wp2
     go_roundw;exact⟨1,af,rfl,by rw[K.o];exact f,u.trans a⟩;decide
    ·exact Qbx
   ·have Q:=dF d;have K:Hid (iL C x 1=iL C x 0):=aa (by rw[D.o,ya d];simp);clear d;gi_wp2
    refine⟨nofun, ?_⟩;gi_wp2
    go_roundw;exact⟨1,af,rfl,by rw[K.o];exact z.o,u⟩;decide
  ·exact Qbw
 ·by_cases j:0<C.lead
  ·have r:=dT j;have i:wrap64 (1*C.lead)=1*C.lead:=jF _ af;have t:IntKind.i64.wrap (1*C.lead)=1*C.lead:=gI _ af;have O:wrap64 (x.cI-C.lead)=x.cI-C.lead:=jF _ af;have X:IntKind.i64.wrap (x.cI-C.lead)=x.cI-C.lead:=gI _ af;have D:Hid (iL C x 2=iL C x 1++if x.cut<x.cI-C.lead then[((2:Int),x.cI-C.lead)]else[]):=aa (by rw[Af];simp[j]);by_cases d:x.cut<x.cI-C.lead
   ·have Q:=dT d;have K:Hid (iL C x 2=iL C x 1++[((2:Int),x.cI-C.lead)]):=aa (by rw[D.o,yc d]);obtain⟨fn,A,N,I,B,M⟩:=hY _ ((2:Int),x.cI-C.lead) wr z.o (by have:=Eh C x 1;omega);dsimp only at B;clear d;gi_wp2
    refine M.mono ?_;rintro e b (⟨rfl,f,a⟩|⟨rfl,g⟩)
    ·gi_wp2
     go_roundw;exact⟨2,af,rfl,by rw[K.o];exact f,u.trans a⟩;decide
    ·exact Qbx
   ·have Q:=dF d;have K:Hid (iL C x 2=iL C x 1):=aa (by rw[D.o,ya d];simp);clear d;gi_wp2
    refine⟨nofun, ?_⟩;gi_wp2
    go_roundw;exact⟨2,af,rfl,by rw[K.o];exact z.o,u⟩;decide
  ·exact Qbw
 ·gi_wp2
  go_end0;exact⟨⟨_,rfl⟩,.inl ⟨_,rfl,z.o⟩⟩
def VZ(F:Fence)(n:Nat)(h:F.fn 255)(hro:F.round=none)(vm vs vc:bE)(C:bZ)(x:Cy)(w:bD):CallsIn F n prog 255 #[eT vm vs vc C,xO x] w fun e w'=>e=.returned (.func (.func 314) #[] #[ptr w,ptr (w.heap.size+1)])/\w'=(w.alloc (bH (cU vm vs vc C) 26)).alloc (bH (iy x) 63):=by
 refine callsIn_of_wp func255 rfl h ?_ hro;simp only[ntmps255,mN,gL,jE,Nat.reduceAdd,Nat.reduceSub,uU,uT,uW,uV,lU,rY];gi_wp2
 go_ret;exact⟨rfl,rfl⟩
def V0(F:Fence)(n:Nat)(h:F.fn 314)(hro:F.round=none)(hn:1<=n)(bc bx:Nat)(vm vs vc:bE)(C:bZ)(x:Cy)(hC:dz C)(hx:0<=x.cI/\x.cI<=100000)(w:bD)(hc:bI w bc 26 (cU vm vs vc C))(hbx:bI w bx 63 (iy x)):
  SeqStopsK F n prog 314 #[ptr bc,ptr bx] VX (KB bc bx) (fun ys=>ys=iL C x 2) (fun _=>True) 2 w:=fun l J Jx W hW _ _ hY h0=>
 VY F n h hro hn l bc bx vm vs vc C x hC hx J Jx hY W (hc.keep hW) (hbx.keep hW) h0
def lx(m:Int)(p:Int×Int):Tm:=⟨p.2,2,m,p.1⟩
def ky(C:bZ)(i m:Int):List Tm:=(iL C (fN C i) 2).map (lx m)
def V4(vm vs vc:bE)(C:bZ)(i m:Int)(w:bD)(hc:dM w vm vs vc C)(hv:dz C)(hi:iE C i)(hm:fR C m)(hx:0<=(fN C i).cI/\(fN C i).cI<=100000):bG 208 #[eT vm vs vc C,aY i,aY m] w fun e w'=>∃u,e=.returned (.tuple #[u,aY 0])/\w'.ownsRow w 197 4 u (ky C i m).length (bN fB (ky C i m))/\Bw w w':=by
 refine(callsIn_wide (n:=5)).1 ?_;have hF:Fence.wide.fn 208:=trivial;have ay:Fence.wide.fn 254:=trivial;have aB:Fence.wide.fn 112:=trivial;have aq:Fence.wide.fn 255:=trivial;have f:Fence.wide.round=none:=rfl;have cA:Bw w ((w.alloc (bH (cU vm vs vc C) 26)).alloc (bH #[aY m] 3)):=aI.alloc au _;have V:=aa (VW vm vs vc C i _ (hc.keep cA) hv);have G:Hid ((if iE C i then(0:Int)else 8)=0):=aa (yc hi);rw[G.o]at V;have HX:=aa hx;have ar:Hid (ky C i m=(iL C (fN C i) 2).map (lx m)):=aa rfl;rw[ar.o];generalize fN C i=x at*;clear hi;refine callsIn_of_wp_marks func208 rfl hF ?_ f;simp only[ntmps208,mN,gL,jE,Nat.reduceAdd,Nat.reduceSub,uU,uT,uW,uV,lU,rY];have HB:Hid (bI ((w.alloc (bH (cU vm vs vc C) 26)).alloc (bH #[aY m] 3)) w 26 (cU vm vs vc C)):=aa ((bI.new w 26 _).alloc _);have an:Hid (bI ((w.alloc (bH (cU vm vs vc C) 26)).alloc (bH #[aY m] 3)) (w.heap.size+1) 3 #[aY m]):=aa (heap_alloc2_new _ _ _);let⟨HC,HM,HV⟩:=Jh3 hc hm hv;clear hc hv hm hx;gi_wp2_with (gi_at_call 254;refine(callsIn_wide.2 V.o).bC ?_;rintro e w1⟨rfl,c1⟩;have J:=aa ((HB.o.keep c1).alloc (bH (iy x) 63));have U:=aa ((an.o.keep c1).alloc (bH (iy x) 63));have X1:=aa (bI.new w1 63 (iy x));have t:=aa ((cA.bu (c1.bC cA.size)).alloc (bW cA.size c1.size) (.cells (iy x) 63));obtain⟨j,Z,p2,p3,p4,p5,p6,p7⟩:=s8 J.o;have m0:=U.o.c 0;have aC:w.heap.size+2<=w1.heap.size:=(by have h:=c1.size;simpa using h);clear c1)
 have F:=aa (lG vm vs vc C _ (HC.o.keep t.o) m);rw[yc HM.o]at F;let⟨Y,hY⟩:=aH (w1.alloc (bH (iy x) 63));have aF:w1.heap.size<Y.heap.size:=by rw[<-hY];simp
 gi_wp2_with (first
  |(gi_at_call 112;refine(callsIn_wide.2 F.o).bC ?_;rintro e k⟨mb,rfl,c2⟩;have B2:=aa (((J.o.keep c2).alloc (bH (eR mb) 125)).alloc (bH #[.slice none 0 0] 148));have O:=aa (((U.o.keep c2).alloc (bH (eR mb) 125)).alloc (bH #[.slice none 0 0] 148));have y:=aa (((X1.o.keep c2).alloc (bH (eR mb) 125)).alloc (bH #[.slice none 0 0] 148));have C2:=aa (((t.o.bu (c2.bC t.o.size)).alloc (bW t.o.size c2.size) (.cells (eR mb) 125)).alloc (by have h1:=t.o.size;have h2:=c2.size;simp at h1 h2⊢;omega) (bH #[.slice none 0 0] 148));obtain⟨j,Z,p2,p3,p4,p5,p6,p7⟩:=s8 B2.o;have m0:=O.o.c 0;have x0:=y.o.c 0;have x1:=y.o.c 1;have x2:=y.o.c 2;have x3:=y.o.c 3;have aD:Y.heap.size<=k:=(by rw[<-hY];exact c2.size);clear c2)
  |(gi_at_call 255;refine(VZ Fence.wide _ aq f vm vs vc C x _).bC ?_;rintro e w3⟨rfl,rfl⟩))
 let⟨i0,hi,S,X,ap⟩:=wm xS;have d:Hid (Go.Boxed ((((k.alloc (bH (eR mb) 125)).alloc (bH #[bd] 148)).alloc (bH (cU vm vs vc C) 26)).alloc (bH (iy x) 63)) (k.heap.size+1) 148 bd):=aa (by have h:=((Go.Boxed.new (aZ k (eR mb) 125) 148 bd).alloc (bH (cU vm vs vc C) 26)).alloc (bH (iy x) 63);simpa using h);have ac:Hid (bI ((((k.alloc (bH (eR mb) 125)).alloc (bH #[bd] 148)).alloc (bH (cU vm vs vc C) 26)).alloc (bH (iy x) 63)) (k.heap.size+1+1) 26 (cU vm vs vc C)):=aa (by have h:=(bI.new ((k.alloc (bH (eR mb) 125)).alloc (bH #[bd] 148)) 26 (cU vm vs vc C)).alloc (bH (iy x) 63);simpa using h);have ad:Hid (bI ((((k.alloc (bH (eR mb) 125)).alloc (bH #[bd] 148)).alloc (bH (cU vm vs vc C) 26)).alloc (bH (iy x) 63)) (k.heap.size+1+1+1) 63 (iy x)):=aa (by have h:=bI.new (((k.alloc (bH (eR mb) 125)).alloc (bH #[bd] 148)).alloc (bH (cU vm vs vc C) 26)) 63 (iy x);simpa using h);let⟨am,ag⟩:=Jh2 ((O.o.alloc (bH (cU vm vs vc C) 26)).alloc (bH (iy x) 63)) ((C2.o.alloc C2.o.size (bH (cU vm vs vc C) 26)).alloc (bW C2.o.size au) (.cells (iy x) 63));have H:((((k.alloc (bH (eR mb) 125)).alloc (bH #[bd] 148)).alloc (bH (cU vm vs vc C) 26)).alloc (bH (iy x) 63)).heap.size=k.heap.size+1+1+1+1:=au;have ao:w.heap.size+1<k.heap.size+1:=af;let⟨I,a⟩:=aH ((((k.alloc (bH (eR mb) 125)).alloc (bH #[bd] 148)).alloc (bH (cU vm vs vc C) 26)).alloc (bH (iy x) 63));rw[show(((k.alloc (bH #[aY mb.cw,aY mb.cI] 125)).alloc (bH #[bd] 148)).alloc (bH (cU vm vs vc C) 26)).alloc (bH (iy x) 63)=I from a];rw[a]at d ac ad am ag H;clear a j Z p2 p3 p4 p5 p6 p7 m0 x0 x1 x2 x3;refine wpIn_rangeFunc_ownG f af (gf:=314) (lb:=#[ptr (k.heap.size+1+1),ptr (k.heap.size+1+1+1)]) rfl trivial (enters_of func314 aj rfl)
  (V0 Fence.wide (5-1) trivial f af (k.heap.size+1+1) (k.heap.size+1+1+1) vm vs vc C x HV.o HX.o I ac.o ad.o) KB.bu (fun W l o o' hl h h1 h2=>by have b:=belowK_b (w:=I) (bL I.heap.size) W l o o' hl h h1 h2;exact⟨b.block _ af,b.block _ af⟩) (bM _ _) (fun _=>rfl)
  (fun(E:bF (Int×Int)) W=>(∃v,Go.Boxed W (k.heap.size+1) 148 v/\W.ownsRow (k.heap.size+1) 197 4 v (E.map (lx m)).length (bN fB (E.map (lx m)))/\True)/\Below (k.heap.size+1) I W/\bI W (k.heap.size+1+1) 26 (cU vm vs vc C)/\bI W (k.heap.size+1+1+1) 63 (iy x))
  (fun _ _ _=>False)
  (OwnFrom.and (Own.from (holdsRow_own (k.heap.size+1) (k.heap.size+1) 148 197 4 (fun(E:bF (Int×Int))=>(E.map (lx m)).length) (fun(E:bF (Int×Int))=>bN fB (E.map (lx m))) (fun _ _=>True)) _) (OwnFrom.and (ownFrom_below af af) (fun _ _ _ row hs hg hr=>⟨(hg.block _ hs.1.lt (fun e=>by have h:=(hr _ e.symm).1;omega)).bu hs.1,(hg.block _ hs.2.lt (fun e=>by have h:=(hr _ e.symm).1;omega)).bu hs.2⟩)))
  (fun _ _ _ _ _ hs _ _=>hs)
  ⟨⟨_,d.o,⟨aK,bS ⟨rfl,rfl⟩⟩,trivial⟩,bM _ _,ac.o,ad.o⟩
  (fun p=>{tmps:=#[eT vm vs vc C,.int .i64 i,.int .i64 m,ptr w,undef,ptr (w.heap.size+1),.slice none 0 0,.int .i64 0,ptr w1,.int .i64 0,ptr k,.int .i64 0,ptr (k.heap.size+1),.int .i64 p.1,.int .i64 p.2,.tuple #[xO x,aY 0],.agg #[vm,vs,vc,aY C.line,aY C.capital,aY C.lead,aY C.cj,aY C.cv],.int .i64 i,.tuple #[xO x,aY 0],xO x,.int .i64 0,.int .i64 0,.bool false,undef,.tuple #[sp mb,aY 0],.agg #[vm,vs,vc,aY C.line,aY C.capital,aY C.lead,aY C.cj,aY C.cv],.int .i64 m,.tuple #[sp mb,aY 0],sp mb,.int .i64 0,.int .i64 0,.bool false,undef,.agg #[vm,vs,vc,aY C.line,aY C.capital,aY C.lead,aY C.cj,aY C.cv],.agg #[aY x.cut,aY x.cI,aY x.fJ,aY x.close],.func (.func 314) #[] #[ptr (k.heap.size+1+1),ptr (k.heap.size+1+1+1)],.int .i64 p.1,.int .i64 p.2,undef,undef,undef,undef,undef,undef,undef,undef],defers:=[]}) ?assign ?body ?done ?uC
 case assign=>
  intro l p W K hK;gi_wp2
  exact hK
 case body=>
  rintro l E p W⟨⟨v,hv,P,_⟩,hB,ae,al⟩ aE;let⟨s,Q⟩:=Jh2 ae al;clear ae al;let⟨ai,q,HB⟩:=Jh3 hv P hB;have hc:=hv.c;have aG:W.cell? (be (w.heap.size+1) 0)=m:=(hB.c (p:=(be (w.heap.size+1) 0)) ao).bu (am.o.c 0);have g:=hB.size;have N:(E.map (lx m)).length<=2:=aQ;have r:Hid ((E++[p]).map (lx m)=E.map (lx m)++[lx m p]):=aa au;let⟨L,hL⟩:=aH (E.map (lx m));rw[hL]at q r N;obtain⟨nv,kv,rfl⟩:=bV P;rw[hL]at ai q hc;have aw:Hid (bN fB L++fB (lx m p)=bN fB (L++[lx m p])):=aa aK;clear hv P hB hL;gi_wp2_with (gi_at_builtin;refine wpListIn_append_own _ rfl _ _ 148 rfl (k.heap.size+1) 197 i0 (.agg #[aY 0,aY 0,aY 0,aY 0]) 4 32 underlying148 hi S X ap rfl ah (.slice nv L.length kv) L.length (bN fB L) rfl (q.o.alloc _) (be W 0) 1 1 (fB (lx m p)) rfl rfl (FW W (lx m p) _ rfl) (sq _) az af aA ?_;intro v' w4 R ab _;obtain⟨M,z,rfl⟩:=ownsRow_succ R;obtain⟨ak,T,A,av,ax⟩:=ai.o.appended ah q.o af (bL _) R ab;have aL:=ak.c;have aJ:=ak.frozen)
  have n1:=((s.o.alloc (bH (dL (lx m p)) 197)).grown (q.o.alloc _) ab ah).far 0 (.slice (some (be M 0)) (L.length+1) z) (show k.heap.size+1+1≠k.heap.size+1 from af);have B:=((Q.o.alloc (bH (dL (lx m p)) 197)).grown (q.o.alloc _) ab ah).far 0 (.slice (some (be M 0)) (L.length+1) z) (show k.heap.size+1+1+1≠k.heap.size+1 from af);exact⟨av.from _,⟨n1.bu s.o.symm,B.bu Q.o.symm⟩,⟨_,T,by rw[r.o,cO,<-aw.o];exact A,trivial⟩,HB.o.bu ax,n1,B⟩
 case done=>
  rintro D ys W hD rfl⟨⟨v,hv,P,_⟩,hB,_⟩ hK;have hc:=hv.c;have q:=aa P;clear P hv;gi_wp2
  refine⟨au,.inl ⟨_,_,rfl,run_takeDeferred hK, ?_⟩⟩;refine⟨.tuple #[v,aY 0],by simp[results,results208,go_sem],v,rfl, ?_, ?_⟩
  ·exact d8 (ownsRow_putObj q.o _ hK rfl) af
  ·exact(ag.o.bu (hB.bC af)).bu (belowK_b (w:=I) af W D _ _ hD hK rfl rfl)
 case uC=>
  rintro D c E W _ _ h _;exact h.elim
end
section
open Go.Shelf
structure mC(w:World)(v:Value)(s:List Dr):Prop where
 at':Sl i9 3 w v s
 n:s.length<=16
 ok:pQ s
def JI(F:Fence)(n:Nat)(P:Program)(g:Nat)(lb:Array Value)(N:Nat)(I:World->Prop):Prop:=∀(l:Nat) (J:Nat->World->Prop),(∀k A B,J k A->Bw A B->J k B)->(∀k A,J k A->I A)->
 (∀k v s W,k<N->J k W->mC W v s->YieldAt F (n-1) P l #[v] W fun e W'=>e=.returned (.bool true)/\J (k+1) W')->
 ∀W,J 0 W->CallsIn F n P g (#[.func (.yield l) #[] #[]]++lb) W fun e W'=>(∃v,e=.returned v)/\J N W'
variable{W:bD}{o:Obj}
def V5{l:Nat}(a:Addr)(h:a.block≠l):(W.putObj l o).cell? a=W.cell? a:=by unfold World.cell?;rw[xv h]
def mC.putObj{l:Nat}{s:bF Dr}(h:mC W v s)(hl:∃o2,W.heap[l]?=some o2/\o2.isCells=false)(hs:(W.putObj l o).heap.size=W.heap.size):mC (W.putObj l o) v s:=by
 let⟨a,U,R,H,d,c,P⟩:=h.at';refine⟨⟨a,U,R,H,d,c,fun h0=> ?_⟩,h.n,h.ok⟩;let⟨b,m,ha,u,f⟩:=P h0;refine⟨b,m,ha,by rw[hs];exact u,fun i hi j x hx=> ?_⟩;have F:=f i hi j x hx;rw[V5 _ ?_]
 ·exact F
 ·rintro rfl;obtain⟨o2,J,g⟩:=hl;unfold World.cell? at F;rw[J]at F;cases o2<;>first|(cases g;done)|(cases F;done)|skip
variable{n:Nat}{w:bD}
def JJ{F:Fence}{P:Program}{g:Operand}{ps:Array Tmp}{assign body:Code}{Q:Exit->Act->bD->Prop}{a:Act}(hro:F.round=none)(h1:1<=n){gf:Nat}{lb:Array bE}(hg:a.eval g=.func (.func gf) #[] lb)(hFg:F.fn gf)(eg:∀args w,(callFunc gf args).run P w=.ok (.enter gf args) w)(hps:ps.size=1)(N:Nat)(I0:bD->Prop)(I:Nat->bD->Prop)(hI0:∀k A,I k A->I0 A)(hI:∀k A B,I k A->Bw A B->I k B)(hIp:∀k A l o',w.heap.size<=l->(∃o,A.heap[l]?=some o/\o.isCells=false)->I k A->I k (A.putObj l o'))(h0:I 0 w)(hh:JI F (n-1) P gf lb N I0)(a₁:bE->Act)(hassign:∀l v W K,K (a₁ v) W->assign.wpIn (F.inRound l) (n-1-1) P (Exit.then K (fun _ _ _=>False)) {tmps:=(ps.zip #[v]).foldl (fun t (p,v)=>t.setIfInBounds p v) a.tmps,defers:=[]} W)(hbody:∀l k v s W,k<N->I k W->mC W v s->body.wpIn (F.inRound l) (n-1-1) P (fun e _ W'=>e=.normal/\KeepsOthers W W'/\I (k+1) W') (a₁ v) W)(hdone:∀D W,w.heap.size<=D->I N W->W.heap[D]?=some (.deferred (some []))->Q .normal {a with defers:={target:=.collected D,args:=#[]}::a.defers} W):
  (Code.rangeFunc g ps assign body).wpIn F n P Q a w:=by
 refine wpIn_rangeFunc fun fn hfn=> ?_;rw[hro];obtain⟨d,j⟩:∃d:LoopState->Option Code->Loop,d=fun st pe=>{state:=st,pending:=pe,fn,tmps:=a.tmps,params:=ps,assign,body,defers:=w.heap.size}:=⟨_,rfl⟩;have e1:=run_enterLoop_outer (P:=P) (w:=w) fn a.tmps ps assign body;let⟨O,M⟩:=aH ((w.alloc (.deferred (some []))).alloc (.loop (d .ready none)));have m:Bw w O:=by rw[<-M];exact((bM _ w).alloc (bL _) _).alloc au _
 have y:O.heap[w.heap.size+1]?=some (.loop (d .ready none)):=by
  have h:=World.alloc_heap_new (w.alloc (.deferred (some []))) (.loop (d .ready none));rw[M,World.size_alloc]at h;exact h
 have q:O.heap[w.heap.size]?=some (.deferred (some [])):=by
  rw[<-M];exact(rU _ _ _ au).bu (World.alloc_heap_new w _)
 have X:O.heap.size=w.heap.size+2:=by rw[<-M];simp
 have ae:I 0 O:=hI 0 w O h0 m;let⟨J,Z⟩:∃J:Nat->bD->Prop,J=fun k W=>I k W/\W.heap[w.heap.size+1]?=some (.loop (d .ready none))/\W.heap[w.heap.size]?=some (.deferred (some [])):=⟨_,rfl⟩;have R:∀{W:bD} {k:Nat} {o:Obj},W.heap[k]?=some o->k<W.heap.size:=fun h=>(Fz.1 h).1;have G:∀(k:Nat) (v:bE) (s:bF Dr) (W:bD),k<N->J k W->mC W v s->YieldAt F (n-1-1) P (w.heap.size+1) #[v] W fun e W'=>e=.returned (.bool true)/\J (k+1) W':=by
  intro k v s W ag hW L;rw[Z]at hW;obtain⟨hi,S,hd⟩:=hW;have hy:=run_yield (P:=P) (args:=#[v]) S (by rw[j];simp[hps]);rw[j]at hy;refine⟨fn,_,assign,body,hy,roundIn_of_wpIn hfn (hassign _ v W _ ⟨_,run_beginRound S (by rw[j]), ?_⟩)⟩;obtain⟨f,T⟩:∃f:Obj,Obj.loop {d .ready none with state:=.busy}=f:=⟨_,rfl⟩;rw[T];have x:f.isCells=false:=by rw[<-T];rfl
  have Y:(W.putObj (w.heap.size+1) f).heap[w.heap.size+1]?=some f:=World.putObj_heap_same (R S);have ac:(W.putObj (w.heap.size+1) f).heap[w.heap.size]?=some (.deferred (some [])):=(xv af).bu hd;have C:I k (W.putObj (w.heap.size+1) f):=hIp k W _ _ af ⟨_,S,rfl⟩ hi;have r:mC (W.putObj (w.heap.size+1) f) v s:=L.putObj ⟨_,S,rfl⟩ World.putObj_size;refine wpIn_mono (hbody _ k v s _ ag C r) ?_;rintro e a3 b⟨rfl,ab,ah⟩;have z:=ab.same _ _ Y x;have ad:=ab.same _ _ ac rfl;rw[<-T]at z;have V:=run_endRound (P:=P) none z;refine⟨_,_,V,rfl, ?_⟩;rw[Z];have u:(Obj.loop {{d .ready none with state:=.busy}with state:=if(none:Option Code).isNone then .ready else .done,pending:=none})=.loop (d .ready none):=by rw[j];rfl
  rw[u];exact⟨hIp _ b _ _ af ⟨_,z,rfl⟩ ah,World.putObj_heap_same (R z),(xv af).bu ad⟩
 have E:∀k A B,J k A->Bw A B->J k B:=by
  intro k A B i c;rw[Z]at i⊢;exact⟨hI k A B i.1 c,(c.block _ (R i.2.1)).bu i.2.1,(c.block _ (R i.2.2)).bu i.2.2⟩
 have U:=hh (w.heap.size+1) J E (fun k A i=>by rw[Z]at i;exact hI0 k A i.1) G O (by rw[Z];exact⟨ae,y,q⟩);refine⟨w.heap.size+1,[{target:=.collected w.heap.size,args:=#[]}],O,{target:=.fn (.func gf) lb,args:=#[.func (.yield (w.heap.size+1)) #[] #[]]},O,gf,#[.func (.yield (w.heap.size+1)) #[] #[]]++lb,O, ?_, ?_, ?_, ?_,fun _=>h1, ?_⟩
 ·rw[<-M,j];exact e1
 ·simp only[resolve,hg];simp[go_sem]
 ·intro H aa;simp[Target.leads]at aa;subst aa;exact hFg
 ·simp[invoke,go_sem,eg]
 ·refine U.bC ?_;rintro e W2⟨⟨v,rfl⟩,hj⟩;rw[Z]at hj;obtain⟨hi,S,hd⟩:=hj;exact⟨none,_,by have V:=run_endLoop (P:=P) S (by rw[j];simp);rw[j]at V;exact V,hdone _ _ (bL _) (hIp _ W2 _ _ af ⟨_,S,rfl⟩ hi) ((xv af).bu hd)⟩
