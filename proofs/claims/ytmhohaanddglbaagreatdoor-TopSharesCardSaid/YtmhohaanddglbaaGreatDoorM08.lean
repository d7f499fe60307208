/- Lemmas for TopShares and TopKept; no law is closed here. -/
import Derived.Test.YtmhohaanddglbaaGreatDoorM07
import Derived.Test.YtmhohaanddglbaaGreatDoorCards
import Derived.Test.YtmhohaanddglbaaGreatDoorTie
import Derived.LaidMore
import Derived.Lib.SmallJoins
set_option linter.all false
set_option maxRecDepth 100000
set_option maxHeartbeats 16000000
namespace Go.Proofs.YtmhohaanddglbaaGreatDoor
open Go.RowKit Go.Proofs.Tryz ZA ZU ZI ZD ZP ZR ZT ZS ZE ZO
variable{p:Prop}
def Qap(h:p:=by intro f g;simp at g;first|(rcases g with rfl|rfl|rfl|rfl|rfl|rfl<;>(first|exact underlying2|exact underlying3))|(rcases g with rfl|rfl|rfl|rfl<;>(first|exact underlying2|exact underlying3))|(rcases g with rfl|rfl<;>(first|exact underlying2|exact underlying3))):p:=h
section
open Go.ChangeShapes Go.WideShapes Go.ChangeAt
def Gn:ownKnob Tryz.prog.godebug=none:=aj
def Oo:Tryz.prog.globalNamed "compline/calendar.words" =some 0:=aj
def Oq:(Tryz.prog.globals[0]?).map (·.type)=some 413:=aj
def sF:List (String×DataW Unit):=[("compline/calendar.words",Rows.laid_compline_calendar_words)]
def Gp(os:Os)(args:Array bE):laidMetH Tryz.prog sF ((World.doorLaid Tryz.prog 400 os).forCall (fun _ _=>0) ⟨#[],args,[]⟩).memory:=laidMetH_of_parts3 (fuel:=8) (laidMet_of_run' 8 aj aj) aj aj
def Ot(i:Nat)(hi:i<6):∃l:bF UInt8,(wd i).data.toList=l/\([.lit (.string [115,104,117,116]),.lit (.string [116,114,97,100,101]),.lit (.string [102,117,110,100]),.lit (.string [98,117,121,105,110]),.lit (.string [112,97,121,111,117,116]),.lit (.string [99,108,111,115,101,100])]:bF (DataW Unit))[i]?=some (.lit (.string l)):=by
 obtain rfl|rfl|rfl|rfl|rfl|rfl:i=0∨i=1∨i=2∨i=3∨i=4∨i=5:=af
 all_goals exact⟨_,rfl,rfl⟩
variable{W:bD}
def Gq(h:laidMetH Tryz.prog sF W):kO W:=by
 rw[MakeChecks.laidMetH_plain _ _ _ (by kernel_rfl)]at h;obtain⟨u,⟨k,J,c,t,j,A,b,q,T,Z,_,_⟩,_,_⟩:=h;obtain rfl:=Option.some.inj (Oo.symm.bu b);obtain rfl:=Option.some.inj (Oq.symm.bu q);obtain⟨m,v,rfl,Q,N,H,n⟩:=DataW.trod_array Tryz.underlying413 Z;have E:Tryz.prog.cellsOf 9=1:=by kernel_rfl
 have g:Tryz.prog.cellsOf 413=6:=by kernel_rfl
 rw[g]at N;have P:∀i,i<6->W.cell? ⟨0,i,none⟩=some (.string (wd i)):=by
  intro i p;have C:=n i p;rw[E,gD]at C;have d:m[i]?=some (m[i]'Qat):=dG Qat;rw[d]at C;let⟨s,o,r,_⟩:=DataW.trod_string Tryz.underlying9 C;let⟨l,y,Y⟩:=Ot i p;have a:(m.map (·.1))[i]?=some (.lit (.string l)):=by
   have:=ym Prod.fst Q
   rw[<-Y];exact ym (fun z=>match z with|.agg ys=>ys[i]?|_=>none) this.symm
  rw[ke,d]at a;rw[r]at a;simp at a;have L:s=wd i:=by
   apply ByteArray.ext;apply Array.ext';rw[y,<-a]
  have F:=World.var?_cell b T i;rw[F];have f:(c.toList.drop i).take 1=[c.toList[i]'Qat]:=by
   rw[rR Qat];rfl
  rw[f]at o;simp at o;rw[<-L,<-o];simp
 refine⟨?_,P⟩;have O:=P 0 Qat;rcases fA 0 W with h'|h'
 ·exact h'
 ·simp[World.cell?,qT h']at O
end
section
open Go
def Bv(P:Program)(f:FuncId)(fn:Func)(s:ChangeSpec)(c:OpenClaim):Bool:=c.wf (OpenSpec.ofChange s)
def Bx(P:Program)(f:FuncId)(fn:Func)(s:ChangeSpec)(c:OpenClaim):Bool:=laidOutB P
def By(P:Program)(f:FuncId)(fn:Func)(s:ChangeSpec)(c:OpenClaim):Bool:=mapsRowed P
def Bz(P:Program)(f:FuncId)(fn:Func)(s:ChangeSpec)(c:OpenClaim):Bool:=fn.params.all (P.readableRec ·)
def BA(P:Program)(f:FuncId)(fn:Func)(s:ChangeSpec)(c:OpenClaim):Bool:=namedTie P c.named s.vars
def BB(P:Program)(f:FuncId)(fn:Func)(s:ChangeSpec)(c:OpenClaim):Bool:=(c.stops==[])
def BD(P:Program)(f:FuncId)(fn:Func)(s:ChangeSpec)(c:OpenClaim):Bool:=(P.stops==[])
def BH(P:Program)(f:FuncId)(fn:Func)(s:ChangeSpec)(c:OpenClaim):Bool:=(c.knobs==[])
def BI(P:Program)(f:FuncId)(fn:Func)(s:ChangeSpec)(c:OpenClaim):Bool:=(P.stopKnobs==[])
def BJ(P:Program)(f:FuncId)(fn:Func)(s:ChangeSpec)(c:OpenClaim):Bool:=(c.inPlace==P.inPlace f)
def BL(P:Program)(f:FuncId)(fn:Func)(s:ChangeSpec)(c:OpenClaim):Bool:=(c.unfollowed==P.unfollowed f)
def BM(P:Program)(f:FuncId)(fn:Func)(s:ChangeSpec)(c:OpenClaim):Bool:=(c.recurses==P.recurses f)
def BN(P:Program)(f:FuncId)(fn:Func)(s:ChangeSpec)(c:OpenClaim):Bool:=(c.named==P.varsNamed f)
def BO(P:Program)(f:FuncId)(fn:Func)(s:ChangeSpec)(c:OpenClaim):Bool:=(c.maps==(fn.params.toList++s.plain.varTypes P).any (P.mapsRec ·))
def BP(P:Program)(f:FuncId)(fn:Func)(s:ChangeSpec)(c:OpenClaim):Bool:=(c.ifaces==(fn.params.toList++s.plain.varTypes P).any (P.ifacesRec ·))
def BR(P:Program)(f:FuncId)(fn:Func)(s:ChangeSpec)(c:OpenClaim):Bool:=(c.mapsOut==P.mapsAmong fn.resultTypes.toList)
def BT(P:Program)(f:FuncId)(fn:Func)(s:ChangeSpec)(c:OpenClaim):Bool:=(c.loops==(fn.params.toList++s.plain.varTypes P).any (P.loopsFrom ·))
def BU(P:Program)(f:FuncId)(fn:Func)(s:ChangeSpec)(c:OpenClaim):Bool:=(c.wideKeys==(fn.params.toList++s.plain.varTypes P++fn.resultTypes.toList).any (P.wideKeysFrom ·))
def BV(P:Program)(f:FuncId)(fn:Func)(s:ChangeSpec)(c:OpenClaim):Bool:=s.vars.all (P.varReadable ·)
def BZ(P:Program)(f:FuncId)(fn:Func)(s:ChangeSpec)(c:OpenClaim):Bool:=fn.resultTypes.all (fun t=>P.readableRec t&&decide (t<P.types.size))
def B6(P:Program)(f:FuncId)(fn:Func)(s:ChangeSpec)(c:OpenClaim):Bool:=(c.ifacesOut==fn.resultTypes.toList.any (P.ifacesRec ·))
def B7(P:Program)(f:FuncId)(fn:Func)(s:ChangeSpec)(c:OpenClaim):Bool:=(c.loopsOut==fn.resultTypes.toList.any (P.loopsFrom ·))
def B8(P:Program)(f:FuncId)(fn:Func)(s:ChangeSpec)(c:OpenClaim):Bool:=(c.plainKeys==P.plainKeys)
def Ca(P:Program)(f:FuncId)(fn:Func)(s:ChangeSpec)(c:OpenClaim):Bool:=c.shortTexts.isNone
def Cb(P:Program)(f:FuncId)(fn:Func)(s:ChangeSpec)(c:OpenClaim):Bool:=P.stopsHeard
def Cc(P:Program)(f:FuncId)(fn:Func)(s:ChangeSpec)(c:OpenClaim):Bool:=P.mayEnter
def Cd(P:Program)(f:FuncId)(fn:Func)(s:ChangeSpec)(c:OpenClaim):Bool:=(c.lifted==P.liftsFinal)
def Ce(P:Program)(f:FuncId)(fn:Func)(s:ChangeSpec)(c:OpenClaim):Bool:=(P.make==some c.make)
def Cf(P:Program)(f:FuncId)(fn:Func)(s:ChangeSpec)(c:OpenClaim):Bool:=(c.kinds==(if c.domain.isEmpty then[]else fn.params.toList.map fun t=>match P.underlying t with|some (.int k)=>some k|_=>none))
def Cg(P:Program)(f:FuncId)(fn:Func)(s:ChangeSpec)(c:OpenClaim):Bool:=(c.pinned==c.pinnedBy)
def Ci(P:Program)(f:FuncId)(fn:Func)(s:ChangeSpec)(c:OpenClaim):Bool:=(c.veiled==(fn.params.toList++s.plain.varTypes P++fn.resultTypes.toList).any (P.veiledRec ·))
def Cj(P:Program)(f:FuncId)(fn:Func)(s:ChangeSpec)(c:OpenClaim):Bool:=c.veiledFits P fn.params.toList (fn.params.toList++s.plain.varTypes P++fn.resultTypes.toList)
variable{P:Program}
def Gr{f:FuncId}{fn:Func}{s:ChangeSpec}{c:OpenClaim}(h0:Bv P f fn s c=true)(h1:Bx P f fn s c=true)(h2:By P f fn s c=true)(h3:Bz P f fn s c=true)(h4:BA P f fn s c=true)(h5:BB P f fn s c=true)(h6:BD P f fn s c=true)(h7:BH P f fn s c=true)(h8:BI P f fn s c=true)(h9:BJ P f fn s c=true)(h10:BL P f fn s c=true)(h11:BM P f fn s c=true)(h12:BN P f fn s c=true)(h13:BO P f fn s c=true)(h14:BP P f fn s c=true)(h15:BR P f fn s c=true)(h16:BT P f fn s c=true)(h17:BU P f fn s c=true)(h18:BV P f fn s c=true)(h19:BZ P f fn s c=true)(h20:B6 P f fn s c=true)(h21:B7 P f fn s c=true)(h22:B8 P f fn s c=true)(h23:Ca P f fn s c=true)(h24:Cb P f fn s c=true)(h25:Cc P f fn s c=true)(h26:Cd P f fn s c=true)(h27:Ce P f fn s c=true)(h28:Cf P f fn s c=true)(h29:Cg P f fn s c=true)(h30:Ci P f fn s c=true)(h31:Cj P f fn s c=true):joinedFacts P f fn s c=true:=by unfold joinedFacts;simp only[qW];exact⟨⟨⟨⟨⟨⟨⟨⟨⟨⟨⟨⟨⟨⟨⟨⟨⟨⟨⟨⟨⟨⟨⟨⟨⟨⟨⟨⟨⟨⟨⟨h0,h1⟩,h2⟩,h3⟩,h4⟩,h5⟩,h6⟩,h7⟩,h8⟩,h9⟩,h10⟩,h11⟩,h12⟩,h13⟩,h14⟩,h15⟩,h16⟩,h17⟩,h18⟩,h19⟩,h20⟩,h21⟩,h22⟩,h23⟩,h24⟩,h25⟩,h26⟩,h27⟩,h28⟩,h29⟩,h30⟩,h31⟩
def Gt(h:P.funcs.toList.any Func.goes=false)(c:OpenClaim)(hs:c.start=.entering):false=c.goesBy P:=by
 have b:∀f,P.goes f=false:=by
  intro f;unfold Program.goes;have a:P.funcs.any Func.goes=false:=by rw[<-Array.any_toList];exact h
  rw[a,Bool.and_false,Bool.or_false,mP];intro g _;cases b:P.funcs[g]? with
  |none=>simp
  |some fn=>
   have Z:fn∈P.funcs.toList:=by simpa using Array.mem_of_getElem? b
   have:=(mP.1 h) fn Z
   simpa using this
 unfold OpenClaim.goesBy Program.goesAt Program.goesFrom;rw[hs];cases P.funcNamed c.func with
 |none=>rfl
 |some f=>simp[b f]
def Gu:Tryz.pinned.checked.prog.funcs.toList.any Func.goes=false:=aj
end
section
open Go.ChangeShapes Go.WideShapes Go.Deep
section
variable {H:Type} {enc:TypeId×Value->H} {P:Program} {w:World} {base:Nat} {spare:Nat->Bool} {held:Bool}
variable{t e:TypeId}{fs:Array Field}{fuel:Nat}{x:DataW H×bF MemPlace}
def acQ{cs:bF bE}(ht:P.underlying t=some (.slice e))(he:P.underlying e=some (.struct fs))(hone:oneCellFields P fs=true)(hC:P.cellsOf e=fs.size)(h:DataW.trod enc P w base spare held fuel t cs=some x):
  (cs=[.slice none 0 0]/\x=(.nil,[]))∨
  ∃(a:Addr) (len cap m:Nat) (D:Nat->DataW H) (Pl:Nat->bF MemPlace),cs=[.slice (some a) len cap]/\base<=a.block/\len<=cap/\cap<=maxLen/\m=(if spare a.block then cap else len)/\
   x=(.slice ((List.range len).map D) ((List.range (m-len)).map fun j=>D (len+j)),MemPlace.row a (m*fs.size)++(List.range m).flatMap Pl)/\
   ∀i,i<m->∃(ys:bF (DataW H×bF MemPlace)) (n:Nat),D i=.agg (ys.map (·.1))/\Pl i=ys.flatMap (·.2)/\ys.length=fs.size/\
    ∀(j:Nat) (f:Field),fs[j]?=some f->∃(v:bE) (y:DataW H×bF MemPlace),w.cell? (a.add (i*fs.size+j))=some v/\ys[j]?=some y/\DataW.trod enc P w base spare held n f.type [v]=some y:=by
 rcases open_slice ht h with h0|⟨a,len,cap,m,n,D,Pl,hcs,hb,hl,hm,hmm,hx,hi⟩
 ·exact .inl h0
 ·refine .inr ⟨a,len,cap,m,D,Pl,hcs,hb,hl,hm,hmm,by rw[hC]at hx;exact hx,fun i him=> ?_⟩;let⟨b,q,o⟩:=hi i him;rw[hC]at q;let⟨ys,c,E,B,N,p,g⟩:=DataW.trod_struct he o;let⟨_,s,M⟩:=World.cells?_some q;simp only[Prod.mk.injEq]at B;refine⟨ys,c,B.1,B.2,p,fun j f hj=> ?_⟩;let⟨J,r⟩:=hone_of hone j f hj;have Q:j<fs.size:=(Fz.1 hj).1;have F:=M j Q;have R:b[j]?=some (b[j]'Qat):=dG af;have d:=g j f hj;rw[J,r]at d;have k:(b.drop j).take 1=[b[j]'Qat]:=by
   rw[rR af];rfl
  rw[k]at d;have l:ys[j]?=some (ys[j]'Qat):=dG af;refine⟨_,_, ?_,l,d.bu l⟩;rw[<-Go.Deep.add_add,F,R]
variable{W:bD}{v:bE}
def acR{x:Addr}(h:W.cell? x=some v):x=(x.block,x.off):=by
 obtain⟨b,o,s⟩:=x;cases s with
 |none=>rfl
 |some s=>
  unfold World.cell? at h;simp at h;split at h<;>simp_all
def acS{b o:Nat}(h:W.cell? (b,o)=some v):b<W:=by
 rcases fA b W with h'|h'
 ·exact h'
 ·simp[World.cell?,qT h']at h
def acT{n:Int}(h:(Lit.int .i64 n).wf=true):bO n:=by simp[Lit.wf,IntKind.min,IntKind.max,IntKind.signed,IntKind.bits]at h;unfold bO;omega
def AU{α:Type}(en:α->bF bE)(k:Nat)(dec:(Nat->Int)->α)(hk:∀f,en (dec f)=(List.range k).map fun j=>.int .i64 (f j))(hk0:0<k)(ht:P.underlying t=some (.slice e))(he:P.underlying e=some (.struct fs))(hfs:fs.size=k)(hone:oneCellFields P fs=true)(hC:P.cellsOf e=fs.size)(hint:∀(j:Nat) (f:Field),fs[j]?=some f->P.underlying f.type=some (.int .i64))(h:DataW.trod enc P w 0 (fun _=>true) true fuel t [v]=some x):
  ∃l:bF α,Sl en k w v l/\∀y∈l,∃f:Nat->Int,y=dec f/\∀j,j<k->bO (f j):=by
 rcases acQ ht he hone hC h with⟨hcs,_⟩|⟨a,n,c,m,D,Pl,hcs,_,hl,hm,hmm,_,hi⟩
 ·simp at hcs;subst hcs;exact⟨[],Sl.nil en k w,au⟩
 ·simp at hcs;subst hcs;simp only[if_true]at hmm;have p:∀i,∃f:Nat->Int,i<n->∀j,j<k->w.cell? (a.add (i*k+j))=some (.int .i64 (f j))/\bO (f j):=by
   intro i;by_cases K:i<n
   ·let⟨A,s,_,_,_,M⟩:=hi i af;have J:∀j,∃z:Int,j<k->w.cell? (a.add (i*k+j))=z/\bO z:=by
     intro j;by_cases b:j<k
     ·have o:j<fs.size:=af;let⟨u,y,X,_,r⟩:=M j fs[j] (Array.getElem?_eq_getElem o);let⟨z,G,_,d⟩:=DataW.trod_int (hint j _ (Array.getElem?_eq_getElem o)) r;simp at G;subst G;rw[hfs]at X;exact⟨z,fun _=>⟨X,acT d⟩⟩
     ·exact⟨0,fun h=>xl h b⟩
    let⟨f,g⟩:=Classical.axiomOfChoice J;exact⟨f,fun _ j b=>g j b⟩
   ·exact⟨fun _=>0,fun h=>xl h K⟩
  let⟨f,g⟩:=Classical.axiomOfChoice p;have N:((List.range n).map fun i=>dec (f i)).length=n:=au;refine⟨(List.range n).map fun i=>dec (f i),⟨some a,c,by rw[N],fun h=>(by cases h),by rw[N];exact hl,hm,fun h0=> ?_⟩,fun y hy=> ?_⟩
  ·rw[N]at h0;have S:=(g 0 h0 0 hk0).1;have q:a=(a.block,a.off):=acR (v:=.int .i64 (f 0 0)) (by simpa[Addr.add]using S);refine⟨a.block,a.off,by rw[<-q], ?_,fun i K j u X=> ?_⟩
   ·rw[q,add_plain]at S;exact acS S
   ·rw[N]at K;simp only[lj,List.getElem_range]at X;rw[hk]at X;have b:j<k:=by
     have:=(ada.1 X).1
     simpa using this
    rw[ke,vA b]at X;simp at X;have z:=(g i K j b).1;rw[q,add_plain]at z;rw[<-X,Nat.add_assoc];exact z
  ·simp only[Fy,FC]at hy;obtain⟨i,K,rfl⟩:=hy;exact⟨f i,rfl,fun j J=>(g i K j J).2⟩
variable{p:bF MemPlace}
def acU{r:Reach}{b0:Nat}{f0 f1 f2 f3 f4 f5 f6 f7:Field}{d:DataW H}(hs:P.underlying t=some (.struct #[f0,f1,f2,f3,f4,f5,f6,f7]))(hone:oneCellFields P #[f0,f1,f2,f3,f4,f5,f6,f7]=true)(hC:P.cellsOf t=8)(hv:Value.okWide P w r b0 t v)(h:DataW.Trod enc P w base spare held t v d p):
  ∃(v0 v1 v2 v3 v4 v5 v6 v7:bE) (y0 y1 y2 y3 y4 y5 y6 y7:DataW H×bF MemPlace) (n:Nat),v=.agg #[v0,v1,v2,v3,v4,v5,v6,v7]/\DataW.trod enc P w base spare held n f0.type [v0]=some y0/\DataW.trod enc P w base spare held n f1.type [v1]=some y1/\DataW.trod enc P w base spare held n f2.type [v2]=some y2/\DataW.trod enc P w base spare held n f3.type [v3]=some y3/\DataW.trod enc P w base spare held n f4.type [v4]=some y4/\DataW.trod enc P w base spare held n f5.type [v5]=some y5/\DataW.trod enc P w base spare held n f6.type [v6]=some y6/\DataW.trod enc P w base spare held n f7.type [v7]=some y7:=by
 obtain⟨A,rfl,g⟩:=okWide_struct hs hv;obtain⟨l⟩:=A;match l,g.bu hC with
 |[c0,c1,c2,c3,c4,c5,c6,c7],_=>
  obtain⟨c,a⟩:=h;let⟨m,n,_,j,_,N,b⟩:=DataW.trod_struct hs a;let⟨F,I⟩:=hone_of hone 0 f0 rfl;let⟨Z,K⟩:=hone_of hone 1 f1 rfl;let⟨Q,U⟩:=hone_of hone 2 f2 rfl;let⟨S,u⟩:=hone_of hone 3 f3 rfl;let⟨o,i⟩:=hone_of hone 4 f4 rfl;let⟨B,W⟩:=hone_of hone 5 f5 rfl;let⟨k,x⟩:=hone_of hone 6 f6 rfl;let⟨f,q⟩:=hone_of hone 7 f7 rfl;match m,N with
  |[y0,y1,y2,y3,y4,y5,y6,y7],_=>
   exact⟨c0,c1,c2,c3,c4,c5,c6,c7,y0,y1,y2,y3,y4,y5,y6,y7,n,rfl,by simpa[Value.cells,F,I]using b 0 f0 rfl,by simpa[Value.cells,Z,K]using b 1 f1 rfl,by simpa[Value.cells,Q,U]using b 2 f2 rfl,by simpa[Value.cells,S,u]using b 3 f3 rfl,by simpa[Value.cells,o,i]using b 4 f4 rfl,by simpa[Value.cells,B,W]using b 5 f5 rfl,by simpa[Value.cells,k,x]using b 6 f6 rfl,by simpa[Value.cells,f,q]using b 7 f7 rfl⟩
end
abbrev Mw:Value:=.agg #[bd,bd,bd,(),(),(),(),()]
section
variable {H:Type} {enc:TypeId×Value->H}
variable{P:Program}{fs:Array Field}
def AV(h:∀f∈fs.toList,P.underlying f.type=some (.int .i64)):∀(j:Nat) (f:Field),fs[j]?=some f->P.underlying f.type=some (.int .i64):=fun j f hj=>
 h f (by have:=Array.mem_of_getElem? hj;exact this.val)
variable{W:bD}{v:bE}{p:bF MemPlace}
def Mx{r:Reach}{b0:Nat}{d:DataW H}(hv:Value.okWide prog W r b0 26 v)(h:DataW.Trod enc prog W 0 (fun _=>true) true 26 v d p):
  ∃(vm vs vc:bE) (C:bZ),v=eT vm vs vc C/\dM W vm vs vc C:=by
 obtain⟨N,o,G,v3,v4,L,m,y,x,b,i,S,y4,y5,y6,A,n,rfl,J,q,u,K,E,Y,l,I⟩:=acU underlying26 aj aj hv h;let⟨D,Q,_,O⟩:=DataW.trod_int underlying2 K;let⟨B,U,_,X⟩:=DataW.trod_int underlying2 E;let⟨M,R,_,T⟩:=DataW.trod_int underlying3 Y;let⟨P,a,_,F⟩:=DataW.trod_int underlying3 l;let⟨t,s,_,w7⟩:=DataW.trod_int underlying3 I;simp at Q U R a s;subst Q U R a s;obtain⟨z,Z,_⟩:=AU mU 2 (fun f=>⟨f 0,f 1⟩) (fun _=>rfl) ah underlying22 underlying125 rfl aj aj (AV Qap) J;obtain⟨j,k,_⟩:=AU mV 2 (fun f=>⟨f 0,f 1⟩) (fun _=>rfl) ah underlying23 underlying127 rfl aj aj (AV Qap) q;obtain⟨c,V,_⟩:=AU nJ 4 (fun f=>⟨f 0,f 1,f 2,f 3⟩) (fun _=>rfl) ah underlying24 underlying63 rfl aj aj (AV Qap) u;exact⟨N,o,G,⟨z,j,c,D,B,M,P,t⟩,rfl,⟨Z,k,V⟩⟩
end
section
variable {H:Type} {enc:TypeId×Value->H}
variable{W:bD}{p:bF MemPlace}
def My{a:Option Addr}{n c:Nat}{d:DataW H}(h:DataW.Trod enc prog W 0 (fun _=>true) true 27 (.slice a n c) d p):
  ∃l:bF Cm,Sl rJ 7 W (.slice a n c) l/\∀t∈l,t.Fit:=by
 obtain⟨i,g⟩:=h;have s:DataW.trod enc prog W 0 (fun _=>true) true i 27 [.slice a n c]=some (d,p):=by simpa[Value.cells]using g
 obtain⟨l,b,S⟩:=AU rJ 7 (fun f=>⟨f 0,f 1,f 2,f 3,f 4,f 5,f 6⟩) (fun _=>rfl) ah underlying27 underlying38 rfl aj aj (AV (by intro f g;simp at g;first|(rcases g with rfl|rfl|rfl|rfl|rfl|rfl|rfl<;>(first|exact underlying2|exact underlying3))|(rcases g with rfl|rfl|rfl|rfl<;>(first|exact underlying2|exact underlying3))|(rcases g with rfl|rfl<;>(first|exact underlying2|exact underlying3)))) s;refine⟨l,b,fun t ht=> ?_⟩;obtain⟨f,rfl,J⟩:=S t ht;exact⟨J 0 ah,J 1 ah,J 2 ah,J 3 ah,J 4 ah,J 5 ah,J 6 ah⟩
