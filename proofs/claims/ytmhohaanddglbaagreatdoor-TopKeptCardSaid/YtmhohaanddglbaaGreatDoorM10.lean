/- Lemmas for TopShares and TopKept; no law is closed here. -/
import Derived.Test.YtmhohaanddglbaaGreatDoorM07
set_option linter.all false
set_option maxRecDepth 100000
set_option maxHeartbeats 16000000
namespace Go.Proofs.YtmhohaanddglbaaGreatDoor
open Go.RowKit Go.Proofs.Tryz ZA ZU ZI ZD ZP ZR ZT ZS ZE ZO
variable{p:Prop}
def Qaw(h:p:=by go_wp2;go_region;go_wp2;go_roundw;exact⟨i+1,ab,aw,by rw[ap.o,q.o];rfl,r.o.drew⟩;exact eZ ab):p:=h
def Qay(h:p:=by go_wp2_with(go_at_call 24;refine am.o.bC ?_;rintro e y1⟨rfl,rfl⟩);go_roundw;exact⟨k5+1,ac,aw,r.o⟩;exact eZ ac):p:=h
section
attribute [local go_sem ↓] wp_at_zero wp_at_succ
def Fs{k:Nat}(h:k<=1023):wrap64 ((k:Int)+1)=(k:Int)+1:=aC
def Fv{k:Nat}(h:k<=1023):IntKind.i64.wrap ((k:Int)+1)=(k:Int)+1:=gI _ af
def acV(vm vs vc v:bE)(C:bZ)(l:bF Cm)(w:bD)(hc:dM w vm vs vc C)(hl:Sl rJ 7 w v l)(hin:∀c∈l,c.Fit)(hw:kO w):bG 5 #[eT vm vs vc C,v] w (bi (.bool true) w):=by
 obtain⟨aK,T,rfl,_⟩:=hc.m;obtain⟨O,t,rfl,_⟩:=hc.s;obtain⟨aO,aJ,rfl,_,_,co,Z⟩:=hc.c;let⟨W1,aM⟩:=aH (w.alloc (bH (cU (.slice aK C.mem T) (.slice O C.secs t) (.slice aO C.bU aJ) C) 26));have b1:Bw w W1:=by rw[<-aM];exact aI
 have B1:=aa b1;have HB:Hid (bI W1 w 26 (cU (.slice aK C.mem T) (.slice O C.secs t) (.slice aO C.bU aJ) C)):=aa (by rw[<-aM];exact bI.new w 26 _);let⟨bx,HC,HL,ca⟩:=Jh4 aM (hc.keep b1) (hl.keep b1) (hw.keep b1);have bq:=aa (fun W (h:Bw w W)=>Mu W (hw.keep h));have ce:=aa hin;obtain⟨ad,a8,rfl,_,h1,h2,_⟩:=hl;have K:=aa (Mv _ _ _ C W1 (hc.keep b1) ad l.length a8 150);unfold maxLen at h2;let⟨s0,s1,s2,s3,s4,s5,s6,s7⟩:=s8 HB.o;clear hc hw hin b1 aM Z;by_cases hv:dz C/\(l:Int)<=150
 rotate_left
 ·go_enter func5,ntmps5;go_wp2_with fail;rw[show w.alloc (bH #[.slice aK C.mem.length T,.slice O C.secs.length t,.slice aO C.bU.length aJ,C.line,C.capital,C.lead,C.cj,C.cv] 26)=W1 from bx.o];go_wp2_with fail;refine K.o.bC ?_;rintro e w2⟨b,rfl,hb,c2⟩;obtain rfl:b=false:=by
   cases b with
   |false=>rfl
   |true=>exact xl (hb.1 rfl) hv
  have L2:=aa (B1.o.bu (c2.bC B1.o.size));clear hb c2;go_wp2_with(go_at_call 7;refine(bq.o _ L2.o).bC ?_;rintro e w3⟨rfl,F⟩);go_ret;exact⟨rfl,L2.o.bu (F.bC L2.o.size)⟩
 have HV:=aa hv.1;have N:l.length<=150:=by have:=hv.2;omega
 go_enter func5,ntmps5;go_wp2_with fail;rw[show w.alloc (bH #[.slice aK C.mem.length T,.slice O C.secs.length t,.slice aO C.bU.length aJ,C.line,C.capital,C.lead,C.cj,C.cv] 26)=W1 from bx.o];go_wp2_with fail;refine K.o.bC ?_;rintro e w2⟨b,rfl,hb,c2⟩;obtain rfl:b=true:=hb.2 hv;let⟨L2,K2,a3,HN⟩:=Jh4 (B1.o.bu (c2.bC B1.o.size)) (HB.o.keep c2) (HL.o.keep c2) (EP _ _ _ C w2 (HC.o.keep c2) hv.1 (ca.o.keep c2));let⟨t0,t1,t2,t3,t4,t5,t6,t7⟩:=s8 K2.o;clear hb c2 K hv s0 s1 s2 s3 s4 s5 s6 s7;go_wp2_with fail;refine HN.o.bC ?_;rintro e w3⟨A,rfl,aT,F⟩;let⟨D3,L3,cw⟩:=Jh3 aT (L2.o.bu (F.bC L2.o.size)) (a3.o.keep F);let⟨g,hg⟩:=aH A.gy;have HG:=aa hg;rw[hg];let⟨B,hB⟩:=aH w2.heap.size;have J:=aa hB;rw[hB]at D3;have ct:Hid (w.heap.size<=B):=aa (by rw[<-hB];exact L2.o.size);have bA:Hid (Sl rJ 7 w2 (.slice ad l.length a8) l):=a3;have C3:=aa F;clear aT F hg hB HN t0 t1 t2 t3 t4 t5 t6 t7 a3;go_wp2;go_loopw[7,8] (fun vw vi wr=>∃(k:Nat) (ae:bF Int) (Y:YS) (A1:YA),k<=l.length/\vi=k/\dp wr B A1 Y/\A1.gy=g/\St C k Y/\Bw w2 wr/\wr.ownsRow B 3 1 vw ae.length (bN eI ae)/\ae.length<=16/\∀m∈ae,m∈Y.D.who) (fun _ vi _=>l.length-(intOf vi).toNat);exact⟨0,[],Y0 C,A,cH _,rfl,D3.o,HG.o,bS rfl,C3.o,mQ _ _ _ _,au,nofun⟩;obtain⟨k,ae,Y,A1,hk,rfl,hd,bK,bo,bv,a7,P,bm⟩:=hrel;let⟨HD,bn,cn,al,ci,bX⟩:=Jh6 hd bK bo bv a7 bm;obtain⟨nw,kw,rfl⟩:=bV a7;clear hd bK bo bv a7 bm;by_cases ay:k<l.length
 ·let⟨a',z,ao,_,cx,cu,L⟩:=bA.o;let⟨e1,e2⟩:ad=a'/\a8=z:=aG ao;subst e1 e2;obtain⟨bb,aq,rfl,y,n⟩:=L af;let⟨p0,p1,p2,p3,p4,p5,p6⟩:=LC (n k ay);let⟨r0,r1,r2,r3,r4,r5⟩:=Jt6 ((al.o.c (p:=(bb,aq+k*7)) y).bu p0) ((al.o.c (p:=(bb,aq+k*7+1)) y).bu p1) ((al.o.c (p:=(bb,aq+k*7+2)) y).bu p2) ((al.o.c (p:=(bb,aq+k*7+3)) y).bu p3) ((al.o.c (p:=(bb,aq+k*7+4)) y).bu p4) ((al.o.c (p:=(bb,aq+k*7+5)) y).bu p5);have r6:=(al.o.c (p:=(bb,aq+k*7+6)) y).bu p6;have cs:0<=(k:Int):=af;have cq:k<(l:Int):=af;have bs:=aa ((abb (B:=B) HV.o af cn.o l[k] (ce.o _ (cZ ay))).at HD.o bn.o);clear n L ao p0 p1 p2 p3 p4 p5 p6;generalize l[k]=x at*;go_wp2_with(go_at_call 9;refine bs.o.bC ?_;rintro e w5⟨er,n9,A5,Y5,rfl,M,ar,aQ⟩;have G:=aa M;have b7:=aa ar;have cg:=aa aQ;have aL:=aa (ar.ok HV.o);have bz:=aa (dq ci.o M.mod ah);have aF:=aa (M.mod.low al.o (Nat.le_of_eq J.o));have aV:Hid (A5.gy=g):=aa (M.gy.bu bn.o);have a5:=aa (aaY M.at' (ar.ok HV.o).ok);rw[aV.o]at a5;clear M ar aQ);let⟨bh,bc,ba⟩:=Jh3 aL.o.w aL.o.o aL.o.k;refine a5.o.bC ?_;rintro e x6⟨v6,rfl,o6,c6⟩;let⟨O6,a0⟩:=Jh2 o6 (Zn (G.o.at'.keep c6) aL.o.ok);rw[aV.o]at a0;have C6:=aa c6;obtain⟨n6,k6,rfl⟩:=bV o6;clear o6 c6;go_wp2_with fail;refine a0.o.bC ?_;rintro e X⟨v7,rfl,o7,c7⟩;let⟨O7,C7,S⟩:=Jh3 o7 (C6.o.bu (c7.bC C6.o.size)) (cJ O6.o c7);have OW:=aa (cJ bz.o C7.o);obtain⟨n7,k7,rfl⟩:=bV o7;let⟨aC,ax⟩:=Jh2 (abc ba.o) ba.o.st;have aU:Hid (∀m∈ae,iR Y5.D.who m=true):=aa fun m hm=>by
   unfold iR;rw[jT];exact⟨m,cg.o m (bX.o m hm),au⟩
  have cd:=aa (G.o.keep C7.o);have aS:Hid (∃A1,dp X B A1 Y5/\A1.gy=g/\St C (k+1) Y5/\Bw w2 X/\X.ownsRow B 3 1 (.slice n6 Y5.D.who k6) Y5.D.who (bN eI Y5.D.who)):=aa ⟨A5,cd.o.at',aV.o,b7.o,aF.o.bu (C7.o.bC aF.o.size),d8 S.o (by have:=aF.o.size;have:=J.o;omega)⟩;let⟨a,az⟩:=aH Y5.D.who;let⟨d,aP⟩:=aH Y5.D.bQ;have bl:=aa az;rw[az]at bh aC ax aU aS S⊢;rw[aP]at bc aC ax O7⊢;clear o7 c7 az aP a0 a5 bs;have a9:a.length<=16:=bh.o;have bk:d.length<=1024:=bc.o;go_wp2;go_loopw[11] (fun vi wr=>∃U:Nat,U<=ae.length/\vi=U/\Bw X wr) (aW ae.length);exact⟨0,cH _,rfl,bM _ _⟩;obtain⟨U,b0,rfl,aj⟩:=hrel;have r:=aa aj;clear aj;by_cases ak:U<ae.length
  ·let⟨a',z,ao,_,ck,a1,L⟩:=Sl.own kI OW.o;let⟨e1,e2⟩:nw=a'/\kw=z:=aG ao;subst e1 e2;obtain⟨b2,I,rfl,bw,n⟩:=L af;have u0:=n U ak 0 _ rfl;rw[gD,gg]at u0;have u0:=(r.o.c (p:=(b2,I+U)) bw).bu u0;have am:=aa (LB _ a ae[U] wr (Sl.own kI (cJ S.o r.o)) af);rw[aU.o _ (cZ ak)]at am;have b5:0<=(U:Int):=ub U;have cm:U<(ae:Int):=adb.2 ak;have ag:U<=1000:=bW (pE ak) (bW P ah);have bY:=(gJ U ag).1;have bT:=(gJ U ag).2;unfold maxLen at a1;let⟨m2,bp⟩:=aH (ae[U]);rw[bp]at u0 am;clear bp;clear n L ao;go_wp2_with(go_at_call 24;refine am.o.bC ?_;rintro e y1⟨rfl,rfl⟩);go_roundw;exact⟨U+1,ak,aw,r.o⟩;exact eZ ak
  ·obtain rfl:U=ae.length:=uZ b0 (yS ak);have aN:¬(ae.length<(ae:Int)):=Int.lt_irrefl _;go_wp2;go_loopw[12] (fun vi wr=>∃u:Nat,u<=a.length/\vi=u/\Bw X wr) (aW a.length);exact⟨0,cH _,rfl,r.o⟩;clear r;obtain⟨u,cf,rfl,aj⟩:=hrel;have r:=aa aj;clear aj;by_cases ai:u<a.length
   ·let⟨a',z,ao,_,ck,a1,L⟩:=Sl.own kI S.o;let⟨e1,e2⟩:n6=a'/\k6=z:=aG ao;subst e1 e2;obtain⟨b3,Q,rfl,aR,n⟩:=L (tZ (cH _) ai);have u3:=n u ai 0 _ rfl;rw[gD,gg]at u3;have U3:=aa (ch aR u3);have u3:=(r.o.c (p:=(b3,Q+u)) aR).bu u3;have HF:=aa (aC.o _ (cZ ai));let⟨m3,bB⟩:=aH (a[u]);rw[bB]at u3 HF U3;have b5:0<=(u:Int):=ub u;have cm:u<(a:Int):=adb.2 ai;have ag:u<=1000:=bW (pE ai) (bW a9 ah);have bY:=(gJ u ag).1;have bT:=(gJ u ag).2;unfold maxLen at a1;clear n L ao bB;go_wp2;go_loopw[13,14] (fun vf vi w2=>∃i:Nat,i<=d.length/\vi=i/\vf=.bool ((d.take i).any (og m3))/\Bw X w2) (fun _ vi _=>d.length-(intOf vi).toNat);exact⟨0,cH _,rfl,aB,r.o⟩;clear r u3;obtain⟨i,cl,rfl,rfl,aj⟩:=hrel;have r:=aa aj;clear aj;have u3:=(r.o.c (p:=(b3,Q+u)) U3.o.1).bu U3.o.2;by_cases ab:i<d.length
    ·let⟨a4,aD,aA,_,_,a2,H⟩:=Sl.own il (cJ O7.o r.o);let⟨e1,e2⟩:n7=a4/\k7=aD:=aG aA;subst e1 e2;obtain⟨b4,bP,rfl,bJ,V⟩:=H (tZ (cH _) ab);let⟨o0,o1,o2,o3,o4,o5⟩:=oA (V i ab);let⟨R,av⟩:=aH (d[i]);rw[av]at o0 o1 o2 o3 o4 o5;have ap:Hid ((d.take (i+1)).any (og m3)=((d.take i).any (og m3)||og m3 R)):=aa (by rw[fj ab,List.any_append,av];simp);let⟨f,hf⟩:=aH ((d.take i).any (og m3));rw[hf]at ap⊢;have b6:0<=(i:Int):=ub i;have j:i<(d:Int):=adb.2 ab;have an:i<=1023:=Nat.le_of_lt_succ (iN ab bk);have cb:wrap64 ((i:Int)+1)=(i:Int)+1:=Fs an;have bR:IntKind.i64.wrap ((i:Int)+1)=(i:Int)+1:=Fv an;unfold maxLen at a2;clear V H aA av hf;have aE:Hid (og m3 R=(decide (R.mem=m3)&&decide (0<R.cE)&&decide (R.cN=3)&&decide (R.done<R.cE))):=aa rfl;cases f with
     |true=>
      go_wp2;go_region;go_wp2;go_roundw;exact⟨i+1,ab,aw,by rw[ap.o];rfl,r.o.drew⟩;exact eZ ab
     |false=>
      by_cases h1:R.mem=m3
      rotate_left
      ·have g1:(R.mem==m3)=false:=aG h1;have q:Hid (og m3 R=false):=aa (by rw[aE.o];simp[h1]);clear h1;exact Qaw
      have g1:(R.mem==m3)=true:=aG h1;by_cases h2:0<R.cE
      rotate_left
      ·have g2:=dF h2;have q:Hid (og m3 R=false):=aa (by rw[aE.o];simp[h2]);clear h2;exact Qaw
      have g2:=dT h2;by_cases h3:R.cN=3
      rotate_left
      ·have g3:=(show(R.cN==3)=false by simpa using h3);have q:Hid (og m3 R=false):=aa (by rw[aE.o];simp[h3]);clear h3;exact Qaw
      have g3:=(show(R.cN==3)=true by simpa using h3);by_cases h4:R.done<R.cE
      rotate_left
      ·have g4:=dF h4;have q:Hid (og m3 R=false):=aa (by rw[aE.o];simp[h4]);clear h4;exact Qaw
      have g4:=dT h4;have q:Hid (og m3 R=true):=aa (by rw[aE.o];simp[h1,h2,h3,h4]);clear h1 h2 h3 h4;exact Qaw
    ·obtain rfl:i=d.length:=uZ cl (yS ab);have aN:¬(d.length<(d:Int)):=Int.lt_irrefl _;rw[eU (bL _),HF.o];go_wp2;go_roundw;exact⟨u+1,ai,aw,r.o⟩;exact eZ ai
   ·obtain rfl:u=a.length:=uZ cf (yS ai);have aN:¬(a.length<(a:Int)):=Int.lt_irrefl _;go_wp2;go_loopw[15] (fun vi wr=>∃k5:Nat,k5<=d.length/\vi=k5/\Bw X wr) (aW d.length);exact⟨0,cH _,rfl,r.o⟩;clear r;obtain⟨k5,cc,rfl,aj⟩:=hrel;have r:=aa aj;clear aj;by_cases ac:k5<d.length
    ·let⟨a4,aD,aA,_,_,a2,H⟩:=Sl.own il (cJ O7.o r.o);let⟨e1,e2⟩:n7=a4/\k7=aD:=aG aA;subst e1 e2;obtain⟨b4,bP,rfl,bJ,V⟩:=H (tZ (cH _) ac);let⟨o0,o1,o2,o3,o4,o5⟩:=oA (V k5 ac);have br:=aa (ax.o _ (cZ ac));let⟨R,av⟩:=aH (d[k5]);rw[av]at o0 o1 o2 o3 o4 o5 br;have am:=aa (LB _ a R.mem wr (Sl.own kI (cJ S.o r.o)) (bW a9 ah));have bO:Hid (iR a R.mem=false->R.mem∉a):=aa fun h hm=>by
      unfold iR at h;rw[mP]at h;exact h _ hm au
     let⟨f,hf⟩:=aH (iR a R.mem);rw[hf]at am bO;have b6:0<=(k5:Int):=ub k5;have j:k5<(d:Int):=adb.2 ac;have an:k5<=1023:=Nat.le_of_lt_succ (iN ac bk);have cb:wrap64 ((k5:Int)+1)=(k5:Int)+1:=Fs an;have bR:IntKind.i64.wrap ((k5:Int)+1)=(k5:Int)+1:=Fv an;unfold maxLen at a2;clear V H aA av hf;cases f with
     |true=>
      exact Qay
     |false=>
      have b8:=aa (br.o (bO.o rfl));by_cases h2:0<R.cE
      rotate_left
      ·have g2:=dF h2;clear h2;exact Qay
      have g2:=dT h2;have h5:=b8.o h2;by_cases h3:R.cN=1
      ·have g3:(R.cN !=1)=false:=aG h3;clear h3 h5 h2;exact Qay
      have h6:R.cN=2:=by
       rcases h5 with e|e
       ·exact xl e h3
       ·exact e
      have g3:(R.cN !=1)=true:=aG h3;have g6:(R.cN !=2)=false:=aG h6;clear h3 h5 h2 h6;exact Qay
    ·obtain rfl:k5=d.length:=uZ cc (yS ac);have aN:¬(d.length<(d:Int)):=Int.lt_irrefl _;have cr:wrap64 ((k:Int)+1)=(k:Int)+1:=Fs (bW hk (bW N ah));have cp:IntKind.i64.wrap ((k:Int)+1)=(k:Int)+1:=Fv (bW hk (bW N ah));go_wp2;go_roundw
     case rel=>
      let⟨A9,d9,g9,s9,b9,o9⟩:=aS.o;exact⟨k+1,a,Y5,A9,ay,aw,d9.keep r.o,g9,s9,b9.bu (r.o.bC b9.size),cJ o9 r.o,a9,fun m hm=>by rw[bl.o];exact hm⟩
     case measure=>exact eZ ay
 ·obtain rfl:k=l.length:=uZ hk (yS ay);have aN:¬(l.length<(l:Int)):=Int.lt_irrefl _;have a6:=aa (L2.o.bu (al.o.bC L2.o.size));go_wp2_with(go_at_call 7;refine(bq.o _ a6.o).bC ?_;rintro e w9⟨rfl,E⟩;have C9:=aa E;clear E);go_ret;exact⟨rfl,a6.o.bu (C9.o.bC a6.o.size)⟩
