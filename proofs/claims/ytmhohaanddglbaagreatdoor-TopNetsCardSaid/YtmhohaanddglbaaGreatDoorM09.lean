/- Texts of the proof of TopNets, joined: Cash, Settle, Settle2, Endow, Lacks, Day2, RAdd, Day3, Day4, Day5. -/
import Derived.Test.YtmhohaanddglbaaGreatDoorM01
import Derived.Test.YtmhohaanddglbaaGreatDoorM06
import Derived.Test.YtmhohaanddglbaaGreatDoorM07
import Derived.Test.YtmhohaanddglbaaGreatDoorM08
import Derived.Deep.RegionHeldLaw
set_option linter.all false
set_option maxRecDepth 100000
set_option maxHeartbeats 16000000
namespace Go.Proofs.YtmhohaanddglbaaGreatDoor
open Go.RowKit
section
attribute [local go_sem ↓] Go.wp_at_zero Go.wp_at_succ
def owedM (D:DS)(r:List Lg):List Lg:=(joinL (D.good 0) r).1
theorem nA (G:List (Int×List Int)):∀x∈(gtM G).1,In64 x.amt:=by
 intro x a;unfold gtM at a;split at a
 ·simp at a
 ·obtain ⟨k,_,rfl⟩:=AD.1 a;exact oF _
theorem lw (G:List (Int×List Int)):(gtM G).1.length≤G.length:=by
 unfold gtM;split
 ·simp
 ·rw [Ad,i9];exact zY _
theorem uy (a b:List Lg):(joinL a b).1.length≤a.length+b.length∧∀x∈(joinL a b).1,In64 x.amt:=by
 unfold joinL;split
 ·simp
 split
 ·simp
 split
 ·simp
 split
 ·simp
 split
 ·simp
 ·refine ⟨?_,nA _⟩;have d:=lw (gpI (a++b));have c:=(bK (a++b)).1;rw [z8] at c;show (gtM (gpI (a++b))).1.length≤_
  omega
theorem uz {D:DS}{P:Int→Prop}(h:∀x∈D.obs,P x.mem)(a:Int):∀x∈D.good a,P x.mem:=by
 intro x b;unfold DS.good oclaimsM at b;obtain ⟨y,hy,he⟩:=AN.1 b;obtain ⟨z,hz,he2⟩:=AN.1 hy;unfold clF at he;cases he
 have:y=z:=by
  unfold openF at he2;split at he2
  ·cases he2;rfl
  ·cases he2
 subst this;have e:(claimM y).mem=y.mem:=by unfold claimM;rfl
 rw [e];exact h y hz
section
variable {B:Nat}{K:List Nat}{A:DA}{D:DS}{w:World}
theorem qC {gd:Nat}(eg:A.gd=gd)(h:DkA w B A D)(ok:DOk D)(hK:KOk w K A)(hB:B≤w.heap.size)(hlog:D.log.length≤880000)(v:Value)(l r:List Lg)(hv:Sl eLg 3 w v l)(hw:WorthsTo D.C l r)(hr:r.length≤1024)(hr64:∀x∈r,In64 x.mem∧In64 x.amt)(hm:∀x∈D.obs,In64 x.mem)(P:DS→Prop)(hP:∀D3,P D3→DOk D3∧D3.log.length≤890000)(hdr:DrawsTo B K D (overM (asumM (owedM D r)).1 (D.balD ⟨1,0⟩ 0)) P)(Q:DS→List Lg→List Lg→Prop)(hQ:∀D3 G L,Q D3 G L→LegsOk G∧LegsOk L)(hs:∀D3,P D3→ccM (owedM D r)=0→SplitsTo (D3.balD ⟨1,0⟩ 0) (owedM D r) (Q D3))(hs0:∀D3,P D3→ccM (owedM D r)≠0→Q D3 [] []) :
  Calls Tryz.prog 217 #[ptr gd,v] w (HandPost B K A w fun G L D'=>∃D3,P D3∧Q D3 G L∧D'=(D3.give G).tell (evEach 15 L)):=by
 subst eg;have j:=aa h;have s:=aa hK;have OK:=aa ok;have HQ:=aa hQ;have HP:=aa hP;have HW:=aa hw;have HR:=aa hr;have p:=aa hr64;have HV:=aa hv;have k:=aa hdr;have T:=aa (uz hm 0);have ab:=gq ok 0;have z:=uy (D.good 0) r;have HJ:Hid ((joinL (D.good 0) r).1=owedM D r):=aa rfl;obtain ⟨p0,p1,p2,S,p4,p5,H,p7⟩:=s8d h.blk;have HS:=aa (fun D3 (S:P D3)=>And.intro (hs D3 S) (hs0 D3 S));have ac:(owedM D r).length≤2048:=by have:=z.1;unfold owedM;omega
 have d:Hid (∀x∈owedM D r,In64 x.amt):=aa z.2;obtain ⟨R,N⟩:∃R,owedM D r=R:=⟨_,rfl⟩;rw [N] at k HJ HS ac d;obtain ⟨su,hsu⟩:∃su,(asumM R).1=su:=⟨_,rfl⟩;have aj:=aa hsu;have Z:Hid (In64 su):=aa (by rw [←hsu];exact oH _);rw [hsu] at k;obtain ⟨nd,hnd⟩:∃nd,overM su (D.balD ⟨1,0⟩ 0)=nd:=⟨_,rfl⟩;have Y:=aa hnd;rw [hnd] at k;obtain ⟨n0,k0,rfl,_⟩:=hv;clear h ok hK hQ hP hw hr hr64 hdr hs hs0 hm z N hsu hnd;go_enter Tryz.func217,Tryz.ntmps217;go_wp2_with (first
  | (go_at_call 272;refine (HW.o w _ _ _ _ j.o.cfg.sl HV.o).mono ?_;rintro e x1 ⟨u1,e1,rfl,y,c1⟩;have C1:=aa c1;have S1:=aa (Sl.own kLg y);obtain ⟨n1,k1,rfl⟩:=ag y;clear y)
  | (go_at_call 203;refine (dx (j.o.keep C1.o) OK.o 0).mono ?_;rintro e x2 ⟨v2,rfl,t,X⟩;have C2:=aa (C1.o.trans (X.mono C1.o.size));have S2:=aa (Sl.own kLg t);have ad:=aa (S1.o.keep X);obtain ⟨n2,k2,rfl⟩:=ag t;clear t X)
  | (go_at_call 273;refine (qr _ _ (D.good 0) r _ S2.o ad.o ab HR.o (fun x hx=>by rcases AJ.1 hx with hx | hx;exact T.o x hx;exact (p.o x hx).1) (fun x hx=>by rcases AJ.1 hx with hx | hx;exact dV _ _ x hx;exact (p.o x hx).2)).mono ?_;rintro e x3 ⟨u3,rfl,F,c3⟩;rw [HJ.o] at F;have C3:=aa (C2.o.trans (c3.mono C2.o.size));have O3:=aa (aw F C2.o.size);have S3:=aa (Sl.own kLg F);obtain ⟨n3,k3,rfl⟩:=ag F;clear F c3)
  | (go_at_call 214;refine (kG _ R _ S3.o (by omega) d.o).mono ?_;rintro e x4 ⟨rfl,c4⟩;rw [aj.o];have U:=aa (C3.o.trans (c4.mono C3.o.size));have O4:=aa (ah O3.o c4);clear c4)
  | (go_at_call 213;refine (gp (j.o.keep U.o) OK.o su Z.o).mono ?_;rintro e x5 ⟨rfl,c5⟩;rw [Y.o];have C5:=aa (U.o.trans (c5.mono U.o.size));have O5:=aa (ah O4.o c5);have i:=aa (DSp.same (K:=K) j.o C5.o);clear c5)
  | (go_at_call 212;refine (k.o _ A i.o.at' (s.o.step i.o) (z5 hB i.o.mod.size)).mono ?_;rintro e x6 ⟨A6,E,rfl,a,H⟩;have P6:=aa H;have g:=aa (HP.o E H);have u:=aa (HS.o E H);have m:=aa (i.o.trans a);have O6:=aa (ai O5.o a.mod (by decide));clear a H))
 have V:Bw x6 (x6.alloc (.cells (acs ⟨1,0⟩) 81)):=Bn;have J:=aa (yP m.o.gd (m.o.at'.keep V) g.o.1 ⟨1,0⟩ 0);obtain ⟨n,hn⟩:∃n,E.balD ⟨1,0⟩ 0=n:=⟨_,rfl⟩;rw [hn] at J u;clear hn;go_wp2_with (first
  | (go_at_call 155;refine (aZ _).mono ?_;rintro e y1 ⟨rfl,rfl⟩)
  | (go_at_call 137;refine J.o.mono ?_;rintro e y2 ⟨rfl,d2⟩;have W:=aa (V.trans (d2.mono V.size));have O7:=aa (ah O6.o W.o);clear d2)
  | (go_at_call 274;refine (cpayS u.o.1 u.o.2 _ _ (Sl.own kLg O7.o) (by omega) d.o).mono ?_;rintro e y3 ⟨u1,u2,G,L,er,rfl,y,t,c8,O⟩;have c:=aa ((m.o.keep W.o).keep c8);have q:=z5 m.o.mod.size W.o.size;have P1:=aa (aw y q);have P2:=aa (aw t q);have Q8:=aa O;have LG:=aa (HQ.o E G L O).1;have LL:=aa (HQ.o E G L O).2;obtain ⟨m1,l1,rfl⟩:=ag y;obtain ⟨m2,l2,rfl⟩:=ag t;clear y t c8 O)
  | (go_at_call 270;refine (zz c.o.gd c.o.at' g.o.1 (s.o.step c.o) (z5 hB c.o.mod.size) _ G _ P1.o LG.o.1 LG.o.2 (by have:=g.o.2;omega)).mono ?_;rintro e y5 ⟨A5,rfl,f⟩;have b:=aa (c.o.trans f);have ae:=aa (ai P1.o f.mod (by decide));have I:=aa (ai P2.o f.mod (by decide));clear f)
  | (go_at_call 271;refine (ut b.o.gd b.o.at' (s.o.step b.o) (z5 hB b.o.mod.size) _ L _ I.o LL.o.1 15 (by rw [gL];have:=LG.o.1;have:=g.o.2;omega)).mono ?_;rintro e y6 ⟨A7,rfl,a⟩;have M:=aa (b.o.trans a);have ak:=aa (ai ae.o a.mod (by decide));have af:=aa (ai I.o a.mod (by decide));clear a))
 go_ret2;exact ⟨_,_,G,L,A7,_,rfl,ak.o,af.o,M.o,E,P6.o,Q8.o,rfl⟩
end
theorem qD:∀N:Nat,N≤9→∀w:World,(Instr.makeSlice 287 (.int .i64 N) (.int .i64 N)).run Tryz.prog w=.ok (.slice (some ⟨w.heap.size,0,none⟩) N N) (w.alloc (.cells (List.replicate N (.slice none 0 0)).toArray 66)):=by
 intro N a w;obtain rfl | rfl | rfl | rfl | rfl | rfl | rfl | rfl | rfl | rfl:N=0∨N=1∨N=2∨N=3∨N=4∨N=5∨N=6∨N=7∨N=8∨N=9:=by omega
 all_goals kernel_rfl
structure LRows (w:World)(B b:Nat)(us:List Value)(Gs:List (List Lg))(vl:Value)(lack:List Lg):Prop where
 blk:Blk w b 66 us.toArray
 len:us.length=Gs.length
 own:∀i (h:i<us.length) (h2:i<Gs.length),w.ownsRow B 120 3 us[i] Gs[i].length (flat eLg Gs[i])
 lk:w.ownsRow B 120 3 vl lack.length (flat eLg lack)
 ap:∀i (h:i<us.length),Apart us[i] vl
section
variable {w w':World}{B b:Nat}{us:List Value}{Gs:List (List Lg)}{vl:Value}{lack:List Lg}
theorem LRows.keep (h:LRows w B b us Gs vl lack)(c:Bw w w'):LRows w' B b us Gs vl lack:=⟨h.blk.keep c,h.len,fun i h1 h2=>ah (h.own i h1 h2) c,ah h.lk c,h.ap⟩
theorem LRows.modT {B2:Nat}{TS:List TypeId}{K:List Nat}(h:LRows w B b us Gs vl lack)(m:ModT B2 TS K w w')(h1:66∉TS)(h2:120∉TS):LRows w' B b us Gs vl lack:=⟨h.blk.modT m h1,h.len,fun i h3 h4=>ai (h.own i h3 h4) m h2,ai h.lk m h2,h.ap⟩
theorem LRows.set (h:LRows w B b us Gs vl lack)(i:Nat)(u:Value)(G:List Lg)(ho:w.ownsRow B 120 3 u G.length (flat eLg G))(ha:Apart u vl)(hT:∀k,u.ownBlock=some k→k≠b):LRows (w.setCell ⟨b,i,none⟩ u) B b (us.set i u) (Gs.set i G) vl lack:=by
 have c:=h.blk.set i u;have a:∀{x:Value} {l:List Lg},w.ownsRow B 120 3 x l.length (flat eLg l)→(w.setCell ⟨b,i,none⟩ u).ownsRow B 120 3 x l.length (flat eLg l):=fun {x l} hx=>au hx fun g hg=>An w ⟨b,i,none⟩ u g (fun e=>aD h.blk hx (by decide) g hg (by simpa using e))
 refine ⟨by simpa using c,by simp [h.len],fun j h1 h2=>?_,a h.lk,fun j h1=>?_⟩
 ·by_cases hj:i=j
  ·subst hj;simp only [List.getElem_set_self];exact a ho
  ·simp only [List.getElem_set_ne hj];exact a (h.own j _ _)
 ·by_cases hj:i=j
  ·subst hj;simp only [List.getElem_set_self];exact ha
  ·simp only [List.getElem_set_ne hj];exact h.ap j _
theorem LRows.grow (h:LRows w B b us Gs vl lack)(hB:B≤w.heap.size){v':Value}{l':List Lg}(hg:w.grownBy w' vl.ownBlock)(ho:w'.ownsRow B 120 3 v' l'.length (flat eLg l'))(hat:v'.ownBlock=vl.ownBlock∨v'.ownBlock=some w.heap.size):LRows w' B b us Gs v' l':=
 ⟨h.blk.grown h.lk hg (by decide),h.len,fun i h1 h2=>dz (h.own i h1 h2) hg (h.ap i h1),ho,fun i h1=>cN (h.own i h1 (by rw [←h.len];exact h1)) (h.ap i h1) hat⟩
end
def BuysTo (B:Nat)(K:List Nat)(D:DS)(s:Int)(P:DS→Prop):Prop:=∀W A,DkA W B A D→KOk W K A→B≤W.heap.size→Calls Tryz.prog 215 #[ptr A.gd,.int .i64 s] W fun e w'=>∃A' D',e=.returned (.tuple #[])∧DSp B K W w' A A' D'∧P D'
theorem BuysTo.at {B:Nat}{K:List Nat}{D:DS}{n:Int}{P:DS→Prop}(h:BuysTo B K D n P){W:World}{A:DA}{gd:Nat}(e:A.gd=gd)(hA:DkA W B A D)(hK:KOk W K A)(hB:B≤W.heap.size):Calls Tryz.prog 215 #[ptr gd,.int .i64 n] W fun e w'=>∃A' D',e=.returned (.tuple #[])∧DSp B K W w' A A' D'∧P D':=by
 subst e;exact h W A hA hK hB
theorem uA {B:Nat}{K:List Nat}{D:DS}{s:Int}(ok:DOk D)(h:D.short s=0):BuysTo B K D s (·=D):=fun W A hA _ _=>by
 have HA:=aa hA;have HS:=aa (gA hA ok s);rw [h] at HS;clear h hA ok;go_enter Tryz.func215,Tryz.ntmps215;go_wp2_with (go_at_call 162;refine HS.o.mono ?_;rintro e w1 ⟨rfl,c1⟩)
 refine bodyPost_ret (results_none rfl _ _ _) rfl ?_;exact ⟨A,D,rfl,DSp.same HA.o c1,rfl⟩
def HandsTo (D:DS)(s:Int)(R:List Lg→List Lg→DS→Prop):Prop:=∃Q,(∀G L,Q G L→LegsOk G∧LegsOk L)∧SplitsTo (D.balD ⟨1,0⟩ s) (D.good s) Q∧∀G L,Q G L→R G L ((D.give G).tell (evEach 14 L))
def DS.marks (D:DS)(rows:List (List Lg))(lost:List Lg)(cl:List Ob):DS:=cl.foldl (fun D x=>D.mark ⟨x.mem,x.ass,wrap64 (-x.net)⟩ (ofM x.mem (rows.getD x.ass.toNat [])) (decide (0<ofM x.mem lost))) D
theorem nB (D:DS)(rows:List (List Lg))(lost:List Lg)(cl:List Ob)(k:Nat)(h:k<cl.length):D.marks rows lost (cl.take (k+1))=(D.marks rows lost (cl.take k)).mark ⟨cl[k].mem,cl[k].ass,wrap64 (-cl[k].net)⟩ (ofM cl[k].mem (rows.getD cl[k].ass.toNat [])) (decide (0<ofM cl[k].mem lost)):=by
 unfold DS.marks;rw [z9 h,List.foldl_append];rfl
theorem lx (rows:List (List Lg))(lost:List Lg)(cl:List Ob):∀{D:DS},DOk D→DOk (D.marks rows lost cl)∧(D.marks rows lost cl).log=D.log∧(D.marks rows lost cl).C=D.C:=by
 induction cl with
 | nil=>intro D a;exact ⟨a,rfl,rfl⟩
 | cons x l ih=>intro D a;exact ih (a.mark _ _ _)
def CashesTo (B:Nat)(K:List Nat)(D:DS)(l:List Lg)(R:List Lg→List Lg→DS→Prop):Prop:=∃(r:List Lg) (P:DS→Prop) (Q:DS→List Lg→List Lg→Prop),WorthsTo D.C l r∧r.length≤1024∧(∀x∈r,In64 x.mem∧In64 x.amt)∧(∀D3,P D3→DOk D3∧D3.log.length≤890000)∧DrawsTo B K D (overM (asumM (owedM D r)).1 (D.balD ⟨1,0⟩ 0)) P∧(∀D3 G L,Q D3 G L→LegsOk G∧LegsOk L)∧(∀D3,P D3→ccM (owedM D r)=0→SplitsTo (D3.balD ⟨1,0⟩ 0) (owedM D r) (Q D3))∧(∀D3,P D3→ccM (owedM D r)≠0→Q D3 [] [])∧∀D3 G L,P D3→Q D3 G L→R G L ((D3.give G).tell (evEach 15 L))
def DS.fin (D:DS)(rows:List (List Lg))(lost:List Lg):DS:={ (D.marks rows lost (D.obs.filterMap claimF)).leaveK (D.C.secs.length+1) with bids:=[],state:=0 }
structure SettleBy (B:Nat)(K:List Nat)(D:DS)(I1:Nat→DS→Prop)(I2:Nat→DS→List (List Lg)→List Lg→Prop)(I3:List (List Lg)→List Lg→List Lg→DS→Prop):Prop where
 s1:I1 0 D
 o1:∀k D1,I1 k D1→DOk D1∧D1.C=D.C
 b1:∀k,k<D.C.secs.length→∀D1,I1 k D1→BuysTo B K D1 ((k:Int)+1) (I1 (k+1))
 s2:∀D1,I1 D.C.secs.length D1→I2 0 D1 [] []
 o2:∀k D2 Gs L,I2 k D2 Gs L→DOk D2∧D2.log.length≤880000∧D2.C=D.C∧Gs.length=k∧L.length≤1024 * k∧∀x∈D2.obs,In64 x.mem
 b2:∀k,k<D.C.secs.length→∀D2 Gs L,I2 k D2 Gs L→HandsTo D2 ((k:Int)+1) fun G L' D'=>I2 (k+1) D' (Gs++[G]) (L++L')
 b3:∀D2 Gs L,I2 D.C.secs.length D2 Gs L→CashesTo B K D2 L fun G L' D'=>I3 Gs G L' D'
 o3:∀Gs G L D3,I3 Gs G L D3→DOk D3∧D3.log.length≤895000∧D3.C=D.C∧Gs.length=D.C.secs.length∧(∀x∈D3.obs,0≤x.ass∧x.ass≤D.C.secs.length)∧L.length≤100000∧∀g∈G :: Gs,g.length≤100000
def SettlePost (B:Nat)(K:List Nat)(A:DA)(D:DS)(I3:List (List Lg)→List Lg→List Lg→DS→Prop)(w:World)(e:Ending)(w':World):Prop:=∃r A' D',e=.returned (.int .i64 r)∧DSp B K w w' A A' D'∧if D.state≠2 then r=11∧D'=D else r=0∧∃Gs G L D3,I3 Gs G L D3∧D'=D3.fin (G :: Gs) L
theorem qE {B:Nat}{K:List Nat}{A:DA}{D:DS}{w:World}{gx:Nat}(e:A.gx=gx)(h:DkA w B A D)(hK:A.gx∉K):Calls Tryz.prog 222 #[ptr gx] w fun e w'=>∃A' r,e=.returned (.int .i64 r)∧DSp B K w w' A A' { D with bids:=[] }:=by
 subst e;have i:=aa h;have f:=aa (h.boxClear (K:=K) hK);obtain ⟨g,b,a⟩:=ag h.bids;have d:w.cell? ⟨A.gx,8,none⟩=some (.slice g D.bids.length b):=by rw [←a];exact h.box.c 8
 have j:w.frozen? ⟨A.gx,8,none⟩=false:=h.box.free 8;clear h a;go_enter Tryz.func222,Tryz.ntmps222;go_wp2_with fail;go_ret;exact ⟨_,_,rfl,f.o⟩
abbrev SX (b0 a bx:Nat)(ua:Value)(xm xa n:Int)(W:World):Prop:=W.cell? ⟨bx+1,0,none⟩=some (.int .i64 xm)∧W.cell? ⟨bx+1,1,none⟩=some (.int .i64 xa)∧W.cell? ⟨bx+1,2,none⟩=some (.int .i64 n)∧W.cell? ⟨bx,1,none⟩=some (.int .i64 xm)∧W.cell? ⟨bx,2,none⟩=some (.int .i64 xa)∧W.cell? ⟨b0,a,none⟩=some ua
theorem SX.of {W:World}{b0 a bx:Nat}{ua:Value}{us:List Value}{x:Ob}{c:Lg}(h1:Blk W (bx+1) 120 (cLg c))(h2:Blk W bx 71 (cOb x))(h3:Blk W b0 66 us.toArray)(ha:us[a]?=some ua)(e1:c.mem=x.mem)(e2:c.ass=x.ass):SX b0 a bx ua x.mem x.ass c.amt W:=by
 refine ⟨(h1.c 0).trans (by rw [←e1];rfl),(h1.c 1).trans (by rw [←e2];rfl),h1.c 2,h2.c 1,h2.c 2,(h3.c a).trans (by simpa using ha)⟩
theorem DSp.side {B b0:Nat}{K:List Nat}{w w1 w2:World}{A A1:DA}{D1:DS}(s:DSp B K w w1 A A1 D1)(m:ModT b0 [66,120] [] w1 w2)(hB:B≤b0)(hw:w.heap.size≤b0):DSp B K w w2 A A1 D1:=by
 have a:ModT B [66,120] [] w1 w2:=⟨m.os,m.tape,m.output,m.size,fun k hk hc=>m.far k hk (by
  rcases hc with hc | hc | hc
  ·exact Or.inl (by omega)
  ·exact Or.inr (Or.inl hc)
  ·exact Or.inr (Or.inr hc))⟩
 refine ⟨s.at'.modT a (by decide),⟨m.os.trans s.mod.os,m.tape.trans s.mod.tape,m.output.trans s.mod.output,z5 s.mod.size m.size,fun k hk hc=>?_⟩,s.gd,s.gv,s.gs,s.gx,s.goes⟩;exact (m.far k (AR hk s.mod.size) (Or.inl (by omega))).trans (s.mod.far k hk hc)
def rowsJ (S:Nat)(Gs:List (List Lg))(j:Nat):List (List Lg):=[] :: (Gs++List.replicate (S - j) [])
theorem uB (S:Nat)(Gs:List (List Lg))(j:Nat)(G:List Lg)(hj:j<S)(hl:Gs.length=j):(rowsJ S Gs j).set (j+1) G=rowsJ S (Gs++[G]) (j+1):=by
 unfold rowsJ;obtain ⟨d,b⟩:∃d,S - j=d+1:=⟨S - j - 1,by omega⟩;have a:S - (j+1)=d:=by omega
 rw [b,a,z7,List.replicate_succ,List.set_append_right _ _ (by omega),hl,Nat.sub_self,z6];simp
theorem uC (S:Nat)(Gs:List (List Lg))(j:Nat)(hj:j≤S)(hl:Gs.length=j):(rowsJ S Gs j).length=S+1:=by
 unfold rowsJ;simp
 omega
theorem fj {w:World}{B1 n1:Nat}{u v:Value}{xs:List Value}(hu:w.ownsRow B1 120 3 u n1 xs)(hv:∀k,v.ownBlock=some k→k<B1):Apart u v:=by
 by_cases h:u.ownBlock=none
 ·exact Or.inl h
 ·refine Or.inr fun e=>?_
  cases hk:u.ownBlock with
  | none=>exact h hk
  | some k=>
   have a:=(hu.lt k hk).1;have b:=hv k (by rw [←e];exact hk);omega
theorem s15c {w:World}{B gd:Nat}{A:DA}{D:DS}{C:Cfg}(e:A.gd=gd)(h:DkA w B A D)(hC:D.C=C):∃ns ks,w.cell? ⟨gd,1,none⟩=some (.slice ns C.secs.length ks):=by
 subst e hC;obtain ⟨ns,ks,a,_⟩:=h.cfg.sl.s;exact ⟨ns,ks,(h.blk.c 1).trans (congrArg some a)⟩
theorem ly {B:Nat}{K:List Nat}{A:DA}{D:DS}{w:World}(h:DkA w B A D)(ok:DOk D)(hK:KOk w K A)(hB:B≤w.heap.size)(I1:Nat→DS→Prop)(I2:Nat→DS→List (List Lg)→List Lg→Prop)(I3:List (List Lg)→List Lg→List Lg→DS→Prop)(H:D.state=2→SettleBy B K D I1 I2 I3) :
  Calls Tryz.prog 172 #[ptr A.gd] w (SettlePost B K A D I3 w):=by
 obtain ⟨W1,ao⟩:∃W1,w.alloc (.cells #[.int .i64 2] 3)=W1:=⟨_,rfl⟩;have c1:Bw w W1:=by rw [←ao];exact Bn
 have v:=ew (h.keep c1) 2 w.heap.size (by rw [←ao];exact Blk.new w 3 #[.int .i64 2]);have bN:=aa ao;have bf:=aa h;have T:=aa hK;by_cases hs:D.state=2
 rotate_left
 ·rw [if_neg (Ne.symm hs)] at v;have an:=aa v;have HS:=aa hs;clear h ok hK ao v hs H;go_enter Tryz.func172,Tryz.ntmps172;go_wp2_with fail;rw [show w.alloc (.cells #[.int .i64 2] 3)=W1 from bN.o];go_wp2_with (go_at_call 152;refine an.o.mono ?_;rintro e w1 ⟨rfl,hw⟩;subst hw)
  go_ret;exact ⟨_,A,D,rfl,DSp.same bf.o c1,by rw [if_pos HS.o];exact ⟨rfl,rfl⟩⟩
 ·rw [if_pos hs.symm] at v;have an:=aa v;have HS:=aa hs;have HH:=aa (H hs);have ch:D.C.secs.length≤8:=ok.cfg.s2;have aU:Hid (∀(D3:DS) d lost,D3.C=D.C→D3.fin d lost={ (D3.marks d lost (D3.obs.filterMap claimF)).leaveK (D.C.secs.length+1) with bids:=[],state:=0 }):=aa fun D3 d lost e=>by unfold DS.fin;rw [e]
  obtain ⟨C,hC⟩:∃C,D.C=C:=⟨_,rfl⟩;have HC:=aa hC;have a3:Hid (SettleBy B K D I1 I2 I3):=HH;obtain ⟨S,hS⟩:∃S,D.C.secs.length=S:=⟨_,rfl⟩;have U:Hid (D.C.secs.length=S):=aa hS;obtain ⟨ns,ks,q1⟩:=s15c rfl (h.keep c1) rfl;rw [hS] at q1 ch;rw [hC] at aU;clear h ok hK ao v hs H hC hS;go_enter Tryz.func172,Tryz.ntmps172;go_wp2_with fail;rw [show w.alloc (.cells #[.int .i64 2] 3)=W1 from bN.o];go_wp2_with (go_at_call 152;refine an.o.mono ?_;rintro e w1 ⟨rfl,hw⟩;subst hw)
  go_loopw [27] (fun vi wr=>∃(k:Nat) (A1:DA) (D1:DS),k≤S∧vi=.int .i64 k∧DSp B K w wr A A1 D1∧I1 k D1) (fun vi _=>S - (intOf vi).toNat)
  case atStart=>exact ⟨0,A,D,Af _,rfl,DSp.same bf.o c1,HH.o.s1⟩
  case round=>
   obtain ⟨k,A1,D1,hk,rfl,E,hi⟩:=hrel;have f:=aa E;have HI:=aa hi;clear E hi;by_cases hlt:k<S
   ·have bl:(0:Int)≤(k:Int):=by omega
    have ab:(k:Int)<(S:Int):=by omega
    have af:k≤1000:=by omega
    have ca:=aa (HH.o.b1 k (by rw [U.o];exact hlt) D1 HI.o);have a7:=(aT k af).1;have aY:=(aT k af).2;go_wp2_with (go_at_call 215;refine (ca.o.at f.o.gd f.o.at' (T.o.step f.o) (z5 hB f.o.mod.size)).mono ?_;rintro e w2 ⟨A2,D2,rfl,bD,i2⟩;have cf:=aa (f.o.trans bD);clear bD)
    go_roundw
    case rel=>exact ⟨k+1,A2,D2,hlt,by first | rfl | go_num,cf.o,i2⟩
    case measure=>exact ar hlt
   ·obtain rfl:k=S:=by omega
    have cu:¬ ((k:Int)<(k:Int)):=by omega
    have am:=aa (HH.o.s2 D1 (by rw [U.o];exact HI.o));have b4:=(HH.o.o1 _ D1 HI.o).2;obtain ⟨cs,cb,q2⟩:=s15c f.o.gd f.o.at' b4;rw [U.o] at q2;have af:k≤1000:=by omega
    have aF:=qD (k+1) (by omega) wr;have hN:((k+1:Nat):Int)=(k:Int)+1:=by omega
    rw [hN] at aF;obtain ⟨X0,aI⟩:∃X0,wr.alloc (.cells (List.replicate (k+1) (.slice none 0 0)).toArray 66)=X0:=⟨_,rfl⟩;rw [aI] at aF;have cM:Bw wr X0:=by rw [←aI];exact Bn
    have aZ:Hid (LRows X0 wr.heap.size wr.heap.size (List.replicate (k+1) (.slice none 0 0)) (List.replicate (k+1) []) (.slice none 0 0) []):=aa ⟨by rw [←aI];exact Blk.new wr 66 _,by simp,fun i h h2=>by simp only [List.getElem_replicate];exact oI _ _,oI _ _,fun i h=>Or.inl (by simp [Value.ownBlock])⟩;have q3:X0.cell? ⟨A.gd,1,none⟩=some (.slice cs k cb):=(cM.c (p:=⟨A.gd,1,none⟩) (by rw [←f.o.gd];exact f.o.at'.blk.lt)).trans q2;have V:=aa (f.o.keep cM);have a7:=(aT k af).1;have aY:=(aT k af).2;obtain ⟨n,aE⟩:∃n,wr.heap.size=n:=⟨_,rfl⟩;have ac:Hid (B≤n∧w.heap.size≤n):=aa (by rw [←aE];exact ⟨z5 hB f.o.mod.size,f.o.mod.size⟩);have ck:Hid (n≤X0.heap.size):=aa (by rw [←aE];exact cM.size);rw [aE] at aZ aF;obtain ⟨i0,hi,hz0,hz1,hz2⟩:=info_parts bt;clear b4 aI hN aE;go_wp2_with fail;go_loopw [6,49] (fun x6 vi wr2=>∃(j:Nat) (A2:DA) (D2:DS) (us:List Value) (M:List (List Lg)) (L:List Lg) (vl:Value),j≤k∧vi=.int .i64 j∧vl=x6∧DSp B K w wr2 A A2 D2∧I2 j D2 M L∧LRows wr2 n n us (rowsJ k M j) vl L) (fun _ vi _=>k - (intOf vi).toNat)
    case atStart=>exact ⟨0,A1,D1,_,[],[],_,Af _,rfl,rfl,V.o,am.o,by rw [show rowsJ k [] 0=List.replicate (k+1) [] from by unfold rowsJ;simp [List.replicate_succ]];exact aZ.o⟩
    case round=>
     obtain ⟨j,A2,D2,us,M,L,vl,hj,rfl,rfl,E,ab,z⟩:=hrel;have l:=aa E;have am:=aa ab;have J:=aa z;obtain ⟨okj,lgj,hCj,hgl,hLl,hmem⟩:=HH.o.o2 j D2 M L ab;have a5:=aa okj;have cF:=aa hCj;have aR:=aa hmem;have b8:=aa hgl;have bU:us.length=k+1:=by rw [z.len,uC k M j hj hgl]
     have bH:=aa bU;have aL:Hid (n<wr.heap.size):=aa z.blk.lt;have bG:=aa (fun q (hq:vl.ownBlock=some q)=>(z.lk.lt q hq).2);obtain ⟨nl,kl,rfl⟩:=ag z.lk;clear E ab z okj hCj hgl hmem bU;by_cases hlt:j<k
     ·have bl:(0:Int)≤(j:Int):=by omega
      have ab:(j:Int)<(k:Int):=by omega
      have cR:(0:Int)≤(j:Int)+1:=by omega
      have cK:(j:Int)+1<(k:Int)+1:=by omega
      have cJ:L.length≤100000:=by omega
      have aC:j≤1000:=by omega
      have ce:=HH.o.b2 j (by rw [U.o];exact hlt) D2 M L am.o;obtain ⟨Q,hQ,ak,hR⟩:=ce;have HQ:=aa hQ;have HR:=aa hR;have cy:=aa (qB l.o.gd l.o.at' a5.o (T.o.step l.o) (z5 hB l.o.mod.size) (by omega) ((j:Int)+1) Q hQ ak);have a6:=(aT j aC).1;have aX:=(aT j aC).2;clear hQ ak hR;go_wp2_with fail;clear a7 aY a6 aX;refine cy.o.mono ?_;rintro e x2 ⟨u1,u2,G,L',A3,D3,rfl,o1,o2,st3,q3,hD3⟩;have aA:=aa (l.o.trans st3);have s:=aa (J.o.modT st3.mod (by decide) (by decide));have Q3:=aa q3;have cd:=aa hD3;obtain ⟨m1,l1,rfl⟩:=ag o1;obtain ⟨m2,l2,rfl⟩:=ag o2;have aj:j+1<us.length:=by have:=bH.o;omega
      obtain ⟨uo,c5⟩:∃uo,x2.cell? ⟨n,j+1,none⟩=some uo:=⟨us[j+1],by rw [s.o.blk.c (j+1)];simp [aj]⟩;have f5:x2.frozen? ⟨n,j+1,none⟩=false:=s.o.blk.free (j+1);have F:=aa (s.o.set (j+1) (.slice m1 G.length l1) G (aw o1 (Nat.le_of_lt aL.o)) (fj o1 (fun q hq=>bG.o q hq)) (fun q hq=>by have h1:=(o1.lt q hq).1;have h2:=aL.o;omega));have aB:Hid ((x2.setCell ⟨n,j+1,none⟩ (.slice m1 G.length l1)).ownsRow wr.heap.size 120 3 (.slice m2 L'.length l2) L'.length (flat eLg L')):=aa (au o2 (fun g hg=>An x2 ⟨n,j+1,none⟩ _ g (fun e=>aD s.o.blk o2 (by decide) g hg (by simpa using e))));have cO:=(HQ.o G L' q3).2.1;have aO:n≤(x2.setCell ⟨n,j+1,none⟩ (.slice m1 G.length l1)).heap.size:=by have h1:=s.o.blk.lt;simp [World.setCell];omega
      clear o1 o2 st3 q3 hD3 aj;have a6:=(aT j aC).1;have aX:=(aT j aC).2;go_wp2_with (at_builtin;clear a6 aX;refine aq kLg (by decide) bL _ rfl _ _ 66 rfl n 120 i0 (.agg #[.int .i64 0,.int .i64 0,.int .i64 0]) 24 Tryz.underlying66 hi hz0 hz1 hz2 (by rfl) (.slice nl L.length kl) L rfl F.o.lk m2 l2 L' rfl (Sl.own kLg aB.o) (by unfold maxLen;omega) (by omega) aO ?_;intro v' w7 t O bS;have bd:=aa (F.o.grow aO O t bS);have u:=aa ((aA.o.side (ModT.set s.o.blk (by simp) (zY _) (by simp)) ac.o.1 ac.o.2).side (ModT.grown F.o.lk O (by simp) (zY _) (by simp)) ac.o.1 ac.o.2);clear O bS t)
      go_roundw
      case rel=>exact ⟨j+1,A3,D3,_,_,_,_,hlt,by first | rfl | go_num,rfl,u.o,by have h9:=HR.o G L' Q3.o;rw [←cd.o] at h9;exact h9,by rw [uB k M j G hlt b8.o] at bd;exact bd.o⟩
      case measure=>exact ar hlt
     ·obtain rfl:j=k:=by omega
      have cu:¬ ((j:Int)<(j:Int)):=by omega
      have cj:=HH.o.b3 D2 M L (by rw [U.o];exact am.o);obtain ⟨r,P,Q,bh,be,aN,hP,bg,hQ,ak,aP,hR⟩:=cj;have HR:=aa hR;have HQ:=aa hQ;have av:=aa (qC l.o.gd l.o.at' a5.o (T.o.step l.o) (z5 hB l.o.mod.size) lgj (.slice nl L.length kl) L r (Sl.own kLg J.o.lk) bh be aN aR.o P hP bg Q hQ ak aP);clear bh be aN hP bg hQ ak aP hR a7 aY;go_wp2_with fail;refine av.o.mono ?_;rintro e x2 ⟨u1,u2,G,L',A3,D3,rfl,o1,o2,st3,D4,p4,q4,hD3⟩;have aA:=aa (l.o.trans st3);have s:=aa (J.o.modT st3.mod (by decide) (by decide));have bJ:Hid (I3 M G L' D3):=aa (by rw [hD3];exact HR.o D4 G L' p4 q4);have b9:=aa o1;have a4:=aa o2;obtain ⟨m1,l1,rfl⟩:=ag o1;obtain ⟨m2,l2,rfl⟩:=ag o2;have aj:0<us.length:=by have:=bH.o;omega
      obtain ⟨uo,c5⟩:∃uo,x2.cell? ⟨n,0,none⟩=some uo:=⟨us[0],by rw [s.o.blk.c 0];simp [aj]⟩;have f5:x2.frozen? ⟨n,0,none⟩=false:=s.o.blk.free 0;have cn:=Nat.le_of_lt aL.o;have F:=aa (s.o.set 0 (.slice m1 G.length l1) G (aw o1 cn) (fj o1 (fun q hq=>bG.o q hq)) (fun q hq=>by have h1:=(o1.lt q hq).1;have h2:=aL.o;omega));have aB:Hid ((x2.setCell ⟨n,0,none⟩ (.slice m1 G.length l1)).ownsRow wr.heap.size 120 3 (.slice m2 L'.length l2) L'.length (flat eLg L')):=aa (au o2 (fun g hg=>An x2 ⟨n,0,none⟩ _ g (fun e=>aD s.o.blk o2 (by decide) g hg (by simpa using e))));have N:=aa (aA.o.side (ModT.set (i:=0) (x:=.slice m1 G.length l1) s.o.blk (by simp) (zY _) (by simp)) ac.o.1 ac.o.2);obtain ⟨ok3,lg3,hC3,hG3,has3,hL3,hrow3⟩:=HH.o.o3 M G L' D3 bJ.o;have e0:(rowsJ j M j).set 0 G=G :: M:=by unfold rowsJ;simp
      rw [e0] at F;have al:=aa ok3;have bs:=aa hC3;have bC:=aa has3;have aS:=aa hrow3;have cw:=aa hG3;have cN:(0:Int)<(j:Int)+1:=by omega
      clear o1 o2 st3 p4 q4 hD3 aj ok3 hC3 hG3 has3 hrow3 e0;have c9:(x2.setCell ⟨n,0,none⟩ (.slice m1 G.length l1)).cell? ⟨A.gd,9,none⟩=some (ptr A.gs):=by rw [←N.o.gd,←N.o.gs];exact N.o.at'.blk.c 9
      have Z:=aa (mA B A3.gs A3.vo D3.obs _ N.o.at'.sheet (by have:=al.o.obs;omega));rw [N.o.gs] at Z;have aV:Hid (∀x∈D3.obs.filterMap claimF,x∈D3.obs):=aa fun x hx=>by
       obtain ⟨y,hy,he⟩:=AN.1 hx;unfold claimF openF at he;split at he
       ·cases he;exact hy
       ·cases he
      have b5:(D3.obs.filterMap claimF).length≤1024:=z5 (Ak _ _) al.o.obs;have aH:Hid (D3.fin (G :: M) L'={ (D3.marks (G :: M) L' (D3.obs.filterMap claimF)).leaveK (C.secs.length+1) with bids:=[],state:=0 }):=aa (aU.o D3 _ _ (bs.o.trans HC.o));obtain ⟨m,ay⟩:∃m,D3.obs.filterMap claimF=m:=⟨_,rfl⟩;rw [ay] at Z aV b5 aH;obtain ⟨us4,hus4⟩:∃us4,us.set 0 (.slice m1 G.length l1)=us4:=⟨_,rfl⟩;rw [hus4] at F;obtain ⟨WB,hWB⟩:∃WB,(x2.setCell ⟨n,0,none⟩ (.slice m1 G.length l1)).heap.size=WB:=⟨_,rfl⟩;have aW:Hid (∀q,A3.vo.ownBlock=some q→q<WB):=aa fun q hq=>by rw [←hWB];exact (N.o.at'.sheet.own.lt q hq).2
      have a2:Hid ((G :: M).length=j+1):=aa (by rw [Ay,cw.o,U.o]);obtain ⟨d,R⟩:∃d,G :: M=d:=⟨_,rfl⟩;have cB:=aa R;rw [R] at F aH a2 aS;clear ay hus4 R;go_wp2_with (go_at_call 218;refine Z.o.mono ?_;rintro e x5 ⟨v5,rfl,o5,c5b⟩;have b6:=aa (N.o.keep c5b);have cq:=aa (F.o.keep c5b);have ci:=aa (ah aB.o c5b);rw [hWB] at o5;have O5:=aa o5;obtain ⟨n5,k5,rfl⟩:=ag o5;clear o5 c5b)
      clear c9 c5 f5 Z N F aB hWB s aA b9 a4 J l am aR a5 av ck q1 q2 q3 aF aZ V;go_loopw [83] (fun vi wr=>∃i:Nat,i≤m.length∧vi=.int .i64 i∧DSp B K w wr A A3 (D3.marks d L' (m.take i))∧LRows wr n n us4 d (.slice nl L.length kl) L∧(∃B2,wr.ownsRow B2 120 3 (.slice m2 L'.length l2) L'.length (flat eLg L'))∧wr.ownsRow WB 71 6 (.slice n5 m.length k5) m.length (flat eOb m)) (fun vi _=>m.length - (intOf vi).toNat)
      case atStart=>exact ⟨0,Af _,rfl,b6.o,cq.o,⟨_,ci.o⟩,O5.o⟩
      case round=>
       obtain ⟨i,hi,rfl,E,z,⟨B2,bB⟩,a8⟩:=hrel;have f:=aa E;have J:=aa z;have a4:=aa bB;have bV:=aa a8;have cr:=aa (Sl.own kOb a8);have cD:=E.mod.size;clear E z bB a8;by_cases hlt:i<m.length
       ·obtain ⟨a',bn,bT,_,cQ,cm,br⟩:=cr.o;obtain ⟨e1,e2⟩:n5=a'∧k5=bn:=by simpa using bT
        subst e1 e2;obtain ⟨b,bu,rfl,cH,ay⟩:=br (by omega);have hx:=ay i hlt;have bl:(0:Int)≤(i:Int):=by omega
        have ab:(i:Int)<(m.length:Int):=by omega
        unfold maxLen at cm;have I:=aa (nB D3 d L' m i hlt);have bz:=aa (lx d L' (m.take i) al.o).1;have ba:=aV.o m[i] (Ag hlt);have bZ:=bC.o m[i] ba;have bA:=al.o.o64 m[i] ba;obtain ⟨Di,bm⟩:∃Di,D3.marks d L' (m.take i)=Di:=⟨_,rfl⟩;rw [bm] at I bz f;clear ay br bT bm ba;generalize m[i]=x at *;obtain ⟨xc,xm,xa,xn,xd,xs⟩:=x;obtain ⟨r0,r1,r2,r3,r4,r5⟩:=g8 hx;dsimp only at bZ bA r0 r1 r2 r3 r4 r5 I;obtain ⟨a,rfl⟩:∃a:Nat,xa=(a:Int):=⟨xa.toNat,by omega⟩;have bK:a<j+1:=by have:=U.o;omega
        obtain ⟨Y,bb⟩:∃Y,wrap64 (-xn)=Y:=⟨_,rfl⟩;have cC:IntKind.i64.wrap (-xn)=Y:=(IntWalk.i64_left _).trans bb;rw [bb,Int.toNat_natCast] at I;have bj:a<us4.length:=by rw [J.o.len,a2.o];exact bK
        have a0:a<d.length:=by rw [a2.o];exact bK
        have bc:d.getD a []=d[a]:=by rw [Ah,Ab a0];rfl
        have t:=J.o.own a bj a0;have az:us4[a]?=some us4[a]:=Ab bj;have bi:=aS.o d[a] (Ag a0);rw [bc] at I;obtain ⟨Ga,bP⟩:∃Ga,d[a]=Ga:=⟨_,rfl⟩;rw [bP] at I t bi;obtain ⟨na,ka,hva⟩:=ag t;rw [hva] at t az;have bE:=aa t;obtain ⟨X,hX⟩:∃X,(wr.alloc (.cells (cOb ⟨xc,xm,a,xn,xd,xs⟩) 71)).alloc (.cells (cLg ⟨xm,a,Y⟩) 120)=X:=⟨_,rfl⟩;have cX:Bw wr X:=by rw [←hX];exact Bn.alloc (by simp) _
        have cp:=aa hX;have bM:Hid (Blk X wr.heap.size 71 (cOb ⟨xc,xm,a,xn,xd,xs⟩)):=aa (by rw [←hX];exact (Blk.new wr 71 _).alloc _);have bv:Hid (Blk X (wr.heap.size+1) 120 (cLg ⟨xm,a,Y⟩)):=aa (by rw [←hX];exact heap_alloc2_new _ _ _);have V:=aa (f.o.keep cX);have ap:=aa (J.o.keep cX);have aQ:=aa (ah a4.o cX);have ax:=aa (ah bV.o cX);have bp:=aa (ah bE.o cX);have cc:Hid (A3.vo.ownBlock≠some wr.heap.size):=aa (fun e=>by have h1:=aW.o _ e;have h2:=bV.o.lt b rfl;omega);have a1:Hid (∀W,Bw X W→SX n a wr.heap.size (.slice na Ga.length ka) xm a Y W):=aa fun W c=>SX.of (x:=⟨xc,xm,a,xn,xd,xs⟩) (c:=⟨xm,a,Y⟩) (bv.o.keep c) (bM.o.keep c) (ap.o.blk.keep c) az rfl rfl
        have bW:Hid (∀W,Bw X W→Calls Tryz.prog 220 #[.slice na Ga.length ka,.int .i64 xm] W fun e w'=>e=.returned (.int .i64 (ofM xm Ga))∧Bw W w'):=aa fun W c=>uj _ Ga xm W (Sl.own kLg (ah bp.o c)) bi
        have bw:Hid (∀W,Bw X W→Calls Tryz.prog 220 #[.slice m2 L'.length l2,.int .i64 xm] W fun e w'=>e=.returned (.int .i64 (ofM xm L'))∧Bw W w'):=aa fun W c=>uj _ L' xm W (Sl.own kLg (ah aQ.o c)) hL3
        obtain ⟨da,bX⟩:∃da,ofM xm Ga=da:=⟨_,rfl⟩;obtain ⟨lb,hlb⟩:∃lb,ofM xm L'=lb:=⟨_,rfl⟩;rw [bX] at bW I;rw [hlb] at bw I;have bF:Hid (∀W,Bw X W→Calls Tryz.prog 219 #[ptr A.gd,.agg #[.int .i64 xm,.int .i64 (a:Int),.int .i64 Y],.int .i64 da,.bool (decide (0<lb))] W fun e w'=>e=.returned (.tuple #[])∧DSp B K w w' A A3 (Di.mark ⟨xm,a,Y⟩ da (decide (0<lb)))∧LRows w' n n us4 d (.slice nl L.length kl) L∧w'.ownsRow B2 120 3 (.slice m2 L'.length l2) L'.length (flat eLg L')∧w'.ownsRow WB 71 6 (.slice (some ⟨b,bu,none⟩) m.length k5) m.length (flat eOb m)∧SX n a wr.heap.size (.slice na Ga.length ka) xm a Y w'):=aa fun W c=>by
         have aJ:=V.o.keep c;have hk:=xU (K:=K) aJ.at' bz.o (T.o.step aJ) ⟨xm,a,Y⟩ da (decide (0<lb));rw [aJ.gd] at hk;refine hk.mono ?_;rintro e w' ⟨he,st,fr⟩;have cg:w'.ownsRow WB 71 6 (.slice (some ⟨b,bu,none⟩) m.length k5) m.length (flat eOb m):=au (ah ax.o c) (fun g hg=>fr g ((ah ax.o c).lt g hg).2 (fun e2=>by have h1:=aW.o g e2;have h2:=((ah ax.o c).lt g hg).1;omega));have bY:=bM.o.keep c;exact ⟨he,aJ.trans st,(ap.o.keep c).modT st.mod (by decide) (by decide),ai (ah aQ.o c) st.mod (by decide),cg,SX.of (x:=⟨xc,xm,a,xn,xd,xs⟩) (c:=⟨xm,a,Y⟩) ((bv.o.keep c).modT st.mod (by decide)) ((fr _ bY.lt cc.o).trans bY) ((ap.o.blk.keep c).modT st.mod (by decide)) az rfl rfl⟩
        have a3:=a1.o X (zZ _ _);have N0:Hid (Bw X X.drew):=aa (zZ _ _).drew;have cI:(0:Int)≤(a:Int):=by omega
        have cE:(a:Int)<(j:Int)+1:=by omega
        clear hX cX hx t az hva bP bc bX hlb bb bZ bA;go_wp2_with fail;rw [show (wr.alloc (.cells #[.int .i64 xc,.int .i64 xm,.int .i64 (a:Int),.int .i64 xn,.int .i64 xd,.int .i64 xs] 71)).alloc (.cells #[.int .i64 xm,.int .i64 (a:Int),.int .i64 Y] 120)=X from cp.o];go_region_held3 (fun W=>SX n a wr.heap.size (.slice na Ga.length ka) xm a Y W) (first | exact a3 | exact s1 | exact s2 | exact s3 | assumption | go_keep)
         (first
          | (go_at_call 220;(first
            | (with_reducible refine (bW.o _ (by first | exact N2.o | exact N0.o)).mono ?_;rintro e y1 ⟨rfl,d1⟩;(first | have N1:=aa (N2.o.trans (d1.mono N2.o.size)) | have N1:=aa (N0.o.trans (d1.mono N0.o.size)));have s1:=a1.o _ N1.o;clear d1)
            | (with_reducible refine (bw.o _ (by first | exact N1.o | exact N0.o)).mono ?_;rintro e y2 ⟨rfl,d2⟩;(first | have N2:=aa (N1.o.trans (d2.mono N1.o.size)) | have N2:=aa (N0.o.trans (d2.mono N0.o.size)));have s2:=a1.o _ N2.o;clear d2)))
          | (go_at_call 219;(first | refine (bF.o _ N2.o).mono ?_ | refine (bF.o _ N1.o).mono ?_);rintro e y3 ⟨rfl,bq,bQ,bO,bR,s3⟩;have cx:=aa bq;have co:=aa bQ;have cz:=aa bO;have ct:=aa bR;clear bq bQ bO bR))
        all_goals
         rename_i aG
         clear aG s1 s2 s3 a3;go_wp2_with fail;go_roundw
         case rel=>exact ⟨i+1,by omega,by go_num,by rw [I.o];exact cx.o,co.o,⟨_,cz.o⟩,ct.o⟩
         case measure=>exact ar (by omega)
       ·obtain rfl:i=m.length:=by omega
        have cL:¬ ((m.length:Int)<(m.length:Int)):=by omega
        rw [show m.take m.length=m from Ae (zY _)] at f;obtain ⟨aK,a9,bk⟩:=lx d L' m al.o;have ae:=bk.trans (bs.o.trans HC.o);obtain ⟨Dm,hDm⟩:∃Dm,D3.marks d L' m=Dm:=⟨_,rfl⟩;rw [hDm] at f aH aK a9 ae;have cP:=aa aK;have aM:=nj f.o.at' aK (T.o.step f.o) (z5 hB f.o.mod.size) (by rw [a9];omega);rw [f.o.gd,ae] at aM;have aM:=aa aM;have cA:=aa aH.o;clear aK a9 bk ae hDm;go_wp2_with (first
         | (go_at_call 221;refine aM.o.mono ?_;rintro e z1 ⟨A6,rfl,bo⟩;have ad:=aa (f.o.trans bo);have cG:z1.cell? ⟨A.gd,10,none⟩=some (ptr A6.gx):=(by rw [←ad.o.gd];exact ad.o.at'.blk.c 10);clear bo)
         | (go_at_call 222;refine (qE (K:=K) rfl ad.o.at' ((T.o.step ad.o).blk ad.o.at'.box (by decide))).mono ?_;rintro e z2 ⟨A7,r7,rfl,bx⟩;have u:=aa (ad.o.trans bx);have b7:=u.o.at'.blk.c 13;rw [u.o.gd] at b7;have cv:=u.o.at'.blk.free 13;rw [u.o.gd] at cv;have bI:=aa (u.o.trans (u.o.at'.setState (K:=K) 0 ((T.o.step u.o).blk u.o.at'.blk (by decide))));rw [u.o.gd] at bI;clear bx))
        go_ret;refine ⟨0,_,_,rfl,bI.o,?_⟩;rw [if_neg (by simpa using HS.o)];exact ⟨rfl,M,G,L',D3,bJ.o,by rw [cB.o,cA.o]⟩
structure EnAt (w wr:World)(b:Nat)(v:Value)(l:List En):Prop where
 blk:Blk wr b 230 #[v]
 own:wr.ownsRow w.heap.size 231 4 v l.length (flat eEn l)
 low:Bw w wr
 hb:w.heap.size≤b
theorem cP {w wr:World}{b:Nat}{v:Value}{l:List En}(h:EnAt w wr b v l)(hn:l.length≤10000)(a c:Ac)(n:Int)(hn64:-9223372036854775807≤n∧n≤9223372036854775807):Calls Tryz.prog 139 #[aval a,aval c,.int .i64 n,ptr b] wr fun e w'=>∃v',e=.returned (.tuple #[])∧EnAt w w' b v' (l++[⟨a.k,a.m,0,-n⟩,⟨c.k,c.m,0,n⟩])∧wr.heap.size≤w'.heap.size∧∀g T cs,Blk wr g T cs→T≠230→T≠231→Blk w' g T cs:=by
 obtain ⟨s,j⟩:=a;obtain ⟨ck,cm⟩:=c;obtain ⟨i0,hi,hz0,hz1,hz2⟩:=info_parts zj;have G:Bw wr ((wr.alloc (.cells (acs ⟨s,j⟩) 81)).alloc (.cells (acs ⟨ck,cm⟩) 81)):=Bn.alloc (by simp) _;have t:=G.alloc G.size (.cells #[.int .i64 s,.int .i64 j,.int .i64 0,.int .i64 (-n),.int .i64 ck,.int .i64 cm,.int .i64 0,.int .i64 n] 231);have F:=aa h;have A:=aa (ah h.own t);have O:=aa (h.blk.keep t);have R:((wr.alloc (.cells (acs ⟨s,j⟩) 81)).alloc (.cells (acs ⟨ck,cm⟩) 81)).cell? ⟨b,0,none⟩=some v:=(h.blk.keep G).c 0;have P:=h.low.size;have J:wrap64 (-n)=-n:=IntWalk.wrap64_in _ (by omega);have L:IntKind.i64.wrap (-n)=-n:=Ax _ (by omega);have d:=h.low.trans (t.mono h.low.size);have C:=aa d;have u:=d.size;obtain ⟨nv,kv,rfl⟩:=ag h.own;have N:([⟨s,j,0,-n⟩,⟨ck,cm,0,n⟩]:List En).length=2:=rfl;obtain ⟨L2,hL2⟩:∃L2,l++[⟨s,j,0,-n⟩,⟨ck,cm,0,n⟩]=L2:=⟨_,rfl⟩;have M:=aa hL2;clear h d;have I:Hid (Blk (((wr.alloc (.cells (acs ⟨s,j⟩) 81)).alloc (.cells (acs ⟨ck,cm⟩) 81)).alloc (.cells #[.int .i64 s,.int .i64 j,.int .i64 0,.int .i64 (-n),.int .i64 ck,.int .i64 cm,.int .i64 0,.int .i64 n] 231)) (wr.heap.size+2) 231 #[.int .i64 s,.int .i64 j,.int .i64 0,.int .i64 (-n),.int .i64 ck,.int .i64 cm,.int .i64 0,.int .i64 n]):=aa (by have h:=Blk.new ((wr.alloc (.cells (acs ⟨s,j⟩) 81)).alloc (.cells (acs ⟨ck,cm⟩) 81)) 231 #[.int .i64 s,.int .i64 j,.int .i64 0,.int .i64 (-n),.int .i64 ck,.int .i64 cm,.int .i64 0,.int .i64 n];simpa using h)
 go_enter Tryz.func139,Tryz.ntmps139;go_wp2_with (at_builtin;refine aq kEn (by decide) oneEn _ rfl _ _ 230 rfl w.heap.size 231 i0 (.agg #[.int .i64 0,.int .i64 0,.int .i64 0,.int .i64 0]) 32 Tryz.underlying230 hi hz0 hz1 hz2 (by rfl) (.slice nv l.length kv) l rfl A.o (some ⟨wr.heap.size+2,0,none⟩) 2 [⟨s,j,0,-n⟩,⟨ck,cm,0,n⟩] rfl (Sl.two I.o) (by show l.length+2≤maxLen;unfold maxLen;omega) (by show (l.length+2) * 32≤_;omega) u ?_;intro v' E i f D;rw [hL2] at i;have r:=aa (O.o.grown A.o f (by decide));have x:=aa i;have y:=aa (ModT.grown (B:=w.heap.size) (TS:=[230,231]) (K:=[]) A.o f (by simp) (zY _) (by simp));have S:=r.o.c 0;have Q:=r.o.free 0;have z:=aa (C.o.grown f u (fun q hq=>(A.o.lt q hq).1));obtain ⟨n7,k7,rfl⟩:=ag i;clear i f D)
 go_end0;rw [hL2];have H:ModT w.heap.size [230,231] [] E (E.setCell ⟨b,0,none⟩ (.slice n7 L2.length k7)):=ModT.set r.o (by simp) F.o.hb (by simp);refine ⟨.slice n7 L2.length k7,rfl,⟨r.o.set 0 _,au x.o (fun g hg=>An E ⟨b,0,none⟩ _ g (fun e=>aD r.o x.o (by decide) g hg (by simpa using e))),z.o.setCell (p:=⟨b,0,none⟩) F.o.hb _,F.o.hb⟩,?_,fun g T cs hg h1 h2=>?_⟩
 ·exact z5 t.size (z5 y.o.size H.size)
 ·exact ((hg.keep t).modT y.o (by simp [h1,h2])).modT H (by simp [h1,h2])
theorem EnAt.keep {w wr W:World}{b:Nat}{v:Value}{l:List En}(h:EnAt w wr b v l)(c:Bw wr W):EnAt w W b v l:=⟨h.blk.keep c,ah h.own c,h.low.trans (c.mono h.low.size),h.hb⟩
def mbAt (C:Cfg)(k:Nat):Mb:=C.mem.getD k ⟨0,0⟩
def endowE (C:Cfg):Nat→List En
 | 0=>[]
 | k+1=>endowE C k++[⟨7,(k:Int)+1,0,-(mbAt C k).coll⟩,⟨8,(k:Int)+1,0,(mbAt C k).coll⟩]++[⟨7,(k:Int)+1,0,-(mbAt C k).fund⟩,⟨9,(k:Int)+1,0,(mbAt C k).fund⟩]
def endowL (C:Cfg):List En:=endowE C C.mem.length++[⟨5,0,0,-C.line⟩,⟨3,0,0,C.line⟩]++[⟨6,0,0,-C.capital⟩,⟨4,0,0,C.capital⟩]
def DS.endow (D:DS):DS:=({ D with endowed:=true }:DS).post (endowL D.C)
theorem gO (C:Cfg):∀k,(endowE C k).length=4 * k:=by
 intro k;induction k with
 | zero=>rfl
 | succ k ih=>simp [endowE,ih];omega
theorem qF {C:Cfg}(h:Valid C):∀k,k≤C.mem.length→∀x∈endowE C k,In64 x.amt:=by
 intro k;induction k with
 | zero=>intro _ x a;simp [endowE] at a
 | succ k ih=>
  intro c x a;have b:=h.mem (mbAt C k) (by unfold mbAt;rw [Ah,Ab (by omega)];exact Ag _);unfold endowE at a;simp only [AJ,Aq,Be,or_false] at a;unfold In64;rcases a with (a | rfl | rfl) | rfl | rfl
  ·exact ih (by omega) x a
  all_goals dsimp only;omega
theorem qG {C:Cfg}(h:Valid C):∀x∈endowL C,In64 x.amt:=by
 intro x a;have b:=h.line;have c:=h.capital;unfold endowL at a;simp only [AJ,Aq,Be,or_false] at a;rcases a with (a | rfl | rfl) | rfl | rfl
 ·exact qF h _ (zY _) x a
 all_goals (unfold In64;dsimp only;omega)
theorem DOk.endow {D:DS}(ok:DOk D):DOk D.endow:=DOk.post (D:={ D with endowed:=true }) ⟨ok.cfg,ok.bal,ok.b64,ok.hlds,ok.rise,ok.obs,ok.o64,ok.who⟩ _
theorem nC {B:Nat}{K:List Nat}{A:DA}{D:DS}{w:World}(h:DkA w B A D)(ok:DOk D)(hK:KOk w K A)(hB:B≤w.heap.size)(he:D.endowed=false)(hz:∀k,k<D.C.mem.length→(mbAt D.C k).coll≤1099511627776 - D.balD ⟨8,(k:Int)+1⟩ 0∧-1099511627776≤D.balD ⟨8,(k:Int)+1⟩ 0) :
  Calls Tryz.prog 99 #[ptr A.gd] w fun e w'=>∃A' r,e=.returned (.int .i64 r)∧DSp B K w w' A A' D.endow:=by
 have l:=aa h;have am:=aa hK;have G:=aa ok;have HZ:=aa hz;have ap:=ok.cfg.m2;have HV:=aa ok.cfg;obtain ⟨nm,km,aq,_,d1,d2,j⟩:=h.cfg.sl.m;have ad:=aa j;have a0:w.cell? ⟨A.gd,14,none⟩=some (.bool false):=by rw [←he];exact h.blk.c 14
 obtain ⟨C,hC⟩:∃C,D.C=C:=⟨_,rfl⟩;rw [hC] at ad ap d1 HZ HV;have p0:w.cell? ⟨A.gd,0,none⟩=some (.slice nm C.mem.length km):=(h.blk.c 0).trans (by rw [←hC];exact congrArg some aq);have HC:=aa hC;unfold maxLen at d2;clear h ok hK hz j aq he hC;go_enter Tryz.func99,Tryz.ntmps99;go_wp2_with fail;go_loopw [23] (fun vi wr=>∃k:Nat,k≤C.mem.length∧vi=.int .i64 k∧Bw w wr) (fun vi _=>C.mem.length - (intOf vi).toNat)
 case atStart=>exact ⟨0,Af _,rfl,zZ _ _⟩
 case round=>
  obtain ⟨k,hk,rfl,i⟩:=hrel;by_cases hlt:k<C.mem.length
  ·obtain ⟨b,F,rfl,E,j⟩:=ad.o (by omega);have HX:Hid (mbAt C k=C.mem[k]):=aa (by unfold mbAt;rw [Ah,Ab hlt];rfl);obtain ⟨q0,q1⟩:=rz (j k hlt);have r0:=(i.c (p:=⟨b,F+k * 2,none⟩) E).trans q0;have r1:=(i.c (p:=⟨b,F+k * 2+1,none⟩) E).trans q1;have aR:(0:Int)≤(k:Int):=by omega
   have aH:(k:Int)<(C.mem.length:Int):=by omega
   have z:k≤1000:=by omega
   have Z:=HZ.o k hlt;rw [HX.o] at Z;have ao:=HV.o.mem C.mem[k] (Ag hlt);clear j q0 q1;generalize C.mem[k]=x at *;have cX:Bw wr (wr.alloc (.cells (cMb x) 125)):=Bn;obtain ⟨X,u⟩:∃X,wr.alloc (.cells (cMb x) 125)=X:=⟨_,rfl⟩;have Y:=aa u;have f:Hid (Blk X wr.heap.size 125 (cMb x)):=aa (by rw [←u];exact Blk.new wr 125 (cMb x));have bX:Bw w X:=by rw [←u];exact i.trans (cX.mono i.size)
   have aE:=aa (l.o.keep bX);have N0:=aa (Near.start X B A D aE.o);obtain ⟨S,H⟩:∃S,D.balD ⟨8,(k:Int)+1⟩ 0=S:=⟨_,rfl⟩;have aX:=aa H;have a4:Hid (In64 S):=aa (by rw [←H];exact fG G.o _ _);rw [H] at Z;have dZ:decide (1099511627776 - S<x.coll)=false:=dF (by omega);have aN:wrap64 (1099511627776 - S)=1099511627776 - S:=IntWalk.wrap64_in _ (by omega);have aU:IntKind.i64.wrap (1099511627776 - S)=1099511627776 - S:=Ax _ (by omega);have n:X.cell? ⟨wr.heap.size,0,none⟩=some (.int .i64 x.coll):=f.o.c 0;have aB:=(aT k z).1;have aA:=(aT k z).2;clear u cX H Z ao;go_wp2_with fail;rw [show wr.alloc (.cells #[.int .i64 x.coll,.int .i64 x.fund] 125)=X from Y.o];go_region_held3 (fun W=>W.cell? ⟨wr.heap.size,0,none⟩=some (.int .i64 x.coll)) (first | exact n | exact s1 | exact s2 | assumption | go_keep)
    (first
     | (go_at_call 138;refine (eo ((k:Int)+1) _).mono ?_;rintro e x1 ⟨rfl,rfl⟩;have I:=aa (N0.o.alloc (.cells (acs ⟨8,(k:Int)+1⟩) 81));have s1:(X.drew.alloc (.cells (acs ⟨8,(k:Int)+1⟩) 81)).cell? ⟨wr.heap.size,0,none⟩=some (.int .i64 x.coll):=(f.o.keep I.o.1).c 0)
     | (go_at_call 137;refine (di I.o.2 G.o ⟨8,(k:Int)+1⟩ 0).mono ?_;rintro e J ⟨rfl,c2⟩;rw [aX.o];have R:=aa (I.o.keep c2);have s2:J.cell? ⟨wr.heap.size,0,none⟩=some (.int .i64 x.coll):=(f.o.keep R.o.1).c 0;clear c2))
   all_goals
    rename_i a
    clear a s1 s2 n;go_wp2_with fail;go_roundw
    case rel=>exact ⟨k+1,hlt,by first | rfl | go_num,bX.trans (R.o.1.mono bX.size)⟩
    case measure=>exact ar hlt
  ·obtain rfl:k=C.mem.length:=by omega
   have aW:¬ ((C.mem.length:Int)<(C.mem.length:Int)):=by omega
   have cA:Bw wr (wr.alloc (.cells #[.slice none 0 0] 230)):=Bn;have bA:=i.trans (cA.mono i.size);have a1:(wr.alloc (.cells #[.slice none 0 0] 230)).cell? ⟨A.gd,0,none⟩=some (.slice nm C.mem.length km):=(bA.c (p:=⟨A.gd,0,none⟩) l.o.blk.lt).trans p0;have an:Hid (EnAt w (wr.alloc (.cells #[.slice none 0 0] 230)) wr.heap.size (.slice none 0 0) (endowE C 0)):=aa ⟨Blk.new wr 230 _,⟨by simp [flat,endowE],Or.inl ⟨rfl,rfl⟩⟩,bA,i.size⟩;obtain ⟨b,hb⟩:∃b,wr.heap.size=b:=⟨_,rfl⟩;rw [hb] at an;go_wp2_with fail;clear hb;go_loopw [45] (fun vi wr=>∃(k:Nat) (v:Value),k≤C.mem.length∧vi=.int .i64 k∧EnAt w wr b v (endowE C k)) (fun vi _=>C.mem.length - (intOf vi).toNat)
   case atStart=>exact ⟨0,_,Af _,rfl,an.o⟩
   case round=>
    obtain ⟨k,v,hk,rfl,q⟩:=hrel;have P:=aa q;have s:=q.low;clear q;by_cases hlt:k<C.mem.length
    ·obtain ⟨b',F,rfl,E,j⟩:=ad.o (by omega);have HX:Hid (mbAt C k=C.mem[k]):=aa (by unfold mbAt;rw [Ah,Ab hlt];rfl);obtain ⟨q0,q1⟩:=rz (j k hlt);have r0:=(s.c (p:=⟨b',F+k * 2,none⟩) E).trans q0;have r1:=(s.c (p:=⟨b',F+k * 2+1,none⟩) E).trans q1;have aR:(0:Int)≤(k:Int):=by omega
     have aH:(k:Int)<(C.mem.length:Int):=by omega
     have z:k≤1000:=by omega
     have ao:=HV.o.mem C.mem[k] (Ag hlt);have V:=gO C k;have aj:Hid (endowE C (k+1)=endowE C k++[⟨7,(k:Int)+1,0,-C.mem[k].coll⟩,⟨8,(k:Int)+1,0,C.mem[k].coll⟩]++[⟨7,(k:Int)+1,0,-C.mem[k].fund⟩,⟨9,(k:Int)+1,0,C.mem[k].fund⟩]):=aa (by rw [←HX.o];rfl);obtain ⟨L,hL⟩:∃L,endowE C k=L:=⟨_,rfl⟩;rw [hL] at P aj V;clear j q0 q1 hL HX;generalize C.mem[k]=x at *;have cX:Bw wr (wr.alloc (.cells (cMb x) 125)):=Bn;obtain ⟨X,u⟩:∃X,wr.alloc (.cells (cMb x) 125)=X:=⟨_,rfl⟩;have Y:=aa u;have f:Hid (Blk X wr.heap.size 125 (cMb x)):=aa (by rw [←u];exact Blk.new wr 125 (cMb x));have aL:Hid (EnAt w X b v L):=aa (by rw [←u];exact P.o.keep cX);have N0:Hid (Bw X X.drew):=aa (zZ _ _).drew;have M:Hid (∀W,Bw X W→Calls Tryz.prog 139 #[aval ⟨7,(k:Int)+1⟩,aval ⟨8,(k:Int)+1⟩,.int .i64 x.coll,ptr b] W fun e w'=>∃v',e=.returned (.tuple #[])∧EnAt w w' b v' (L++[⟨7,(k:Int)+1,0,-x.coll⟩,⟨8,(k:Int)+1,0,x.coll⟩])∧Blk w' wr.heap.size 125 (cMb x)):=aa fun W c=>(cP (aL.o.keep c) (by omega) ⟨7,(k:Int)+1⟩ ⟨8,(k:Int)+1⟩ x.coll (by omega)).mono fun _ _ ⟨v',he,q,_,fr⟩=>⟨v',he,q,fr _ _ _ (f.o.keep c) (by decide) (by decide)⟩
     have n:X.cell? ⟨wr.heap.size,0,none⟩=some (.int .i64 x.coll)∧X.cell? ⟨wr.heap.size,1,none⟩=some (.int .i64 x.fund):=⟨f.o.c 0,f.o.c 1⟩;have ai:Hid (∀W,Bw X W→W.cell? ⟨wr.heap.size,0,none⟩=some (.int .i64 x.coll)∧W.cell? ⟨wr.heap.size,1,none⟩=some (.int .i64 x.fund)):=aa fun W c=>⟨(f.o.keep c).c 0,(f.o.keep c).c 1⟩
     have aB:=(aT k z).1;have aA:=(aT k z).2;clear u cX;go_wp2_with fail;rw [show wr.alloc (.cells #[.int .i64 x.coll,.int .i64 x.fund] 125)=X from Y.o];go_region_held3 (fun W=>W.cell? ⟨wr.heap.size,0,none⟩=some (.int .i64 x.coll)∧W.cell? ⟨wr.heap.size,1,none⟩=some (.int .i64 x.fund)) (first | exact n | exact s1 | exact s2 | exact s3 | assumption | go_keep)
      (first
       | (go_at_call 140;refine (fA ((k:Int)+1) _).mono ?_;rintro e x1 ⟨rfl,rfl⟩;(first | have I:=aa (R.o.alloc R.o.size (.cells (acs ⟨7,(k:Int)+1⟩) 81)) | have I:=aa (N0.o.alloc N0.o.size (.cells (acs ⟨7,(k:Int)+1⟩) 81)));have s1:=ai.o _ I.o)
       | (go_at_call 138;refine (eo ((k:Int)+1) _).mono ?_;rintro e J ⟨rfl,rfl⟩;(first | have R:=aa (I.o.alloc I.o.size (.cells (acs ⟨8,(k:Int)+1⟩) 81)) | have R:=aa (N0.o.alloc N0.o.size (.cells (acs ⟨8,(k:Int)+1⟩) 81)));have s2:=ai.o _ R.o)
       | (go_at_call 139;(first | refine (M.o _ R.o).mono ?_ | refine (M.o _ I.o).mono ?_);rintro e x3 ⟨v3,rfl,af,Q⟩;have aJ:=aa af;have T:=aa Q;have s3:=And.intro (Q.c 0) (Q.c 1);clear af Q))
     all_goals
      rename_i a
      clear a s1 s2 n;have ac:Hid (∀W,Bw x3 W→Calls Tryz.prog 139 #[aval ⟨7,(k:Int)+1⟩,aval ⟨9,(k:Int)+1⟩,.int .i64 x.fund,ptr b] W fun e w'=>∃v',e=.returned (.tuple #[])∧EnAt w w' b v' (L++[⟨7,(k:Int)+1,0,-x.coll⟩,⟨8,(k:Int)+1,0,x.coll⟩]++[⟨7,(k:Int)+1,0,-x.fund⟩,⟨9,(k:Int)+1,0,x.fund⟩])∧Blk w' wr.heap.size 125 (cMb x)):=aa fun W c=>(cP (aJ.o.keep c) (by simp;omega) ⟨7,(k:Int)+1⟩ ⟨9,(k:Int)+1⟩ x.fund (by omega)).mono fun _ _ ⟨v',he,q,_,fr⟩=>⟨v',he,q,fr _ _ _ (T.o.keep c) (by decide) (by decide)⟩
      have aS:Hid (∀W,Bw x3 W→W.cell? ⟨wr.heap.size,0,none⟩=some (.int .i64 x.coll)∧W.cell? ⟨wr.heap.size,1,none⟩=some (.int .i64 x.fund)):=aa fun W c=>⟨(T.o.keep c).c 0,(T.o.keep c).c 1⟩
      have M0:Hid (Bw x3 x3.drew):=aa (zZ _ _).drew;go_wp2_with fail;go_region_held3 (fun W=>W.cell? ⟨wr.heap.size,0,none⟩=some (.int .i64 x.coll)∧W.cell? ⟨wr.heap.size,1,none⟩=some (.int .i64 x.fund)) (first | exact s3 | exact t1 | exact t3 | assumption | go_keep)
       (first
        | (go_at_call 140;refine (fA ((k:Int)+1) _).mono ?_;rintro e y1 ⟨rfl,rfl⟩;have M1:=aa (M0.o.alloc M0.o.size (.cells (acs ⟨7,(k:Int)+1⟩) 81));have t1:=aS.o _ M1.o)
        | (go_at_call 139;refine (ac.o _ M1.o).mono ?_;rintro e y3 ⟨v5,rfl,ak,U⟩;have aM:=aa ak;have t3:=And.intro (U.c 0) (U.c 1);clear ak U))
      all_goals
       rename_i a
       clear a t1 t3 s3;go_wp2_with fail;go_roundw
       case rel=>exact ⟨k+1,v5,hlt,by first | rfl | go_num,by rw [aj.o];exact aM.o⟩
       case measure=>exact ar hlt
    ·obtain rfl:k=C.mem.length:=by omega
     have aW:¬ ((C.mem.length:Int)<(C.mem.length:Int)):=by omega
     have ab:Hid (endowL C=endowE C C.mem.length++[⟨5,0,0,-C.line⟩,⟨3,0,0,C.line⟩]++[⟨6,0,0,-C.capital⟩,⟨4,0,0,C.capital⟩]):=aa rfl;have V:=gO C C.mem.length;have al:=qG HV.o;have a2:=HV.o.line;have aZ:=HV.o.capital;obtain ⟨L,hL⟩:∃L,endowE C C.mem.length=L:=⟨_,rfl⟩;rw [hL] at P ab V;have aO:=aa (l.o.keep s);have c3:wr.cell? ⟨A.gd,3,none⟩=some (.int .i64 C.line):=by rw [←HC.o];exact aO.o.blk.c 3
     have M:=aa (cP P.o (by omega) ⟨5,0⟩ ⟨3,0⟩ C.line (by omega));have aY:True:=trivial;clear hL;go_wp2_with (first
      | (go_at_call 139;(first
        | (clear aY;refine M.o.mono ?_;rintro e x1 ⟨v1,rfl,ae,aI,az⟩;have ac:=aa (cP ae (by simp;omega) ⟨6,0⟩ ⟨4,0⟩ C.capital (by omega));have c4:x1.cell? ⟨A.gd,4,none⟩=some (.int .i64 C.capital):=(by rw [←HC.o];exact (l.o.keep ae.low).blk.c 4);clear ae aI az)
        | (refine ac.o.mono ?_;rintro e J ⟨v2,rfl,O,aG,aV⟩;rw [←ab.o] at O;have t:=aa O;have y:=aa (l.o.keep O.low);have av:J.cell? ⟨A.gd,14,none⟩=some (.bool D.endowed):=y.o.blk.c 14;have aF:J.frozen? ⟨A.gd,14,none⟩=false:=y.o.blk.free 14;clear O aG aV))))
     have aK:=aa (am.o.keep t.o.low);have ST:=aa ((DSp.same (K:=K) l.o t.o.low).trans (y.o.setEndowed (K:=K) true (aK.o.blk y.o.blk (by decide))));have ax:b≠A.gd:=by have h1:=t.o.hb;have h2:=l.o.blk.lt;omega
     have f:Hid (Blk (J.setCell ⟨A.gd,14,none⟩ (.bool true)) b 230 #[v2]):=aa (t.o.blk.far 14 _ ax);have ah:Hid ((J.setCell ⟨A.gd,14,none⟩ (.bool true)).ownsRow w.heap.size 231 4 v2 (endowL C).length (flat eEn (endowL C))):=aa (au t.o.own (fun g hg=>An J ⟨A.gd,14,none⟩ _ g (fun e=>aD y.o.blk t.o.own (by decide) g hg (by simpa using e))));have ay:Hid (DOk { D with endowed:=true }):=aa ⟨G.o.cfg,G.o.bal,G.o.b64,G.o.hlds,G.o.rise,G.o.obs,G.o.o64,G.o.who⟩;obtain ⟨n2,k2,rfl⟩:=ag t.o.own;have a3:(endowL C).length≤1000:=by rw [ab.o];simp;omega
     obtain ⟨X,u⟩:∃X,J.setCell ⟨A.gd,14,none⟩ (.bool true)=X:=⟨_,rfl⟩;rw [u] at ST f ah ⊢;have n:X.cell? ⟨A.gd,8,none⟩=some (ptr A.gv)∧X.cell? ⟨b,0,none⟩=some (.slice n2 (endowL C).length k2):=⟨ST.o.at'.blk.c 8,f.o.c 0⟩;have aP:=aa (qc (K:=K) (ST.o.at'.d (wd:=X.drew)) ay.o ((am.o.step ST.o).d (wd:=X.drew)) (z5 hB ST.o.mod.size) (.slice n2 (endowL C).length k2) (endowL C) (Sl.own kEn (be ah.o)) (by omega) al);have aQ:Hid (D.endow=({ D with endowed:=true }:DS).post (endowL C)):=aa (by unfold DS.endow;rw [HC.o]);have aw:=aa (fun w' (m:ModT B DTS K X.drew w')=>(f.o.d (wd:=X.drew)).modT m (by decide));clear u av aF;go_region_held3 (fun W=>W.cell? ⟨A.gd,8,none⟩=some (ptr A.gv)∧W.cell? ⟨b,0,none⟩=some (.slice n2 (endowL C).length k2)) (first | exact n | exact s9 | assumption | go_keep)
      (first | (go_at_call 141;refine aP.o.mono ?_;rintro e x9 ⟨gb,vb,pp,rfl,N⟩;have aC:=aa (ST.o.trans (N.before (zZ _ _).drew));have s9:=And.intro (N.at'.blk.c 8) ((aw.o _ N.mod).c 0);clear N))
     all_goals
      go_wp2_with fail;go_ret;exact ⟨_,_,rfl,by rw [aQ.o];exact aC.o⟩
def lackF (m:Int)(x:Ob):Option Lg:=if x.mem=m∧x.stt=1∧0<x.net∧0<overM x.net x.done then some ⟨m,x.ass,overM x.net x.done⟩ else none
def lackK (m:Int)(l:List Ob)(k:Nat):List Lg:=(l.take k).filterMap (lackF m)
theorem nD (m:Int)(l:List Ob)(k:Nat)(h:k<l.length):lackK m l (k+1)=lackK m l k++(lackF m l[k]).toList:=by
 unfold lackK;rw [z9 h,List.filterMap_append];cases hx:lackF m l[k] <;> simp [hx]
theorem nE (v:Value)(l:List Ob)(m:Int)(w:World)(hv:Sl eOb 6 w v l)(hn:l.length≤100000)(h64:∀x∈l,In64 x.net∧In64 x.done):Calls Tryz.prog 156 #[v,.int .i64 m] w (RPo eLg 120 3 (l.filterMap (lackF m)) w):=by
 have I:=aa h64;have HS:=aa hv;obtain ⟨n1,R,rfl,_⟩:=hv;obtain ⟨i0,hi,hz0,hz1,hz2⟩:=info_parts bt;clear h64;go_enter Tryz.func156,Tryz.ntmps156;go_wp2_with fail;go_loopw [5,10] (fun vo vi wr=>∃k:Nat,k≤l.length∧vi=.int .i64 k∧wr.ownsRow w.heap.size 120 3 vo (lackK m l k).length (flat eLg (lackK m l k))∧Bw w wr) (fun _ vi _=>l.length - (intOf vi).toNat)
 case atStart=>exact ⟨0,Af _,rfl,⟨by simp [flat,lackK],Or.inl ⟨rfl,by simp [lackK]⟩⟩,zZ _ _⟩
 case round=>
  obtain ⟨k,hk,rfl,f,d⟩:=hrel;have P:=aa f;obtain ⟨no,ko,rfl⟩:=ag f;clear f;by_cases hlt:k<l.length
  ·obtain ⟨a',B,C,_,ad,J,D⟩:=HS.o;obtain ⟨e1,e2⟩:n1=a'∧R=B:=by simpa using C
   subst e1 e2;obtain ⟨b,i,rfl,h,F⟩:=D (by omega);obtain ⟨q0,q1,q2,q3,q4,q5⟩:=g8 (F k hlt);have r0:=(d.c (p:=⟨b,i+k * 6,none⟩) h).trans q0;have r1:=(d.c (p:=⟨b,i+k * 6+1,none⟩) h).trans q1;have r2:=(d.c (p:=⟨b,i+k * 6+2,none⟩) h).trans q2;have r3:=(d.c (p:=⟨b,i+k * 6+3,none⟩) h).trans q3;have r4:=(d.c (p:=⟨b,i+k * 6+4,none⟩) h).trans q4;have r5:=(d.c (p:=⟨b,i+k * 6+5,none⟩) h).trans q5;have S:(0:Int)≤(k:Int):=by omega
   have Y:(k:Int)<(l.length:Int):=by omega
   unfold maxLen at J;have n:=aa (nD m l k hlt);have V:(lackK m l k).length≤k:=z5 (Ak _ _) (by rw [Aa];omega);have Q:=aa (I.o l[k] (Ag hlt));clear F q0 q1 q2 q3 q4 q5 D C;generalize lackK m l k=L at *;generalize l[k]=x at *;have r:=d.alloc d.size (.cells (cOb x) 71);have g:=aa (P.o.alloc (.cells (cOb x) 71));have j:=aa (Blk.new wr 71 (cOb x));obtain ⟨y,G⟩:∃y,overM x.net x.done=y:=⟨_,rfl⟩;have HY:=aa G;have t:=aa (fun W=>fI x.net x.done Q.o.1 Q.o.2 W);rw [G] at t;have E:Hid (lackF m x=if x.mem=m∧x.stt=1∧0<x.net∧0<y then some ⟨m,x.ass,y⟩ else none):=aa (by unfold lackF;rw [G]);clear G;by_cases c1:x.mem=m
   rotate_left
   ·have H:=beq_eq_false_iff_ne.2 c1;have s:Hid (lackK m l (k+1)=L):=aa (by rw [n.o,E.o,if_neg (by intro A;exact c1 A.1)];simp);clear c1;go_wp2_with fail;go_roundw
    case rel=>exact ⟨k+1,by omega,by go_num,by rw [s.o];exact g.o,r⟩
    case measure=>simp [intOf];omega
   have af:=beq_iff_eq.2 c1;by_cases c2:x.stt=1
   rotate_left
   ·have H:=beq_eq_false_iff_ne.2 c2;have s:Hid (lackK m l (k+1)=L):=aa (by rw [n.o,E.o,if_neg (by intro A;exact c2 A.2.1)];simp);clear c1 c2;go_wp2_with fail;go_roundw
    case rel=>exact ⟨k+1,by omega,by go_num,by rw [s.o];exact g.o,r⟩
    case measure=>simp [intOf];omega
   have ac:=beq_iff_eq.2 c2;by_cases c3:0<x.net
   rotate_left
   ·have H:=dF c3;have s:Hid (lackK m l (k+1)=L):=aa (by rw [n.o,E.o,if_neg (by intro A;exact c3 A.2.2.1)];simp);clear c1 c2 c3;go_wp2_with fail;go_roundw
    case rel=>exact ⟨k+1,by omega,by go_num,by rw [s.o];exact g.o,r⟩
    case measure=>simp [intOf];omega
   have ai:=dT c3;by_cases c4:0<y
   rotate_left
   ·have H:=dF c4;have s:Hid (lackK m l (k+1)=L):=aa (by rw [n.o,E.o,if_neg (by intro A;exact c4 A.2.2.2)];simp);clear c1 c2 c3 c4;go_wp2_with (go_at_call 166;refine (t.o _).mono ?_;rintro e N ⟨rfl,rfl⟩)
    go_roundw
    case rel=>exact ⟨k+1,by omega,by go_num,by rw [s.o];exact g.o,r⟩
    case measure=>simp [intOf];omega
   ·have ae:=dT c4;have s:Hid (L++[⟨m,x.ass,y⟩]=lackK m l (k+1)):=aa (by rw [n.o,E.o,if_pos ⟨c1,c2,c3,c4⟩];rfl);clear c1 c2 c3 c4;go_wp2_with (go_at_call 166;refine (t.o _).mono ?_;rintro e N ⟨rfl,rfl⟩)
    obtain ⟨X,T⟩:∃X,wr.alloc (.cells (cOb x) 71)=X:=⟨_,rfl⟩;rw [T] at g j r ⊢;have K:=And.intro (j.o.c 2) (And.intro (j.o.c 3) (j.o.c 4));have ab:=r.size;have ah:wr.heap.size<X.heap.size:=j.o.lt;have u:=g;go_region_held_law (fun W=>W.cell? ⟨wr.heap.size,2,none⟩=some (.int .i64 x.ass)∧W.cell? ⟨wr.heap.size,3,none⟩=some (.int .i64 x.net)∧W.cell? ⟨wr.heap.size,4,none⟩=some (.int .i64 x.done)) (first | exact K | exact M | assumption | go_keep)
     (first | (refine aS kLg (by decide) bL _ (by rfl) _ _ 66 (by rfl) w.heap.size 120 i0 (.agg #[.int .i64 0,.int .i64 0,.int .i64 0]) 24 Tryz.underlying66 hi hz0 hz1 hz2 (by rfl) (.slice no L.length ko) L (by rfl) (by exact u.o.alloc _) (some ⟨X.heap.size,0,none⟩) 1 1 [⟨m,x.ass,y⟩] (by rfl) (by rfl) (by exact Sl.one1 eLg kLg X 120 ⟨m,x.ass,y⟩ (cs:=#[.int .i64 m,.int .i64 x.ass,.int .i64 y]) rfl) (by simp only [Ai];unfold maxLen;omega) (by simp only [Ai];omega) (by simp;omega) ?_;intro v' O f a U;have b4:=(r.alloc r.size (.cells #[.int .i64 m,.int .i64 x.ass,.int .i64 y] 120)).grown (w':=O) (by exact ⟨a.os,a.tape,a.output,a.size,a.block⟩) (r.alloc r.size _).size (fun q hq=>(u.o.lt q hq).1);have z:=aa ((j.o.alloc (.cells #[.int .i64 m,.int .i64 x.ass,.int .i64 y] 120)).grown (w':=O) (u.o.alloc _) (by exact ⟨a.os,a.tape,a.output,a.size,a.block⟩) (by decide));have M:=And.intro (z.o.c 2) (And.intro (z.o.c 3) (z.o.c 4));rw [s.o] at f;obtain ⟨n3,k3,rfl⟩:=ag f) | (go_at_call 166;refine (t.o _).mono ?_;rintro e N ⟨rfl,rfl⟩))
    all_goals
     go_wp2_with fail;go_roundw
     case rel=>exact ⟨k+1,by omega,by go_num,f,b4⟩
     case measure=>simp [intOf];omega
  ·obtain rfl:k=l.length:=by omega
   have Z:¬ ((l.length:Int)<(l.length:Int)):=by omega
   have HE:Hid (lackK m l l.length=l.filterMap (lackF m)):=aa (by unfold lackK;rw [Ap]);go_wp2_with fail;go_ret;exact ⟨_,rfl,by rw [←HE.o];exact P.o,d⟩
theorem lz {B:Nat}{A:DA}{D:DS}{w:World}(h:DkA w B A D)(ok:DOk D):Calls Tryz.prog 52 #[ptr A.gd] w (CPo eOb 71 6 D.obs w):=by
 have i:w.cell? ⟨A.gd,9,none⟩=some (ptr A.gs):=h.blk.c 9;have d:=aa (cC B A.gs A.vo D.obs w h.sheet (by have:=ok.obs;omega));clear h ok;go_enter Tryz.func52,Tryz.ntmps52;go_wp2_with (go_at_call 85;refine d.o.mono ?_;rintro e j ⟨l,rfl,a,f⟩)
 have b:=ag a;obtain ⟨k,g,rfl⟩:=b;go_ret;exact ⟨_,rfl,a,f⟩
theorem uD {B:Nat}{A:DA}{D:DS}{w:World}(h:DkA w B A D)(ok:DOk D):Calls Tryz.prog 55 #[ptr A.gd] w (CPo eI 3 1 D.who w):=by
 have b:w.cell? ⟨A.gd,11,none⟩=some A.vw:=h.blk.c 11;have d:=aa (rD A.vw D.who w (Sl.own kI h.who) (by have:=ok.who;omega));have g:=ag h.who;obtain ⟨l,k,a⟩:=g;rw [a] at b d;clear h ok a;go_enter Tryz.func55,Tryz.ntmps55;go_wp2_with (go_at_call 88;refine d.o.mono ?_;rintro e w1 ⟨v1,rfl,hown,c1⟩)
 have f:=ag hown;obtain ⟨j,i,rfl⟩:=f;go_ret;exact ⟨_,rfl,hown,c1⟩
def YS.lackL (Y:YS)(m:Int):List Lg:=Y.D.obs.filterMap (lackF m)
def YS.lacks (Y:YS)(m:Int):Bool:=decide (0<((Y.lackL m).length:Int))
theorem zD {Y:YS}(ok:YOk Y):∀x∈Y.D.obs,In64 x.net∧In64 x.done:=fun x hx=>⟨ok.dok.o64 x hx,ok.d64 x hx⟩
theorem gP {B:Nat}{A:YA}{Y:YS}{w:World}(h:DyA w B A Y)(ok:YOk Y)(m:Int):Calls Tryz.prog 110 #[ptr A.gy,.int .i64 m] w fun e w'=>e=.returned (.bool (Y.lacks m))∧Bw w w':=by
 have s:w.cell? ⟨A.gy,8,none⟩=some (ptr A.D.gd):=h.blk.c 8;have n:=aa (lz h.desk ok.dok);have b:=aa (zD ok);have p:Y.D.obs.length≤100000:=by have:=ok.dok.obs;omega
 have k:Hid (Y.lackL m=Y.D.obs.filterMap (lackF m)):=aa rfl;have i:Hid (Y.lacks m=decide (0<((Y.lackL m).length:Int))):=aa rfl;rw [i.o];generalize Y.lackL m=L at *;generalize Y.D.obs=l at *;clear h ok;go_enter Tryz.func110,Tryz.ntmps110;go_wp2_with (first | (go_at_call 52;refine n.o.mono ?_;rintro e q ⟨r,rfl,g,f⟩;have a:=aa (Sl.own kOb g);have d:=aa f;clear g f) | (go_at_call 156;refine (nE _ l m _ a.o p b.o).mono ?_;rintro e w2 ⟨v2,rfl,o2,c2⟩;have j:=aa (d.o.trans (c2.mono d.o.size));rw [←k.o] at o2;obtain ⟨n2,k2,rfl⟩:=ag o2;clear o2 c2))
 go_ret;exact ⟨cU (by simp),j.o⟩
theorem lA {B:Nat}{A:YA}{Y:YS}{w:World}{gw:Nat}(e:A.gw=gw)(h:DyA w B A Y)(hn:Y.whl.length≤48)(x:Tm)(hx:x∉Y.whl)(hr:(Y.whl.length:Int)<Y.C.room)(K:List Nat)(hK:A.gw∉K)(hKv:∀k,A.vt.ownBlock=some k→k∉K)(hlt:∀k∈K,k<w.heap.size) :
  Calls Tryz.prog 101 #[ptr gw,vTm x] w fun e w'=>∃A',e=.returned (.int .i64 0)∧YSp B w w' A A' { Y with whl:=Y.whl++[x] }∧A'.gw=gw∧(∀k,A'.vt.ownBlock=some k→k∉K)∧∀k∈K,w'.heap[k]?=w.heap[k]?:=by
 subst e;refine (wM x B A.gw Y.C.room A.vt Y.whl K w h.whl.blk h.whl.l1 h.lt h.whl.own hx hr (by omega) hK hKv).mono ?_;rintro e w' ⟨b,c,g⟩;refine ⟨{ A with vt:=b },c,h.wheelS (g.mod.less (by simp)) ⟨by simpa using g.blk,g.own,h.whl.l1⟩,rfl,fun k hk=>?_,fun k hk=>g.mod.far k (hlt k hk) (Or.inr (Or.inl hk))⟩;rcases g.goes with e | ⟨j,hj,e⟩
 ·exact hKv k (by rw [←e];exact hk)
 ·rw [e] at hk;have:j=k:=by simpa using hk
  intro a;have:=hlt k a
  omega
def YS.opened (Y:YS)(k:Nat):YS:={ Y with D:=Y.D.endow,whl:=Y.whl++(tmM Y.C.cyc).take k }
def YS.open (Y:YS):YS:=(Y.opened (tmM Y.C.cyc).length).come 1
theorem qH {w:World}{B g gw:Nat}{A:YA}{Y:YS}(h:DyA w B A Y)(e1:A.gy=g)(e2:A.gw=gw):w.cell? ⟨g,10,none⟩=some (ptr gw):=by
 subst e1 e2;exact h.blk.c 10
theorem qI {B:Nat}{Y:YS}(c:Cm)(ok:YOk Y)(he:Y.D.endowed=false)(hz:∀k,k<Y.C.mem.length→(mbAt Y.C k).coll≤1099511627776 - Y.D.balD ⟨8,(k:Int)+1⟩ 0∧-1099511627776≤Y.D.balD ⟨8,(k:Int)+1⟩ 0)(hw0:Y.whl=[])(hnd:(tmM Y.C.cyc).Nodup)(hlog:Y.log.length+2 * Y.D.log.length≤900000):Handles B 71 Y c fun n er Y'=>n=0∧er=0∧Y'=Y.open:=by
 intro w A h;have ay:=aa h;have I:Bw w (w.alloc (.cells (ccells c) 38)):=Bn;have ax:=aa (h.keep I);have S:Y.D.C=Y.C:=ok.dc;have aB:=aa (nC (h.keep I).desk ok.dok (h.keep I).kok (h.keep I).lt he (by rw [S];exact hz));have p8:(w.alloc (.cells (ccells c) 38)).cell? ⟨A.gy,8,none⟩=some (ptr A.D.gd):=(h.keep I).blk.c 8;have HV:=aa ok.cfg;have a:Hid (YOk { Y with D:=Y.D.endow }):=aa ⟨ok.dc,ok.gc,ok.dok.endow,ok.gok,ok.told,ok.whl,ok.cyc,ok.clk2,ok.cn,ok.d64⟩;have ap:=aa hlog;have az:=dR Y.C.cyc;have aU:=ok.cfg.c2;have aG:Y.C.room=4 * (Y.C.cyc.length:Int)+2 * (Y.C.mem.length:Int):=rfl;have aT:=ok.cfg.m1;have ac:Hid (Y.open=(Y.opened (tmM Y.C.cyc).length).come 1):=aa rfl;have G:=aa hw0;have aH:(tmM Y.C.cyc).length≤16:=by omega
 have F:((tmM Y.C.cyc).length:Int)<Y.C.room:=by omega
 have f:Hid (∀k,Y.opened k={ Y with D:=Y.D.endow,whl:=Y.whl++(tmM Y.C.cyc).take k }):=aa fun _=>rfl
 have ab:=aa hnd;obtain ⟨l,hl⟩:∃l,tmM Y.C.cyc=l:=⟨_,rfl⟩;have H:=aa (fun W vm vs vc (hc:CSl W vm vs vc Y.C)=>mg vm vs vc Y.C W hc HV.o);rw [hl] at H ab aH F f ac;clear h ok he hz hw0 hnd hlog az aG hl S;go_enter Tryz.func71,Tryz.ntmps71;go_wp2_with (go_at_call 99;refine aB.o.mono ?_;rintro e w1 ⟨A1,r1,rfl,st1⟩;have r:=aa ((YSp.same ay.o I).trans (ax.o.deskS st1));obtain ⟨p0,p1,p2,p3,p4,p5,p6,p7⟩:S8 A.gy A.vm A.vs A.vc Y.C w1:=⟨r.o.at'.blk.c 0,r.o.at'.blk.c 1,r.o.at'.blk.c 2,r.o.at'.blk.c 3,r.o.at'.blk.c 4,r.o.at'.blk.c 5,r.o.at'.blk.c 6,r.o.at'.blk.c 7⟩;clear st1)
 refine (H.o w1 _ _ _ r.o.at'.cfg.sl).mono ?_;rintro e w2 ⟨v2,rfl,o2,c2⟩;have Y2:=aa (r.o.keep c2);have O2:=aa o2;have aC:Hid (∀q,A.vt.ownBlock=some q→v2.ownBlock≠some q):=aa fun q s e=>by have h1:=(r.o.at'.whl.own.lt q s).2;have h2:=(o2.lt q e).1;omega
 obtain ⟨n2,k2,rfl⟩:=ag o2;clear o2 c2 p0 p1 p2 p3 p4 p5 p6 p7 H;go_wp2_with fail;go_loopw [25] (fun vi wr=>∃(k:Nat) (J:YA),k≤l.length∧vi=.int .i64 k∧YSp B w wr A J (Y.opened k)∧J.gw=A.gw∧wr.ownsRow w1.heap.size 197 4 (.slice n2 l.length k2) l.length (flat eTm l)∧∀q,J.vt.ownBlock=some q→(Value.slice n2 l.length k2).ownBlock≠some q) (fun vi _=>l.length - (intOf vi).toNat)
 case atStart=>exact ⟨0,{ A with D:=A1 },Af _,rfl,by rw [f.o,List.take_zero,Bm];exact Y2.o,rfl,O2.o,aC.o⟩
 case round=>
  obtain ⟨k,J,hk,rfl,aj,M,E,R⟩:=hrel;have m:=aa aj;have aq:=aa E;have aJ:=aa (Sl.own kTm E);have aI:=aa R;have t:=aa M;clear aj E R M;by_cases hlt:k<l.length
  ·obtain ⟨a',af,ak,_,aV,aA,al⟩:=aJ.o;obtain ⟨e1,e2⟩:n2=a'∧k2=af:=by simpa using ak
   subst e1 e2;obtain ⟨b,aK,rfl,aQ,aw⟩:=al (by omega);obtain ⟨r0,r1,r2,r3⟩:=jV (aw k hlt);have aR:(0:Int)≤(k:Int):=by omega
   have Q:(k:Int)<(l.length:Int):=by omega
   unfold maxLen at aA;have O:Hid (Y.opened (k+1)={ Y.opened k with whl:=(Y.opened k).whl++[l[k]] }):=aa (by rw [f.o,f.o];simp only;rw [z9 hlt,Au]);have Z:l[k]∉(Y.opened k).whl:=by
    rw [f.o,G.o,Bl];intro hm;obtain ⟨i,hi,e⟩:=Ao hm;rw [List.getElem_take] at e;have Q:i<k:=by rw [Aa] at hi;omega
    have:=List.pairwise_iff_getElem.1 (Bg.1 ab.o) i k (by omega) hlt Q
    exact this e
   have L:=aa Z;have ae:(Y.opened k).whl.length=k:=by rw [f.o,G.o,Bl,Aa];omega
   have U:Hid (((Y.opened k).whl.length:Int)<(Y.opened k).C.room):=aa (by rw [ae];show (k:Int)<Y.C.room;omega);have N:Hid ((Y.opened k).whl.length≤48):=aa (by omega);obtain ⟨Yk,ao⟩:∃Yk,Y.opened k=Yk:=⟨_,rfl⟩;rw [ao] at O L U N m;clear aw al ak Z ae ao;generalize l[k]=x at *;have cX:Bw wr (wr.alloc (.cells (cTm x) 197)):=Bn;obtain ⟨X,hX⟩:∃X,wr.alloc (.cells (cTm x) 197)=X:=⟨_,rfl⟩;have aE:=aa hX;have p:Hid (Blk X wr.heap.size 197 (cTm x)):=aa (by rw [←hX];exact Blk.new wr 197 (cTm x));have j:Hid (YSp B w X A J Yk):=aa (by rw [←hX];exact m.o.keep cX);have y:Hid (X.ownsRow w1.heap.size 197 4 (.slice (some ⟨b,aK,none⟩) l.length k2) l.length (flat eTm l)):=aa (by rw [←hX];exact ah aq.o cX);have aP:b<wr.heap.size:=(aq.o.lt b rfl).2;have aO:wr.heap.size<X.heap.size:=p.o.lt;have aN:A.gw<wr.heap.size:=by rw [←t.o];exact m.o.at'.whl.blk.lt
   have av:∀q T cs,Blk X q T cs→T=150→q≠b:=by
    rintro q T cs s rfl rfl;exact aD s y.o (by decide) q rfl rfl
   have an:=aa (fun W (hW:W.heap=X.heap) (hD:DyA W B J Yk)=>lA t.o hD N.o x L.o U.o [b,wr.heap.size] (by
     rw [t.o];simp only [Aq,Be,or_false,not_or];exact ⟨av _ _ _ (by rw [←t.o];exact j.o.at'.whl.blk) rfl,by omega⟩) (fun q s=>by
     have h1:=aI.o q s;have h2:=(m.o.at'.whl.own.lt q s).2;simp only [Aq,Be,or_false,not_or];exact ⟨fun e=>h1 (by rw [e];rfl),by omega⟩) (fun q s=>by
     rw [hW];simp only [Aq,Be,or_false] at s;rcases s with rfl | rfl <;> omega))
   obtain ⟨t0,t1,t2,t3⟩:X.cell? ⟨wr.heap.size,0,none⟩=some (.int .i64 x.due)∧X.cell? ⟨wr.heap.size,1,none⟩=some (.int .i64 x.kind)∧X.cell? ⟨wr.heap.size,2,none⟩=some (.int .i64 x.mem)∧X.cell? ⟨wr.heap.size,3,none⟩=some (.int .i64 x.level):=⟨p.o.c 0,p.o.c 1,p.o.c 2,p.o.c 3⟩;have am:=And.intro (qH j.o.at' j.o.gy t.o) (And.intro t0 (And.intro t1 (And.intro t2 t3)));clear hX cX hlt t0 t1 t2 t3 av;go_wp2_with fail;rw [show wr.alloc (.cells #[.int .i64 x.due,.int .i64 x.kind,.int .i64 x.mem,.int .i64 x.level] 197)=X from aE.o];go_region_held3 (fun W=>W.cell? ⟨A.gy,10,none⟩=some (ptr A.gw)∧W.cell? ⟨wr.heap.size,0,none⟩=some (.int .i64 x.due)∧W.cell? ⟨wr.heap.size,1,none⟩=some (.int .i64 x.kind)∧W.cell? ⟨wr.heap.size,2,none⟩=some (.int .i64 x.mem)∧W.cell? ⟨wr.heap.size,3,none⟩=some (.int .i64 x.level)) (first | exact am | exact s5 | assumption | go_keep)
    (first | (go_at_call 101;refine (an.o X.drew rfl j.o.at'.d).mono ?_;rintro e w5 ⟨A5,rfl,K,g5,V,u⟩;have z:=aa (j.o.trans (K.before (zZ _ _).drew));have G5:=aa g5;have aF:=aa V;have aM:=aa u;have B5:Blk w5 wr.heap.size 197 (cTm x):=(u _ (by simp)).trans p.o;have s5:=And.intro (qH z.o.at' z.o.gy g5) (And.intro (B5.c 0) (And.intro (B5.c 1) (And.intro (B5.c 2) (B5.c 3))));clear K g5 V u))
   all_goals
    rename_i v
    clear v s5 am;go_wp2_with fail;go_roundw
    case rel=>exact ⟨k+1,A5,by omega,by go_num,by rw [O.o];exact z.o,G5.o,au y.o (fun g hg=>aM.o g (by have e9:b=g:=(by simpa [Value.ownBlock] using hg);subst e9;exact As ..)),fun q s e=>aF.o q s (by have e9:b=q:=(by simpa [Value.ownBlock] using e);subst e9;exact As ..)⟩
    case measure=>exact ar (by omega)
  ·obtain rfl:k=l.length:=by omega
   have aS:¬ ((l.length:Int)<(l.length:Int)):=by omega
   have P:Hid (YOk (Y.opened l.length)):=aa (by
    rw [f.o];refine ⟨a.o.dc,a.o.gc,a.o.dok,a.o.gok,a.o.told,?_,a.o.cyc,a.o.clk2,a.o.cn,a.o.d64⟩;simp only [G.o,Bl,Ap];omega)
   have ad:=aa (eQ m.o.at' P.o (by rw [f.o];show Y.log.length+Y.D.log.length≤_;have:=ap.o;omega) 1);rw [m.o.gy] at ad;go_wp2_with (go_at_call 102;refine ad.o.mono ?_;rintro e w6 ⟨A6,rfl,ai⟩;have aL:=aa (m.o.trans ai);clear ai)
   go_ret2;refine ⟨0,0,A6,_,rfl,aL.o,P.o.come 1,?_,rfl,rfl,ac.o.symm⟩;have hD:(Y.D.endow).log=Y.D.log:=rfl;have hh:=ap.o;rw [f.o];simp only [YS.come,YS.tell,YS.hear,z8,Al,Ay,AL,hD];omega
theorem uE {B:Nat}{A:GA}{D:GS}{w:World}(h:RegAt w B A D):Calls Tryz.prog 107 #[ptr A.gr] w fun e w'=>e=.returned (.int .i64 D.acd)∧w'=w:=by
 have p:=h.blk.c 10;have a:w.cell? ⟨A.gr,10,none⟩=some (.int .i64 D.acd):=p;clear h p;go_enter Tryz.func107,Tryz.ntmps107;go_wp2_with fail;go_ret;exact ⟨rfl,rfl⟩
theorem s8g {w:World}{A:GA}{D:GS}{a:Int}(h:Blk w A.gr 144 (regC A.vm A.vs A.vc D.C A.gt A.gu a)):S8 A.gr A.vm A.vs A.vc D.C w:=⟨h.c 0,h.c 1,h.c 2,h.c 3,h.c 4,h.c 5,h.c 6,h.c 7⟩
abbrev S6 (g:Nat)(t:Tr)(W:World):Prop:=W.cell? ⟨g,0,none⟩=some (.int .i64 t.id)∧W.cell? ⟨g,1,none⟩=some (.int .i64 t.byr)∧W.cell? ⟨g,2,none⟩=some (.int .i64 t.slr)∧W.cell? ⟨g,3,none⟩=some (.int .i64 t.sec)∧W.cell? ⟨g,4,none⟩=some (.int .i64 t.qty)∧W.cell? ⟨g,5,none⟩=some (.int .i64 t.prc)
theorem s6t {w:World}{g:Nat}{t:Tr}(h:Blk w g 58 (cTr t)):S6 g t w:=⟨h.c 0,h.c 1,h.c 2,h.c 3,h.c 4,h.c 5⟩
theorem gQ (g:Nat)(v:Value)(room:Int)(l:List RU)(w:World)(hb:Blk w g 191 #[.int .i64 room,v])(hv:Sl eRU 2 w v l)(hr:0≤room∧room≤1000000)(hn:l.length≤1000000) :
  Calls Tryz.prog 147 #[ptr g] w fun e w'=>e=.returned (.int .i64 (room - l.length))∧∃m,w'=w.drewN m:=by
 have h:=hb.c 0;have f:=hb.c 1;obtain ⟨a,b,rfl,_⟩:=hv;have d:IntKind.i64.wrap (room - (l.length:Int))=room - (l.length:Int):=Ax _ (by omega);clear hb;go_enter Tryz.func147,Tryz.ntmps147;go_wp2;go_quiet (fail)
 go_wp2;go_ret;exact ⟨rfl,_,rfl⟩
def RAddPost (B:Nat)(A:GA)(r:Int×GS)(w:World)(e:Ending)(w':World):Prop:=∃A',e=.returned (.int .i64 r.1)∧GStep B [] w w' A A' r.2
theorem GStep.same {B:Nat}{w w':World}{A:GA}{D:GS}(h:RegAt w B A D)(c:Bw w w'):GStep B [] w w' A A D:=⟨h.keep c,ModT.below c,rfl⟩
theorem GStep.trans {B:Nat}{w w1 w2:World}{A A1 A2:GA}{D1 D2:GS}(s:GStep B [] w w1 A A1 D1)(t:GStep B [] w1 w2 A1 A2 D2):GStep B [] w w2 A A2 D2:=⟨t.at',s.mod.trans t.mod,t.gr.trans s.gr⟩
theorem RegAt.setAcc {B:Nat}{w:World}{A:GA}{D:GS}(h:RegAt w B A D)(n:Int):GStep B [] w (w.setCell ⟨A.gr,10,none⟩ (.int .i64 n)) A A { D with acd:=n }:=by
 have m:ModT B [144] [] w (w.setCell ⟨A.gr,10,none⟩ (.int .i64 n)):=ModT.set h.blk (by simp) h.l1 (by simp);exact ⟨⟨h.blk.set 10 _,h.cfg.modT m (by decide) (by decide) (by decide),h.tblk.modT m (by decide),h.ublk.modT m (by decide),ai h.trades m (by decide),ai h.used m (by decide),h.l1,h.l2,h.l3⟩,m.mono (by decide),rfl⟩
theorem RegAt.putU {B:Nat}{w w':World}{A:GA}{D:GS}{l:List RU}{v:Value}(h:RegAt w B A D)(g:Grew eRU 2 268 w w' B A.gu 191 #[.int .i64 (D.C.trades * D.C.cyc.length),A.vu] 1 A.vu l [] v):GStep B [] w w' A { A with vu:=v } { D with used:=l }:=by
 have m:=g.mod;exact ⟨⟨h.blk.modT m (by decide),h.cfg.modT m (by decide) (by decide) (by decide),h.tblk.modT m (by decide),g.blk,ai h.trades m (by decide),g.own,h.l1,h.l2,h.l3⟩,m.mono (by decide),rfl⟩
theorem RegAt.putT {B:Nat}{w w':World}{A:GA}{D:GS}{l:List RT}{v:Value}(h:RegAt w B A D)(g:Grew eRT 7 163 w w' B A.gt 188 #[.int .i64 D.C.trades,A.vt] 1 A.vt l [] v):GStep B [] w w' A { A with vt:=v } { D with trades:=l }:=by
 have m:=g.mod;exact ⟨⟨h.blk.modT m (by decide),h.cfg.modT m (by decide) (by decide) (by decide),g.blk,h.ublk.modT m (by decide),g.own,ai h.used m (by decide),h.l1,h.l2,h.l3⟩,m.mono (by decide),rfl⟩
theorem uF {B:Nat}{A:GA}{D:GS}{w:World}(h:RegAt w B A D)(hi:GInv D)(hB:B≤w.heap.size)(t:Tr)(ht:TrFit t):Calls Tryz.prog 105 #[ptr A.gr,vTr t] w (RAddPost B A (D.add t) w):=by
 obtain ⟨N,O⟩:∃N,w.alloc (.cells (cTr t) 58)=N:=⟨_,rfl⟩;have F:Bw w N:=by rw [←O];exact Bn
 have i:Hid (Blk N w.heap.size 58 (cTr t)):=aa (by rw [←O];exact Blk.new w 58 _);have G:=aa h;have b:=aa (h.keep F);have r:=aa hi;have Q:=aa ht;have v:=aa O;have E:=And.intro (s8g b.o.blk) (s6t i.o);obtain ⟨y,hy⟩:∃y,tcM D.C t=y:=⟨_,rfl⟩;have u:=aa hy;clear h ht O hy;by_cases e1:y=0
 rotate_left
 ·clear hi;have d1:(y != 0)=true:=by simpa using e1
  have p:Hid (D.add t=(y,D)):=aa (by unfold GS.add;rw [u.o,if_pos e1]);clear e1;go_enter Tryz.func105,Tryz.ntmps105;go_wp2_with fail;rw [show w.alloc (.cells (cTr t) 58)=N from v.o];go_wp2_with fail;go_region_held3 (fun W=>S8 A.gr A.vm A.vs A.vc D.C W∧S6 w.heap.size t W) (first | exact E | assumption | go_keep)
   (first | (go_at_call 104;refine (bp A.vm A.vs A.vc D.C _ (b.o.cfg.sl.d) t Q.o).mono ?_;rintro e w2 ⟨rfl,f⟩;rw [u.o];have n:=aa (aB F f F.size);have j:=And.intro (s8g (b.o.d.keep f).blk) (s6t (i.o.keepD f));have g:=aa (b.o.d.keep f);have l:=aa (i.o.keepD f)))
  all_goals
   go_wp2_with fail;go_ret;exact ⟨A,by rw [p.o];rfl,by rw [p.o];exact GStep.same G.o n.o⟩
 subst e1;have ap:=aa (bO Q.o u.o);by_cases e2:hasM RU.rid D.used t.id=true
 ·clear hi;have p:Hid (D.add t=(7,D)):=aa (by unfold GS.add;rw [u.o,if_neg (by simp),if_pos e2]);have H:=aa e2;clear e2;go_enter Tryz.func105,Tryz.ntmps105;go_wp2_with fail;rw [show w.alloc (.cells (cTr t) 58)=N from v.o];go_wp2_with fail;go_region_held3 (fun W=>S8 A.gr A.vm A.vs A.vc D.C W∧S6 w.heap.size t W) (first | exact E | assumption | go_keep)
   (first | (go_at_call 104;refine (bp A.vm A.vs A.vc D.C _ (b.o.cfg.sl.d) t Q.o).mono ?_;rintro e w2 ⟨rfl,f⟩;rw [u.o];have n:=aa (aB F f F.size);have j:=And.intro (s8g (b.o.d.keep f).blk) (s6t (i.o.keepD f));have g:=aa (b.o.d.keep f);have l:=aa (i.o.keepD f)))
  all_goals
   obtain ⟨u0,Z⟩:=j;go_wp2_with (go_at_call 146;refine (cE g.o r.o.ok t.id).mono ?_;rintro e w3 ⟨rfl,c3⟩;rw [H.o];have S:=aa (n.o.trans (c3.mono n.o.size)))
   go_ret;exact ⟨A,by rw [p.o];rfl,by rw [p.o];exact GStep.same G.o S.o⟩
 have H:Hid (hasM RU.rid D.used t.id=false):=aa (by simpa using e2);have hu:=dX hi;have Y:D.used.length≤1000000:=by have:=hi.ok.un;omega
 have s:Hid (0≤D.C.trades * (D.C.cyc.length:Int)∧D.C.trades * (D.C.cyc.length:Int)≤1000000):=aa (by
  have h1:=hi.ok.cfg.trades;have h2:=hi.ok.cfg.c2;have h3:D.C.trades * (D.C.cyc.length:Int)≤64 * 4:=Int.mul_le_mul h1.2 (by omega) (by omega) (by omega);have h4:0≤D.C.trades * (D.C.cyc.length:Int):=Int.mul_nonneg (by omega) (by omega);omega)
 have ai:=aa hi.ul;clear hi e2;by_cases e3:D.C.trades≤D.acd
 ·have d3:=dT e3;have p:Hid (D.add t=(6,D)):=aa (by unfold GS.add;rw [u.o,if_neg (by simp),H.o,if_neg (by simp),if_pos (Or.inl e3)]);clear e3;go_enter Tryz.func105,Tryz.ntmps105;go_wp2_with fail;rw [show w.alloc (.cells (cTr t) 58)=N from v.o];go_wp2_with fail;go_region_held3 (fun W=>S8 A.gr A.vm A.vs A.vc D.C W∧S6 w.heap.size t W) (first | exact E | assumption | go_keep)
   (first | (go_at_call 104;refine (bp A.vm A.vs A.vc D.C _ (b.o.cfg.sl.d) t Q.o).mono ?_;rintro e w2 ⟨rfl,f⟩;rw [u.o];have n:=aa (aB F f F.size);have j:=And.intro (s8g (b.o.d.keep f).blk) (s6t (i.o.keepD f));have g:=aa (b.o.d.keep f);have l:=aa (i.o.keepD f)))
  all_goals
   obtain ⟨u0,Z⟩:=j;go_wp2_with (go_at_call 146;refine (cE g.o r.o.ok t.id).mono ?_;rintro e w3 ⟨rfl,c3⟩;rw [H.o];have S:=aa (n.o.trans (c3.mono n.o.size));have a:=aa (g.o.keep c3);have I:=aa (l.o.keep c3))
   have p6:w3.cell? ⟨A.gr,6,none⟩=some (.int .i64 D.C.trades):=a.o.blk.c 6;have p9:w3.cell? ⟨A.gr,9,none⟩=some (ptr A.gu):=a.o.blk.c 9;have m:w3.cell? ⟨A.gr,10,none⟩=some (.int .i64 D.acd):=a.o.blk.c 10;go_quiet (fail)
   go_wp2_with fail;go_ret;exact ⟨A,by rw [p.o];rfl,by rw [p.o];exact GStep.same G.o (aj S.o _)⟩
 have d3:=dF e3;by_cases e4:D.C.trades * (D.C.cyc.length:Int) - (D.used.length:Int)=0
 ·have d4:(D.C.trades * (D.C.cyc.length:Int) - (D.used.length:Int)==0)=true:=by simpa using e4
  have p:Hid (D.add t=(6,D)):=aa (by unfold GS.add;rw [u.o,if_neg (by simp),H.o,if_neg (by simp),if_pos (Or.inr (by omega))]);clear e3 e4;go_enter Tryz.func105,Tryz.ntmps105;go_wp2_with fail;rw [show w.alloc (.cells (cTr t) 58)=N from v.o];go_wp2_with fail;go_region_held3 (fun W=>S8 A.gr A.vm A.vs A.vc D.C W∧S6 w.heap.size t W) (first | exact E | assumption | go_keep)
   (first | (go_at_call 104;refine (bp A.vm A.vs A.vc D.C _ (b.o.cfg.sl.d) t Q.o).mono ?_;rintro e w2 ⟨rfl,f⟩;rw [u.o];have n:=aa (aB F f F.size);have j:=And.intro (s8g (b.o.d.keep f).blk) (s6t (i.o.keepD f));have g:=aa (b.o.d.keep f);have l:=aa (i.o.keepD f)))
  all_goals
   obtain ⟨u0,Z⟩:=j;go_wp2_with (go_at_call 146;refine (cE g.o r.o.ok t.id).mono ?_;rintro e w3 ⟨rfl,c3⟩;rw [H.o];have S:=aa (n.o.trans (c3.mono n.o.size));have a:=aa (g.o.keep c3);have I:=aa (l.o.keep c3))
   have p6:w3.cell? ⟨A.gr,6,none⟩=some (.int .i64 D.C.trades):=a.o.blk.c 6;have p9:w3.cell? ⟨A.gr,9,none⟩=some (ptr A.gu):=a.o.blk.c 9;have m:w3.cell? ⟨A.gr,10,none⟩=some (.int .i64 D.acd):=a.o.blk.c 10;go_quiet (first | (go_at_call 147;refine Calls.quiet_of (gQ A.gu A.vu _ D.used _ (a.o.d.ublk) (Sl.own kRU a.o.d.used) ⟨s.o.1,s.o.2⟩ Y)))
   go_wp2_with fail;go_ret;exact ⟨A,by rw [p.o];rfl,by rw [p.o];exact GStep.same G.o (aj S.o _)⟩
 have d4:(D.C.trades * (D.C.cyc.length:Int) - (D.used.length:Int)==0)=false:=by simpa using e4
 have R:Hid (¬ (D.C.trades≤D.acd∨(D.used.length:Int)=D.C.trades * (D.C.cyc.length:Int))):=aa (by omega);have HF:Hid (∀x∈D.trades,TrFit (trR x)):=aa (fun x hx=>(r.o.good x hx).1.fit);obtain ⟨z,hz⟩:∃z,D.room t=z:=⟨_,rfl⟩;have HZ:=aa hz;have HG:=aa hu;clear hz e3 e4;by_cases e5:z=0
 rotate_left
 ·have d5:(z != 0)=true:=by simpa using e5
  have p:Hid (D.add t=(z,D)):=aa (by unfold GS.add;rw [u.o,if_neg (by simp),H.o,if_neg (by simp),if_neg R.o,HZ.o,if_pos e5]);clear e5;go_enter Tryz.func105,Tryz.ntmps105;go_wp2_with fail;rw [show w.alloc (.cells (cTr t) 58)=N from v.o];go_wp2_with fail;go_region_held3 (fun W=>S8 A.gr A.vm A.vs A.vc D.C W∧S6 w.heap.size t W) (first | exact E | assumption | go_keep)
   (first | (go_at_call 104;refine (bp A.vm A.vs A.vc D.C _ (b.o.cfg.sl.d) t Q.o).mono ?_;rintro e w2 ⟨rfl,f⟩;rw [u.o];have n:=aa (aB F f F.size);have j:=And.intro (s8g (b.o.d.keep f).blk) (s6t (i.o.keepD f));have g:=aa (b.o.d.keep f);have l:=aa (i.o.keepD f)))
  all_goals
   obtain ⟨u0,Z⟩:=j;go_wp2_with (go_at_call 146;refine (cE g.o r.o.ok t.id).mono ?_;rintro e w3 ⟨rfl,c3⟩;rw [H.o];have S:=aa (n.o.trans (c3.mono n.o.size));have a:=aa (g.o.keep c3);have I:=aa (l.o.keep c3))
   have p6:w3.cell? ⟨A.gr,6,none⟩=some (.int .i64 D.C.trades):=a.o.blk.c 6;have p9:w3.cell? ⟨A.gr,9,none⟩=some (ptr A.gu):=a.o.blk.c 9;have m:w3.cell? ⟨A.gr,10,none⟩=some (.int .i64 D.acd):=a.o.blk.c 10;go_quiet (first | (go_at_call 147;refine Calls.quiet_of (gQ A.gu A.vu _ D.used _ (a.o.d.ublk) (Sl.own kRU a.o.d.used) ⟨s.o.1,s.o.2⟩ Y)))
   have C4:=aa (aj S.o nq);have L:Hid (RegAt (w3.drewN nq) B A D):=aa a.o.d;have J:Hid (Blk (w3.drewN nq) w.heap.size 58 (cTr t)):=aa I.o.d;clear u0 Z p6 p9 m;generalize w3.drewN nq=W4 at *;obtain ⟨v0,v1,v2,v3,v4,v5⟩:=s6t J.o;go_wp2_with (go_at_call 148;refine (kS L.o r.o.ok t Q.o HF.o).mono ?_;rintro e w5 ⟨rfl,c5⟩;rw [HZ.o];have C5:=aa (C4.o.trans (c5.mono C4.o.size));have q:=aa (L.o.keep c5);have X:=aa (J.o.keep c5);have m:w5.cell? ⟨A.gr,10,none⟩=some (.int .i64 D.acd):=q.o.blk.c 10;have ae:w5.frozen? ⟨A.gr,10,none⟩=false:=q.o.blk.free 10)
   go_wp2_with fail;go_ret;exact ⟨A,by rw [p.o];rfl,by rw [p.o];exact GStep.same G.o C5.o⟩
 subst e5;have p:Hid (D.add t=(0,D.put t)):=aa (by unfold GS.add;rw [u.o,if_neg (by simp),H.o,if_neg (by simp),if_neg R.o,HZ.o,if_neg (by simp)]);have ao:Hid (wrap64 (D.acd+1)=D.acd+1):=aa (by have:=HG.o;unfold wrap64;omega);have hA:IntKind.i64.wrap (D.acd+1)=D.acd+1:=Ax _ (by have:=HG.o;omega);have ak:Hid ((D.used.length:Int)<D.C.trades * (D.C.cyc.length:Int)):=aa (by have:=R.o;have:=ai.o;omega);go_enter Tryz.func105,Tryz.ntmps105;go_wp2_with fail;rw [show w.alloc (.cells (cTr t) 58)=N from v.o];go_wp2_with fail;go_region_held3 (fun W=>S8 A.gr A.vm A.vs A.vc D.C W∧S6 w.heap.size t W) (first | exact E | assumption | go_keep)
  (first | (go_at_call 104;refine (bp A.vm A.vs A.vc D.C _ (b.o.cfg.sl.d) t Q.o).mono ?_;rintro e w2 ⟨rfl,f⟩;rw [u.o];have n:=aa (aB F f F.size);have j:=And.intro (s8g (b.o.d.keep f).blk) (s6t (i.o.keepD f));have g:=aa (b.o.d.keep f);have l:=aa (i.o.keepD f)))
 all_goals
  obtain ⟨u0,Z⟩:=j;go_wp2_with (go_at_call 146;refine (cE g.o r.o.ok t.id).mono ?_;rintro e w3 ⟨rfl,c3⟩;rw [H.o];have S:=aa (n.o.trans (c3.mono n.o.size));have a:=aa (g.o.keep c3);have I:=aa (l.o.keep c3))
  have p6:w3.cell? ⟨A.gr,6,none⟩=some (.int .i64 D.C.trades):=a.o.blk.c 6;have p9:w3.cell? ⟨A.gr,9,none⟩=some (ptr A.gu):=a.o.blk.c 9;have m:w3.cell? ⟨A.gr,10,none⟩=some (.int .i64 D.acd):=a.o.blk.c 10;go_quiet (first | (go_at_call 147;refine Calls.quiet_of (gQ A.gu A.vu _ D.used _ (a.o.d.ublk) (Sl.own kRU a.o.d.used) ⟨s.o.1,s.o.2⟩ Y)))
  have C4:=aa (aj S.o nq);have L:Hid (RegAt (w3.drewN nq) B A D):=aa a.o.d;have J:Hid (Blk (w3.drewN nq) w.heap.size 58 (cTr t)):=aa I.o.d;clear u0 Z p6 p9 m;generalize w3.drewN nq=W4 at *;obtain ⟨v0,v1,v2,v3,v4,v5⟩:=s6t J.o;go_wp2_with (go_at_call 148;refine (kS L.o r.o.ok t Q.o HF.o).mono ?_;rintro e w5 ⟨rfl,c5⟩;rw [HZ.o];have C5:=aa (C4.o.trans (c5.mono C4.o.size));have q:=aa (L.o.keep c5);have X:=aa (J.o.keep c5);have m:w5.cell? ⟨A.gr,10,none⟩=some (.int .i64 D.acd):=q.o.blk.c 10;have ae:w5.frozen? ⟨A.gr,10,none⟩=false:=q.o.blk.free 10)
  have ST:=aa (q.o.setAcc (D.acd+1));have V:Hid (Blk (w5.setCell ⟨A.gr,10,none⟩ (.int .i64 (D.acd+1))) w.heap.size 58 (cTr t)):=aa (X.o.far 10 _ (fun e=>by
   have h1:=X.o;have h2:=q.o.blk;rw [e] at h1;unfold Blk at h1 h2;rw [h2] at h1;simp at h1))
  have al:Hid (∀W,RegAt W B A { D with acd:=D.acd+1 }→B≤W.heap.size→Calls Tryz.prog 149 #[ptr A.gu,.int .i64 t.id,.int .i64 (D.acd+1)] W fun e w'=>∃v',e=.returned (.int .i64 0)∧Grew eRU 2 268 W w' B A.gu 191 #[.int .i64 (D.C.trades * D.C.cyc.length),A.vu] 1 A.vu (insL D.used (posM RU.rid D.used t.id) ⟨t.id,D.acd+1⟩) [] v'):=aa (fun W hW hb=>pt B A.gu _ A.vu D.used ⟨t.id,D.acd+1⟩ [] W hW.ublk hW.l3 hb hW.used (by have:=r.o.ok.un;omega) r.o.ok.ur (by simp) (by simp) H.o ak.o);have an:Hid (∀W A',RegAt W B A' { D with acd:=D.acd+1,used:=insL D.used (posM RU.rid D.used t.id) ⟨t.id,D.acd+1⟩}→B≤W.heap.size→Calls Tryz.prog 150 #[ptr A'.gt,.int .i64 t.id,.agg #[.int .i64 t.id,.int .i64 t.byr,.int .i64 t.slr,.int .i64 t.sec,.int .i64 t.qty,.int .i64 t.prc]] W fun e w'=>∃v',e=.returned (.int .i64 0)∧Grew eRT 7 163 W w' B A'.gt 188 #[.int .i64 D.C.trades,A'.vt] 1 A'.vt (insL D.trades (posM RT.rid D.trades t.id) (rtOf t)) [] v'):=aa (fun W A' hW hb=>pv B A'.gt _ A'.vt D.trades (rtOf t) [] W hW.tblk hW.l2 hb hW.trades (by have:=r.o.ok.tn;omega) r.o.ok.tr (by simp) (by simp) (dO r.o H.o) (by have:=r.o.tl;have:=R.o;show (D.trades.length:Int)<D.C.trades;omega));have ah:Hid (B≤(w5.setCell ⟨A.gr,10,none⟩ (.int .i64 (D.acd+1))).heap.size):=aa (z5 hB (z5 C5.o.size ST.o.mod.size));clear m ae;generalize w5.setCell ⟨A.gr,10,none⟩ (.int .i64 (D.acd+1))=W6 at *;have ag:=And.intro (ST.o.at'.blk.c 9) (And.intro (ST.o.at'.blk.c 10) (s6t V.o))
  go_region_held3 (fun W=>W.cell? ⟨A.gr,9,none⟩=some (ptr A.gu)∧W.cell? ⟨A.gr,10,none⟩=some (.int .i64 (D.acd+1))∧S6 w.heap.size t W) (first | exact ag | exact af | assumption | go_keep)
   (first | (go_at_call 149;refine (al.o W6.drew ST.o.at'.d ah.o).mono ?_;rintro e T ⟨vu,rfl,g7⟩;have K:=aa ((ST.o.at'.d (wd:=W6.drew)).putU g7);have U:=aa ((V.o.d (wd:=W6.drew)).modT g7.mod (by decide));have af:=And.intro (K.o.at'.blk.c 9) (And.intro (K.o.at'.blk.c 10) (s6t U.o))))
  all_goals
   rename_i k
   clear k af ag;have U:Hid (B≤T.heap.size):=aa (z5 ah.o (K.o.mod.size));have ad:=aa ((V.o.d (wd:=W6.drew)).modT g7.mod (by decide));have ab:=And.intro (K.o.at'.blk.c 8) (s6t ad.o);have M:=aa K.o;go_wp2_with fail;go_region_held3 (fun W=>W.cell? ⟨A.gr,8,none⟩=some (ptr A.gt)∧S6 w.heap.size t W) (first | exact ab | exact ac | assumption | go_keep)
    (first | (go_at_call 150;refine (an.o T.drew _ M.o.at'.d U.o).mono ?_;rintro e w9 ⟨vt,rfl,g9⟩;have P:=aa ((M.o.at'.d (wd:=T.drew)).putT g9);have am:=aa ((ad.o.d (wd:=T.drew)).modT g9.mod (by decide));have ac:=And.intro (P.o.at'.blk.c 8) (s6t am.o)))
   all_goals
    rename_i k
    clear k ab ac;go_wp2_with fail;go_ret;have s0:GStep B [] w w5 A A D:=GStep.same G.o C5.o;have s1:=s0.trans ST.o;have s2:GStep B [] w T A _ _:=s1.trans ⟨M.o.at',(ModT.below ((zZ W6.heap.size W6).drew)).trans M.o.mod,M.o.gr⟩;have s3:GStep B [] w w9 A _ _:=s2.trans ⟨P.o.at',(ModT.below ((zZ T.heap.size T).drew)).trans P.o.mod,P.o.gr⟩;have e:D.put t={ D with trades:=insL D.trades (posM RT.rid D.trades t.id) (rtOf t),used:=insL D.used (posM RU.rid D.used t.id) ⟨t.id,D.acd+1⟩,acd:=D.acd+1 }:=by
     unfold GS.put;rw [ao.o]
    rw [p.o,e];exact ⟨_,rfl,s3⟩
def YS.isOut (Y:YS)(t:Tr):Bool:=Y.D.who.any fun m=>m==t.byr||m==t.slr
def YS.trade (Y:YS)(t:Tr):Int×Int×YS:=
 if tcM Y.C t≠0 then (0,tcM Y.C t,Y)
 else if Y.isOut t=true then (0,14,Y)
 else if (Y.G.add t).1≠0 then (0,(Y.G.add t).1,{ Y with G:=(Y.G.add t).2 })
 else ((Y.G.add t).2.acd,0,({ Y with G:=(Y.G.add t).2 }:YS).tell ⟨2,0,0,t.id,0⟩)
theorem DyA.s8 {w:World}{B:Nat}{A:YA}{Y:YS}(h:DyA w B A Y):S8 A.gy A.vm A.vs A.vc Y.C w:=⟨h.blk.c 0,h.blk.c 1,h.blk.c 2,h.blk.c 3,h.blk.c 4,h.blk.c 5,h.blk.c 6,h.blk.c 7⟩
theorem add_C (D:GS)(t:Tr):(D.add t).2.C=D.C:=by
 unfold GS.add;repeat' split
 all_goals rfl
theorem atI1 {W:World}{b o:Nat}{x:Int}(h:∀j u,(eI x)[j]?=some u→W.cell? ⟨b,o+j,none⟩=some u):W.cell? ⟨b,o,none⟩=some (.int .i64 x):=h 0 _ rfl
theorem Cm.Fit.tfit {c:Cm}(h:c.Fit):TrFit c.trade:=⟨h.qt,h.pr⟩
theorem nF {B:Nat}{Y:YS}(c:Cm)(hf:c.Fit)(hk2:c.kd=2)(ok:YOk Y)(hlog:Y.log.length+2 * Y.D.log.length≤900000):Handles B 72 Y c fun n er Y'=>(n,er,Y')=Y.trade c.trade:=by
 intro w A h;have av:=aa (fun W=>xQ c hk2 W);have HF:=aa hf.tfit;have aO:Hid (c.trade=⟨c.id,c.mb,c.ot,c.sc,c.qt,c.pr⟩):=aa rfl;obtain ⟨W1,hW1⟩:∃W1,w.alloc (.cells (ccells c) 38)=W1:=⟨_,rfl⟩;have c1:Bw w W1:=by rw [←hW1];exact Bn
 have aG:Hid (Boxed W1 w.heap.size c):=aa (by rw [←hW1];exact Boxed.new w c);obtain ⟨b0,b1,b2,b3,b4,b5,b6⟩:=aG.o.cells;have K:=aa h;have az:=aa (h.keep c1);have H:=aa ok;have aL:=aa hlog;have ah:=aa hW1;obtain ⟨y,hy⟩:∃y,tcM Y.C c.trade=y:=⟨_,rfl⟩;have T:=aa (fun W vm vs vc (hc:CSl W vm vs vc Y.C)=>bp vm vs vc Y.C W hc c.trade HF.o);rw [hy] at T;have z:Hid (Y.trade c.trade=if y≠0 then (0,y,Y) else if Y.isOut c.trade=true then (0,14,Y) else if (Y.G.add c.trade).1≠0 then (0,(Y.G.add c.trade).1,{ Y with G:=(Y.G.add c.trade).2 }) else ((Y.G.add c.trade).2.acd,0,({ Y with G:=(Y.G.add c.trade).2 }:YS).tell ⟨2,0,0,c.trade.id,0⟩)):=aa (by unfold YS.trade;rw [hy]);have ac:Y.log.length+Y.D.log.length≤999000:=by omega
 clear h ok hlog hW1 hy hf hk2;generalize c.trade=t at *;obtain ⟨g,a,f,s,i,u⟩:=t;by_cases e1:y=0
 rotate_left
 ·have d1:(y != 0)=true:=by simpa using e1
  have X:Hid (Y.trade ⟨g,a,f,s,i,u⟩=(0,y,Y)):=aa (by rw [z.o,if_pos e1]);clear e1 z;go_enter Tryz.func72,Tryz.ntmps72;go_wp2_with fail;rw [show w.alloc (.cells #[.int .i64 c.kd,.int .i64 c.id,.int .i64 c.mb,.int .i64 c.ot,.int .i64 c.sc,.int .i64 c.qt,.int .i64 c.pr] 38)=W1 from ah.o];go_wp2_with (go_at_call 103;refine (av.o _).mono ?_;rintro e F ⟨rfl,S⟩;have C2:=aa (c1.trans (S.mono c1.size));have Y2:=aa (az.o.keep S);clear S)
  have N:Bw F (F.alloc (.cells (cTr ⟨g,a,f,s,i,u⟩) 58)):=Bn;have O:=aa (Blk.new F 58 (cTr ⟨g,a,f,s,i,u⟩));have M:=aa (Y2.o.keep N);have C3:=aa (C2.o.trans (N.mono C2.o.size));have L:=And.intro M.o.s8 (s6t O.o);have L3:=N.size;clear N;rw [show F.alloc (.cells #[.int .i64 g,.int .i64 a,.int .i64 f,.int .i64 s,.int .i64 i,.int .i64 u] 58)=F.alloc (.cells (cTr ⟨g,a,f,s,i,u⟩) 58) from rfl];generalize F.alloc (.cells (cTr ⟨g,a,f,s,i,u⟩) 58)=W3 at *;go_region_held3 (fun W=>S8 A.gy A.vm A.vs A.vc Y.C W∧S6 F.heap.size ⟨g,a,f,s,i,u⟩ W) (first | exact L | assumption | go_keep)
   (first | (go_at_call 104;refine (T.o _ A.vm A.vs A.vc (M.o.cfg.sl.d)).mono ?_;rintro e w4 ⟨rfl,I⟩;have C4:=aa (aB C3.o I C3.o.size);have ak:=And.intro (M.o.keepD I).s8 (s6t (O.o.keepD I));have Y4:=aa (M.o.keepD I);have T4:=aa (O.o.keepD I)))
  all_goals
   go_wp2_with fail;go_ret2;exact ⟨0,y,A,Y,rfl,YSp.same K.o C4.o,H.o,ac,X.o.symm⟩
 subst e1;rw [if_neg (by simp)] at z;have V:=aa ac;obtain ⟨l,hl⟩:∃l,Y.D.who=l:=⟨_,rfl⟩;have aR:l.length≤1000:=by rw [←hl];exact H.o.dok.who
 have au:Hid (Y.isOut ⟨g,a,f,s,i,u⟩=l.any fun m=>m==a||m==f):=aa (by rw [←hl];rfl);have aA:=aa (fun W A D (h:DkA W B A D) (o:DOk D)=>uD h o);have aC:=aa hl;clear hl ac;go_enter Tryz.func72,Tryz.ntmps72;go_wp2_with fail;rw [show w.alloc (.cells #[.int .i64 c.kd,.int .i64 c.id,.int .i64 c.mb,.int .i64 c.ot,.int .i64 c.sc,.int .i64 c.qt,.int .i64 c.pr] 38)=W1 from ah.o];go_wp2_with (go_at_call 103;refine (av.o _).mono ?_;rintro e F ⟨rfl,S⟩;have C2:=aa (c1.trans (S.mono c1.size));have Y2:=aa (az.o.keep S);clear S)
 have N:Bw F (F.alloc (.cells (cTr ⟨g,a,f,s,i,u⟩) 58)):=Bn;have O:=aa (Blk.new F 58 (cTr ⟨g,a,f,s,i,u⟩));have M:=aa (Y2.o.keep N);have C3:=aa (C2.o.trans (N.mono C2.o.size));have L:=And.intro M.o.s8 (s6t O.o);have L3:=N.size;clear N;rw [show F.alloc (.cells #[.int .i64 g,.int .i64 a,.int .i64 f,.int .i64 s,.int .i64 i,.int .i64 u] 58)=F.alloc (.cells (cTr ⟨g,a,f,s,i,u⟩) 58) from rfl];generalize F.alloc (.cells (cTr ⟨g,a,f,s,i,u⟩) 58)=W3 at *;go_region_held3 (fun W=>S8 A.gy A.vm A.vs A.vc Y.C W∧S6 F.heap.size ⟨g,a,f,s,i,u⟩ W) (first | exact L | assumption | go_keep)
  (first | (go_at_call 104;refine (T.o _ A.vm A.vs A.vc (M.o.cfg.sl.d)).mono ?_;rintro e w4 ⟨rfl,I⟩;have C4:=aa (aB C3.o I C3.o.size);have ak:=And.intro (M.o.keepD I).s8 (s6t (O.o.keepD I));have Y4:=aa (M.o.keepD I);have T4:=aa (O.o.keepD I)))
 all_goals
  obtain ⟨s0,s1⟩:=ak;clear L;have p8:w4.cell? ⟨A.gy,8,none⟩=some (ptr A.D.gd):=Y4.o.blk.c 8;go_wp2_with (go_at_call 55;refine (aA.o _ _ _ Y4.o.desk H.o.dok).mono ?_;rw [aC.o];rintro e w5 ⟨v5,rfl,o5,c5⟩;have C5:=aa (C4.o.trans (c5.mono C4.o.size));have Q:=aa (Y4.o.keep c5);have T5:=aa (T4.o.keep c5);obtain ⟨n5,k5,rfl⟩:=ag o5;have aM:=aa (Sl.own kI o5);clear o5 c5)
  clear s0 s1;have aq:=s6t T5.o;have ai:=aa aq;clear aq;go_wp2_with fail;go_loopw [32] (fun vi wr=>∃(k:Nat),k≤l.length∧vi=.int .i64 k∧wr=w5∧∀j (hj:j<l.length),j<k→(l[j]==a||l[j]==f)=false) (fun vi _=>l.length - (intOf vi).toNat)
  case atStart=>exact ⟨0,Af _,rfl,rfl,fun j hj h=>absurd h (Nat.not_lt_zero _)⟩
  case round=>
   obtain ⟨k,hk,rfl,rfl,aj⟩:=hrel;have am:=aa aj;clear aj;by_cases hlt:k<l.length
   ·obtain ⟨a',al,an,_,aV,aE,ap⟩:=aM.o;obtain ⟨e1,e2⟩:n5=a'∧k5=al:=by simpa using an
    subst e1 e2;obtain ⟨b,aU,rfl,aQ,ax⟩:=ap (by omega);have r0:=atI1 (ax k hlt);rw [A0] at r0;have aS:(0:Int)≤(k:Int):=by omega
    have aP:(k:Int)<(l.length:Int):=by omega
    obtain ⟨v0,v1,v2,v3,v4,v5⟩:=ai.o;unfold maxLen at aE;have aD:Hid (∀P:Int→Bool,P l[k]=true→l.any P=true):=aa (fun P hP=>At.2 ⟨_,Ag hlt,hP⟩);have aF:Hid ((l[k]==a||l[k]==f)=false→∀j (hj:j<l.length),j<k+1→(l[j]==a||l[j]==f)=false):=aa (fun h j hj hlt=>by
     by_cases e:j=k
     ·subst e;exact h
     ·exact am.o j hj (by omega))
    clear ax ap an;generalize l[k]=m at *;by_cases hP:(m==a||m==f)=true
    ·have X:Hid (Y.trade ⟨g,a,f,s,i,u⟩=(0,14,Y)):=aa (by rw [z.o,if_pos];rw [au.o];exact aD.o _ hP);have Z:(m==a)=true∨((m==a)=false∧(m==f)=true):=by
      cases h1:(m==a) with
      | true=>exact Or.inl rfl
      | false=>rw [h1,Bool.false_or] at hP;exact Or.inr ⟨rfl,hP⟩
     clear hP;rcases Z with ae | ⟨ae,Z⟩
     all_goals
      go_wp2_with fail;refine bodyPost_ret (v:=.tuple #[.int .i64 0,.int .i64 14]) (by simp [results,Tryz.results72,go_sem]) rfl ?_;exact ⟨0,14,rfl,A,Y,YSp.same K.o C5.o,H.o,V.o,X.o.symm⟩
    ·have U:(m==a||m==f)=false:=by simpa using hP
     have HP:=aa U;obtain ⟨ae,Z⟩:(m==a)=false∧(m==f)=false:=by simpa [Bool.or_eq_false_iff] using U
     clear hP U;go_wp2_with fail;go_roundw
     case rel=>exact ⟨k+1,by omega,by go_num,trivial,aF.o HP.o⟩
     case measure=>exact ar (by omega)
   ·obtain rfl:k=l.length:=by omega
    have aT:¬ ((l.length:Int)<(l.length:Int)):=by omega
    have aN:Hid (Y.isOut ⟨g,a,f,s,i,u⟩=false):=aa (by
     rw [au.o,Bj];intro x hx;obtain ⟨j,hj,rfl⟩:=Ao hx;simpa using am.o j hj hj)
    rw [aN.o,if_neg (by simp)] at z;have aw:=aa (⟨HF.o.q,HF.o.p⟩:TrFit ⟨g,a,f,s,i,u⟩);have ad:=aa (fun W (h:RegAt W B A.G Y.G) (hB:B≤W.heap.size)=>uF h H.o.gok hB ⟨g,a,f,s,i,u⟩ aw.o);have af:=aa (xH H.o.gok aw.o);have ay:=aa (show (Y.G.add ⟨g,a,f,s,i,u⟩).2.C=Y.C from (add_C _ _).trans H.o.gc);generalize Y.G.add ⟨g,a,f,s,i,u⟩=r at *;obtain ⟨r1,J⟩:=r;dsimp only at z ad af ay;have R:Hid (YOk { Y with G:=J }):=aa ⟨H.o.dc,ay.o,H.o.dok,af.o,H.o.told,H.o.whl,H.o.cyc,H.o.clk2,H.o.cn,H.o.d64⟩;have q9:wr.cell? ⟨A.gy,9,none⟩=some (ptr A.G.gr):=Q.o.blk.c 9;have ab:=And.intro q9 ai.o;by_cases e3:r1=0
    rotate_left
    ·have d3:(r1 != 0)=true:=by simpa using e3
     have X:Hid (Y.trade ⟨g,a,f,s,i,u⟩=(0,r1,{ Y with G:=J })):=aa (by rw [z.o,if_pos e3]);clear e3 z;go_wp2_with fail;go_region_held3 (fun W=>W.cell? ⟨A.gy,9,none⟩=some (ptr A.G.gr)∧S6 F.heap.size ⟨g,a,f,s,i,u⟩ W) (first | exact ab | assumption | go_keep)
      (first | (go_at_call 105;refine (ad.o wr.drew (Q.o.reg.d (wd:=wr.drew)) Q.o.lt).mono ?_;rintro e w7 ⟨G7,rfl,E⟩;have Y7:=aa ((YSp.same K.o C5.o).trans ((Q.o.d.regS E).before (zZ _ _).drew));have q7:w7.cell? ⟨A.gy,9,none⟩=some (ptr A.G.gr):=(by rw [←E.gr];exact Y7.o.at'.blk.c 9);have T7:=aa (T5.o.d.modT E.mod (by decide));have ao:=And.intro q7 (s6t T7.o);have aH:=aa E.gr))
     all_goals
      go_wp2_with fail;refine bodyPost_ret (v:=.tuple #[.int .i64 0,.int .i64 r1]) (by simp [results,Tryz.results72,go_sem]) rfl ?_;exact ⟨0,r1,_,_,rfl,Y7.o,R.o,V.o,X.o.symm⟩
    subst e3;have X:Hid (Y.trade ⟨g,a,f,s,i,u⟩=(J.acd,0,({ Y with G:=J }:YS).tell ⟨2,0,0,g,0⟩)):=aa (by rw [z.o,if_neg (by simp)]);have aI:=aa (fun W A1 (h:DyA W B A1 { Y with G:=J })=>qk h R.o V.o ⟨2,0,0,g,0⟩);have aJ:Hid (YOk (({ Y with G:=J }:YS).tell ⟨2,0,0,g,0⟩)):=aa (R.o.tell _);have aK:Hid ((({ Y with G:=J }:YS).tell ⟨2,0,0,g,0⟩).log.length+(({ Y with G:=J }:YS).tell ⟨2,0,0,g,0⟩).D.log.length≤999000):=aa (by
     have:=aL.o
     simp only [YS.tell,YS.hear,z8,Al,Ay,AL];omega)
    clear z;go_wp2_with fail;go_region_held3 (fun W=>W.cell? ⟨A.gy,9,none⟩=some (ptr A.G.gr)∧S6 F.heap.size ⟨g,a,f,s,i,u⟩ W) (first | exact ab | assumption | go_keep)
     (first | (go_at_call 105;refine (ad.o wr.drew (Q.o.reg.d (wd:=wr.drew)) Q.o.lt).mono ?_;rintro e w7 ⟨G7,rfl,E⟩;have Y7:=aa ((YSp.same K.o C5.o).trans ((Q.o.d.regS E).before (zZ _ _).drew));have q7:w7.cell? ⟨A.gy,9,none⟩=some (ptr A.G.gr):=(by rw [←E.gr];exact Y7.o.at'.blk.c 9);have T7:=aa (T5.o.d.modT E.mod (by decide));have ao:=And.intro q7 (s6t T7.o);have aH:=aa E.gr))
    all_goals
     obtain ⟨u0,u1,u2,u3,u4,u5,u6⟩:=ao;clear ab q9 q7;go_wp2_with (first | (go_at_call 106;refine (aI.o _ _ Y7.o.at').mono ?_;rintro e w8 ⟨A8,rfl,st8⟩;have Y8:=aa (Y7.o.trans st8);have q8:w8.cell? ⟨A.gy,9,none⟩=some (ptr A8.G.gr):=(by rw [←Y8.o.gy];exact Y8.o.at'.blk.c 9)) | (go_at_call 107;refine (uE Y8.o.at'.reg).mono ?_;rintro e w9 ⟨rfl,rfl⟩))
     refine bodyPost_ret (v:=.tuple #[.int .i64 J.acd,.int .i64 0]) (by simp [results,Tryz.results72,go_sem];rfl) rfl ?_;exact ⟨_,0,_,_,rfl,Y8.o,aJ.o,aK.o,X.o.symm⟩
theorem oJ {l:List Ob}(h:∀x∈l,In64 x.done)(m a amt:Int):∀x∈(payM l m a amt).2,In64 x.done:=by
 unfold payM;repeat' split
 all_goals try exact h
 intro x b;rcases List.mem_or_eq_of_mem_set b with h1 | h1
 ·exact h x h1
 ·rw [h1];exact oq _
theorem je {Y:YS}(ok:YOk Y){m a amt:Int}{fr to:Ac}{kind x y:Int}{D':DS}(h:PayRel Y.D m a amt fr to kind x y D'):YOk { Y with D:=D' }∧D'.log.length≤Y.D.log.length+1∧D'.C=Y.C:=by
 unfold PayRel at h;split at h
 ·obtain ⟨_,_,rfl⟩:=h;exact ⟨ok,by omega,ok.dc⟩
 split at h
 ·obtain ⟨_,_,rfl⟩:=h;exact ⟨⟨ok.dc,ok.gc,jJ ok.dok m a amt,ok.gok,ok.told,ok.whl,ok.cyc,ok.clk2,ok.cn,oJ ok.d64 m a amt⟩,Nat.le_succ _,ok.dc⟩
 ·obtain ⟨_,rfl⟩:=h;refine ⟨⟨ok.dc,ok.gc,(((jJ ok.dok m a amt).move fr to a amt).tell _),ok.gok,?_,ok.whl,ok.cyc,ok.clk2,ok.cn,oJ ok.d64 m a amt⟩,?_,ok.dc⟩
  ·show Y.told≤(Y.D.log++_).length
   have:=ok.told
   rw [z8];omega
  ·show (Y.D.log++[(⟨kind,m,a,amt,0⟩:Ev)]).length≤_
   simp
def YS.dropT (Y:YS)(kind m:Int):YS:={ Y with whl:=Y.whl.filter fun x=>!ofMember kind m x }
theorem YOk.dropT {Y:YS}(ok:YOk Y)(kind m:Int):YOk (Y.dropT kind m):=
 ⟨ok.dc,ok.gc,ok.dok,ok.gok,ok.told,by have:=ok.whl;have:=AV (fun x=>!ofMember kind m x) Y.whl;show ((Y.whl.filter _).length:Int)≤Y.C.room;omega,ok.cyc,ok.clk2,ok.cn,ok.d64⟩
def PayQ (Y:YS)(m a amt:Int)(x y:Int)(Y':YS):Prop:=
 if Y.D.state≠1 then x=0∧y=11∧Y'=Y
 else ∃D',PayRel Y.D m a amt ⟨7,m⟩ ⟨1,0⟩ 5 x y D'∧Y'=if y=0∧({ Y with D:=D' }:YS).lacks m=false then ({ Y with D:=D' }:YS).dropT 2 m else { Y with D:=D' }
theorem nG {Y:YS}(ok:YOk Y){m a amt x y:Int}{D':DS}(h:if Y.D.state≠1 then x=0∧y=11∧D'=Y.D else PayRel Y.D m a amt ⟨7,m⟩ ⟨1,0⟩ 5 x y D'):YOk { Y with D:=D' }∧D'.log.length≤Y.D.log.length+1:=by
 split at h
 ·obtain ⟨_,_,rfl⟩:=h;exact ⟨ok,by omega⟩
 ·exact ⟨(je ok h).1,(je ok h).2.1⟩
theorem xZ {Y:YS}{m a amt x y:Int}{D':DS}{Y':YS}(h:if Y.D.state≠1 then x=0∧y=11∧D'=Y.D else PayRel Y.D m a amt ⟨7,m⟩ ⟨1,0⟩ 5 x y D')(hY:Y'=if y=0∧({ Y with D:=D' }:YS).lacks m=false then ({ Y with D:=D' }:YS).dropT 2 m else { Y with D:=D' }):PayQ Y m a amt x y Y':=by
 unfold PayQ;split at h
 ·rename_i b
  obtain ⟨rfl,rfl,rfl⟩:=h;rw [if_pos b];exact ⟨rfl,rfl,by rw [hY,if_neg (by simp)]⟩
 ·rename_i b
  rw [if_neg b];exact ⟨D',h,hY⟩
theorem qJ {B:Nat}{A:YA}{Y:YS}{w:World}{gw:Nat}(e:A.gw=gw)(h:DyA w B A Y)(ok:YOk Y)(kind m:Int):Calls Tryz.prog 111 #[ptr gw,.int .i64 kind,.int .i64 m] w fun e w'=>∃n A',e=.returned (.int .i64 n)∧YSp B w w' A A' (Y.dropT kind m)∧A'.gw=gw:=by
 subst e;refine (pY h.whl (by have:=ok.wn;omega) [] (by simp) h.lt kind m).mono ?_;rintro e w' ⟨v,rfl,a,_,b⟩;exact ⟨_,_,rfl,h.wheelS (b.mono (by decide)) a,rfl⟩
theorem lB {B:Nat}{Y:YS}(c:Cm)(hf:c.Fit)(ok:YOk Y)(hlog:Y.log.length+2 * Y.D.log.length≤900000):Handles B 74 Y c (PayQ Y c.mb c.sc c.qt):=by
 intro w A h;obtain ⟨W1,hW1⟩:∃W1,w.alloc (.cells (ccells c) 38)=W1:=⟨_,rfl⟩;have V:Bw w W1:=by rw [←hW1];exact Bn
 have v:Hid (Boxed W1 w.heap.size c):=aa (by rw [←hW1];exact Boxed.new w c);have T:=aa h;have g:=aa (h.keep V);have U:=aa ok;have P:=aa hlog;have Q:=aa hW1;have R:Y.D.log.length≤999000:=by omega
 have H:=aa hf.qt;have I:=aa (fun W K A D (h:DkA W B A D) (o:DOk D) (k:KOk W K A) (hB:B≤W.heap.size) (hl:D.log.length≤999000)=>tZ h o k hB c.mb c.sc c.qt H.o hl);obtain ⟨b0,b1,b2,b3,b4,b5,b6⟩:=v.o.cells;have p8:W1.cell? ⟨A.gy,8,none⟩=some (ptr A.D.gd):=g.o.blk.c 8;have t:=And.intro p8 (And.intro b2 (And.intro b4 b5));clear h ok hlog hW1 hf;go_enter Tryz.func74,Tryz.ntmps74;go_wp2_with fail;rw [show w.alloc (.cells #[.int .i64 c.kd,.int .i64 c.id,.int .i64 c.mb,.int .i64 c.ot,.int .i64 c.sc,.int .i64 c.qt,.int .i64 c.pr] 38)=W1 from Q.o];go_region_held3 (fun W=>W.cell? ⟨A.gy,8,none⟩=some (ptr A.D.gd)∧W.cell? ⟨w.heap.size,2,none⟩=some (.int .i64 c.mb)∧W.cell? ⟨w.heap.size,4,none⟩=some (.int .i64 c.sc)∧W.cell? ⟨w.heap.size,5,none⟩=some (.int .i64 c.qt)) (first | exact t | assumption | go_keep)
  (first | (go_at_call 109;refine (I.o W1.drew _ _ _ (g.o.desk.d) U.o.dok g.o.d.kok g.o.lt R).mono ?_;rintro e Z ⟨x,y,A2,m,rfl,i,hr⟩;have n:=aa ((YSp.same T.o V).trans ((g.o.d.deskS i).before (zZ _ _).drew));have ab:=aa i.gd;have N:=aa hr;have B2:=aa ((Blk.d v.o).modT i.mod (by decide));have S:Z.cell? ⟨A.gy,8,none⟩=some (ptr A.D.gd):=(by rw [←i.gd];exact n.o.at'.blk.c 8);obtain ⟨u0,u1,u2,u3,u4,u5,u6⟩:=Boxed.cells B2.o;have O:=And.intro S (And.intro u2 (And.intro u4 u5))))
 all_goals
  obtain ⟨f,J⟩:=nG U.o N.o;have p:=aa f;have j:Hid (({ Y with D:=m }:YS).log.length+({ Y with D:=m }:YS).D.log.length≤999000):=aa (by have:=P.o;show Y.log.length+m.log.length≤999000;omega);have a:=aa (fun Y'=>xZ (Y':=Y') N.o);have l:=aa (fun W A (h:DyA W B A { Y with D:=m })=>gP h f c.mb);have u:=aa (f.dropT 2 c.mb);have r:=aa (fun W A gw (e:A.gw=gw) (h:DyA W B A { Y with D:=m })=>qJ e h f 2 c.mb);have z:Hid ((({ Y with D:=m }:YS).dropT 2 c.mb).log.length+(({ Y with D:=m }:YS).dropT 2 c.mb).D.log.length≤999000):=aa j.o;obtain ⟨Y3,hY3⟩:∃Y3:YS,{ Y with D:=m }=Y3:=⟨_,rfl⟩;rw [hY3] at p j a l r u z n;clear f J t O N hY3;obtain ⟨b,hb⟩:∃b,Y3.lacks c.mb=b:=⟨_,rfl⟩;rw [hb] at l a;clear hb;by_cases e1:y=0
  ·have d1:(y==0)=true:=by simpa using e1
   subst e1;cases b with
   | true=>
    have s:=aa (a.o _ (by rw [if_neg (by simp)]));go_wp2_with (go_at_call 110;refine (l.o _ _ n.o.at').mono ?_;rintro e C ⟨rfl,F⟩;have L:=aa (n.o.keep F))
    go_ret2;exact ⟨x,0,_,_,rfl,L.o,p.o,j.o,s.o⟩
   | false=>
    have s:=aa (a.o _ (by rw [if_pos ⟨rfl,rfl⟩]));go_wp2_with (go_at_call 110;refine (l.o _ _ n.o.at').mono ?_;rintro e C ⟨rfl,F⟩;have E:=aa (n.o.keep F);have X:=aa ((show Blk Z w.heap.size 38 (ccells c) from B2.o).keep F);have G:=And.intro (show C.cell? ⟨A.gy,10,none⟩=some (ptr A.gw) from qH E.o.at' E.o.gy rfl) (Boxed.cells X.o).2.2.1)
    go_region_held3 (fun W=>W.cell? ⟨A.gy,10,none⟩=some (ptr A.gw)∧W.cell? ⟨w.heap.size,2,none⟩=some (.int .i64 c.mb)) (first | exact G | assumption | go_keep)
     (first | (go_at_call 111;refine (r.o C.drew { A with D:=A2 } A.gw rfl (E.o.at'.d (wd:=C.drew))).mono ?_;rintro e w5 ⟨n5,A5,rfl,q,g5⟩;have M:=aa (E.o.trans (q.before (zZ _ _).drew));have B5:=aa (X.o.d.modT (K:=[]) q.mod (by decide));have ac:=And.intro (show w5.cell? ⟨A.gy,10,none⟩=some (ptr A.gw) from qH M.o.at' M.o.gy g5) (Boxed.cells B5.o).2.2.1))
    all_goals
     go_wp2_with fail;go_ret2;exact ⟨x,0,_,_,rfl,M.o,u.o,z.o,s.o⟩
  ·have d1:(y==0)=false:=by simpa using e1
   have s:=aa (a.o _ (by rw [if_neg (by simp [e1])]));clear e1;go_wp2_with fail;go_ret2;exact ⟨x,y,_,_,rfl,n.o,p.o,j.o,s.o⟩
def DelQ (Y:YS)(c:Cm)(x y:Int)(Y':YS):Prop:=
 if okM Y.C c.mb then (if c.sc=0 then x=0∧y=10∧Y'=Y else PayQ Y c.mb c.sc c.qt x y Y') else x=0∧y=9∧Y'=Y
theorem uG {B:Nat}{Y:YS}(c:Cm)(hf:c.Fit)(ok:YOk Y)(hlog:Y.log.length+2 * Y.D.log.length≤900000):Handles B 75 Y c (DelQ Y c):=by
 intro w A h;obtain ⟨W1,hW1⟩:∃W1,w.alloc (.cells (ccells c) 38)=W1:=⟨_,rfl⟩;have N:Bw w W1:=by rw [←hW1];exact Bn
 have b:Hid (Boxed W1 w.heap.size c):=aa (by rw [←hW1];exact Boxed.new w c);have q:=aa h;have a:=aa (h.keep N);have T:=aa ok;have O:=aa hW1;have r:Hid (Y.log.length+Y.D.log.length≤999000):=aa (by omega);have P:=aa (fun W A (h:DyA W B A Y)=>lB c hf ok hlog W A h);obtain ⟨b0,b1,b2,b3,b4,b5,b6⟩:=b.o.cells;have s:=And.intro a.o.s8 b2;have l:=aa (fun W vm vs vc (hc:CSl W vm vs vc Y.C)=>aG vm vs vc Y.C W hc c.mb);obtain ⟨z,hz⟩:∃z,(if okM Y.C c.mb then (0:Int) else 9)=z:=⟨_,rfl⟩;rw [hz] at l;have G:=aa hz;clear h ok hlog hW1 hf hz;go_enter Tryz.func75,Tryz.ntmps75;go_wp2_with fail;rw [show w.alloc (.cells #[.int .i64 c.kd,.int .i64 c.id,.int .i64 c.mb,.int .i64 c.ot,.int .i64 c.sc,.int .i64 c.qt,.int .i64 c.pr] 38)=W1 from O.o];have n1:A.gy≠W1.heap.size:=by have:=a.o.blk.lt;omega
 have n2:w.heap.size≠W1.heap.size:=by have:=b.o.lt;omega
 have k:=And.intro (a.o.alloc (.cells #[.int .i64 0,.int .i64 0] 125)).s8 (Boxed.cells (Blk.alloc b.o (.cells #[.int .i64 0,.int .i64 0] 125))).2.2.1;go_region_held3 (fun W=>S8 A.gy A.vm A.vs A.vc Y.C W∧W.cell? ⟨w.heap.size,2,none⟩=some (.int .i64 c.mb)) (first | exact s | exact k | assumption | exact k | exact hA | exact m | go_keep)
  (first | (go_at_call 112;refine (l.o W1.drew A.vm A.vs A.vc (a.o.cfg.sl.d)).mono ?_;rintro e Q ⟨x,rfl,F⟩;have i:=aB (zZ W1.heap.size W1) F (zY _);have f:=aa (i.alloc i.size (.cells #[.int .i64 x.coll,.int .i64 x.fund] 125));have t:=And.intro (a.o.keep i).s8 (Boxed.cells (b.o.keep i)).2.2.1;have H:=fun (u v:Nat)=>And.intro (a.o.keep f.o).s8 (Boxed.cells (b.o.keep f.o)).2.2.1;have m:=H 0 0;have S:=(i.alloc i.size (.cells #[.int .i64 0,.int .i64 0] 125));have hA:=And.intro (a.o.keep S).s8 (Boxed.cells (b.o.keep S)).2.2.1) | (go_at_call 112;refine (l.o (W1.alloc (.cells #[.int .i64 0,.int .i64 0] 125)).drew A.vm A.vs A.vc ((a.o.alloc (.cells #[.int .i64 0,.int .i64 0] 125)).cfg.sl.d)).mono ?_;rintro e Q ⟨x,rfl,F⟩;have R:=(zZ W1.heap.size W1).alloc (zY _) (.cells #[.int .i64 0,.int .i64 0] 125);have i:=aB R F R.size;have E:=(Blk.d (Blk.new W1 125 #[.int .i64 0,.int .i64 0])).keep F;have z0:=E.c 0;have z1:=E.c 1;have f0:=E.free 0;have f1:=E.free 1;have f:=aa ((i.setCell (p:=⟨W1.heap.size,0,none⟩) (zY _) (.int .i64 x.coll)).setCell (p:=⟨W1.heap.size,1,none⟩) (zY _) (.int .i64 x.fund));have t:=And.intro (a.o.keep i).s8 (Boxed.cells (b.o.keep i)).2.2.1;have H:=fun (u v:Nat)=>And.intro (a.o.keep f.o).s8 (Boxed.cells (b.o.keep f.o)).2.2.1;have m:=H 0 0))
 all_goals
  clear k H m t s;have M:=aa (N.trans (f.o.mono N.size));have Y9:=aa (a.o.keep f.o);have U:=aa (b.o.keep f.o);clear f;first
   | generalize Q.alloc (.cells #[.int .i64 x.coll,.int .i64 x.fund] 125)=X at *
   | generalize ((Q.setCell ⟨W1.heap.size,0,none⟩ (.int .i64 x.coll)).setCell ⟨W1.heap.size,1,none⟩ (.int .i64 x.fund))=X at *
  by_cases e1:okM Y.C c.mb
  ·obtain rfl:z=0:=by rw [←G.o,if_pos e1]
   have j:Hid (∀x y Y',DelQ Y c x y Y'↔if c.sc=0 then x=0∧y=10∧Y'=Y else PayQ Y c.mb c.sc c.qt x y Y'):=aa (fun x y Y'=>by unfold DelQ;rw [if_pos e1]);clear e1 G;by_cases e2:c.sc=0
   ·have V:(c.sc==0)=true:=by simpa using e2
    have g:=aa ((j.o 0 10 Y).2 (by rw [if_pos e2];exact ⟨rfl,rfl,rfl⟩));clear e2 j;obtain ⟨u0,u1,Z,u3,u4,u5,u6⟩:=U.o.cells;go_wp2_with fail;go_ret2;exact ⟨0,10,A,Y,rfl,YSp.same q.o M.o,T.o,r.o,g.o⟩
   ·have V:(c.sc==0)=false:=by simpa using e2
    have g:=aa (fun x y Y' h=>(j.o x y Y').2 (by rw [if_neg e2];exact h));clear e2 j;obtain ⟨u0,u1,Z,u3,u4,u5,u6⟩:=U.o.cells;go_wp2_with (go_at_call 74;refine (P.o _ A Y9.o).mono ?_;rintro e w7 ⟨n,er,A7,Y7,rfl,st7,ok7,hl7,hq7⟩;have I:=aa ((YSp.same q.o M.o).trans st7);have J:=aa ok7;have K:=aa hl7;have L:=aa (g.o _ _ _ hq7))
    go_ret2;exact ⟨n,er,A7,Y7,rfl,I.o,J.o,K.o,L.o⟩
  ·obtain rfl:z=9:=by rw [←G.o,if_neg e1]
   have g:Hid (DelQ Y c 0 9 Y):=aa (by unfold DelQ;rw [if_neg e1];exact ⟨rfl,rfl,rfl⟩);clear e1 G;go_wp2_with fail;go_ret2;exact ⟨0,9,A,Y,rfl,YSp.same q.o M.o,T.o,r.o,g.o⟩
end
end Go.Proofs.YtmhohaanddglbaaGreatDoor
