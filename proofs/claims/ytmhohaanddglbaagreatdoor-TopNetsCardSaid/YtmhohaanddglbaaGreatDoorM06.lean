/- Texts of the proof of TopNets, joined: NetP, Nets, Desk, Desk2, Desk3, Desk4, Desk5, Desk6, Desk7, Shelf3, Cat, Wheel, Part. -/
import Derived.Test.YtmhohaanddglbaaGreatDoorM01
import Derived.Test.YtmhohaanddglbaaGreatDoorM04
import Derived.Test.YtmhohaanddglbaaGreatDoorM05
import Derived.Shelf.Spec.SlicesGrow
import Derived.Shelf.SlIterI.Nil
import Derived.Shelf.SortM.Plain
import Derived.Shelf.SortM.SortNone
import Derived.Ground.GgzProg
import Derived.Ground.SlgmProg
import Derived.Test.YtmhohaanddglbaaGreatDoorProg
set_option linter.all false
set_option maxRecDepth 100000
set_option maxHeartbeats 16000000
namespace Go.Proofs.YtmhohaanddglbaaGreatDoor
open Go.RowKit
def sdOf (x:Lg):Sd:=⟨x.mem,x.ass⟩
def gpN (l:List Lg):List (Sd×List Int):=l.foldl (fun G x=>addG (sdOf x) x.amt G) []
theorem jG (l:List Lg)(x:Lg):gpN (l++[x])=addG (sdOf x) x.amt (gpN l):=by simp [gpN]
theorem bI (l:List Lg):(gpN l).length≤l.length∧∀p∈gpN l,p.2.length≤l.length:=by
 have h:=dS sdOf Lg.amt l [] 0 (zY _) (fun q hq=>absurd hq (by simp));simpa [gpN] using h
theorem go {κ:Type} [DecidableEq κ](k:κ)(x:Int):∀(G:List (κ×List Int)),(addG k x G).map (·.1)=if k∈G.map (·.1) then G.map (·.1) else G.map (·.1)++[k]:=by
 intro G;induction G with
 | nil=>simp [addG]
 | cons p G ih=>
  by_cases hk:k=p.1
  ·simp [addG,hk]
  ·simp only [addG,hk,if_false,Am,ih,Aq,false_or];split <;> simp
theorem kD {κ:Type} [DecidableEq κ](k:κ)(x:Int)(G:List (κ×List Int))(h:(G.map (·.1)).Nodup):((addG k x G).map (·.1)).Nodup:=by
 rw [go];split
 ·exact h
 ·rename_i c
  rw [List.nodup_append];refine ⟨h,by simp,fun a ha b hb=>?_⟩;have:b=k:=by simpa using hb
  subst this;rintro rfl;exact c ha
theorem fb {κ α:Type} [DecidableEq κ](f:α→κ)(g:α→Int)(l:List α):∀(G:List (κ×List Int)),(G.map (·.1)).Nodup→((l.foldl (fun G x=>addG (f x) (g x) G) G).map (·.1)).Nodup:=by
 induction l with
 | nil=>intro G h;exact h
 | cons x l ih=>intro G h;exact ih _ (kD _ _ _ h)
theorem cc (l:List Lg):((gpN l).map (·.1)).Nodup:=fb sdOf Lg.amt l [] (by simp)
theorem tj {κ:Type} [DecidableEq κ](P:Int→Prop)(k:κ)(x:Int)(hx:P x)(G:List (κ×List Int))(h:∀p∈G,∀n∈p.2,P n):∀p∈addG k x G,∀n∈p.2,P n:=by
 induction G with
 | nil=>
  intro p a n b;simp [addG] at a
  subst a;have:n=x:=by simpa using b
  subst this;exact hx
 | cons q G ih=>
  intro p a n b;by_cases hk:k=q.1
  ·simp only [addG,hk,if_true,Aq] at a;rcases a with rfl | a
   ·rcases AJ.1 b with h1 | h1
    ·exact h q (As ..) n h1
    ·have:n=x:=by simpa using h1
     subst this;exact hx
   ·exact h p (AG _ a) n b
  ·simp only [addG,hk,if_false,Aq] at a;rcases a with rfl | a
   ·exact h _ (As ..) n b
   ·exact ih (fun p a=>h p (AG _ a)) p a n b
theorem kE {κ α:Type} [DecidableEq κ](P:Int→Prop)(f:α→κ)(g:α→Int)(l:List α):∀(G:List (κ×List Int)),(∀x∈l,P (g x))→(∀p∈G,∀n∈p.2,P n)→∀p∈l.foldl (fun G x=>addG (f x) (g x) G) G,∀n∈p.2,P n:=by
 induction l with
 | nil=>intro G _ h;exact h
 | cons x l ih=>intro G a h;exact ih _ (fun y hy=>a y (AG _ hy)) (tj P _ _ (a x (As ..)) _ h)
theorem mU {l:List Lg}(h:∀x∈l,In64 x.amt):∀p∈gpN l,All64 p.2:=kE In64 sdOf Lg.amt l [] h (fun p hp=>absurd hp (by simp))
def firstBad (C:Cfg):List Lg→Int
 | []=>0
 | x :: r=>if legM C x.mem x.ass≠0 then legM C x.mem x.ass else firstBad C r
theorem kF (C:Cfg):∀(l:List Lg)(k:Nat)(hk:k<l.length),(∀j (hj:j<k)(h2:j<l.length),legM C l[j].mem l[j].ass=0)→legM C l[k].mem l[k].ass≠0→firstBad C l=legM C l[k].mem l[k].ass:=by
 intro l;induction l with
 | nil=>intro k hk;exact absurd hk (by simp)
 | cons x l ih=>
  intro k hk h a;cases k with
  | zero=>simp only [firstBad,Aw] at a ⊢;rw [if_pos a]
  | succ k=>
   have b:=h 0 (by omega) (by simp);simp only [Aw] at b;simp only [firstBad,b,A9] at a ⊢;rw [if_neg (by simp)];exact ih k (by simpa using hk) (fun j hj h2=>h (j+1) (by omega) (by simpa using h2)) a
theorem ig (C:Cfg):∀(l:List Lg),(∀j (h2:j<l.length),legM C l[j].mem l[j].ass=0)→firstBad C l=0:=by
 intro l;induction l with
 | nil=>intro _;rfl
 | cons x l ih=>
  intro h;have a:=h 0 (by simp);simp only [Aw] at a;simp only [firstBad,a];rw [if_neg (by simp)];exact ih fun j h2=>h (j+1) (by simpa using h2)
def netF (p:Sd×List Int):Option Lg:=if (sumM p.2).1≠0 then some ⟨p.1.mem,p.1.ass,(sumM p.2).1⟩ else none
def zG:Sd×List Int:=(⟨0,0⟩,[])
def NetsIs (C:Cfg)(l o:List Lg)(r:Int):Prop:=
 if 1024<l.length then r=6∧o=[]
 else if firstBad C l≠0 then r=firstBad C l∧o=[]
 else if (gpN l).any (fun p=>decide ((sumM p.2).2≠0)) then r=2∧o=[]
 else r=0∧∃Q:List Nat,Q.Perm (List.range (gpN l).length)∧o=(Q.map fun i=>(gpN l).getD i zG).filterMap netF
def NetsPost (C:Cfg)(l:List Lg)(w:World)(e:Ending)(w':World):Prop:=∃v r o,e=.returned (.tuple #[v,.int .i64 r])∧w'.ownsRow w.heap.size 120 3 v o.length (flat eLg o)∧Bw w w'∧NetsIs C l o r
theorem bJ (w:World)(B T k:Nat)(enc:Lg→List Value):w.ownsRow B T k (.slice none 0 0) ([]:List Lg).length (flat enc []):=⟨by simp [flat],Or.inl ⟨rfl,rfl⟩⟩
theorem xt (l:List Int):(sumM l).2=0∨(sumM l).2=2:=by
 unfold sumM fitM;split
 ·exact Or.inl rfl
 ·exact Or.inr rfl
theorem pP {G:List (Sd×List Int)}(h:(G.map (·.1)).Nodup){i j:Nat}(hi:i<G.length)(hj:j<G.length)(he:G[i].1=G[j].1):i=j:=by
 have a:i<(G.map (·.1)).length:=by simpa using hi
 have b:j<(G.map (·.1)).length:=by simpa using hj
 exact (List.getElem_inj (h₀:=a) (h₁:=b) h).1 (by simpa using he)
section
attribute [local go_sem ↓] Go.wp_at_zero Go.wp_at_succ
def netK (G:List (Sd×List Int))(Q:List Nat)(k:Nat):List Lg:=((Q.take k).map fun i=>G.getD i zG).filterMap netF
theorem eN {B M:Nat}{w W:World}(h:Below B w W)(hM:B≤M)(o:Obj):Below B w (pOb W M o):=⟨h.os,h.tape,h.output,by have:=h.size;simpa [pOb] using this,fun k hk=>(bj W M k o (by omega)).trans (h.block k hk)⟩
theorem tt (vm vs vc v:Value)(C:Cfg)(l:List Lg)(w:World)(hc:CSl w vm vs vc C)(hv:Sl eLg 3 w v l)(hn:l.length≤100000)(h64:∀x∈l,In64 x.amt):Calls Tryz.prog 247 #[cfgV vm vs vc C,v] w (NetsPost C l w):=by
 have b0:Bw w (w.alloc (.cells (cfgC vm vs vc C) 26)):=Bn;have HC:=aa (hc.keep b0);have HB:=aa (Blk.new w 26 (cfgC vm vs vc C));have HS:=aa (hv.keep b0);have a5:=aa (mU (l:=l) h64);obtain ⟨n1,k1,rfl,_⟩:=hv;clear hc h64;by_cases hbig:1024<l.length
 ·have hb:=dT (show (1024:Int)<(l.length:Int) by omega);have HR:Hid (NetsIs C l [] 6):=aa (by unfold NetsIs;rw [if_pos hbig];exact ⟨rfl,rfl⟩);clear hbig;go_enter Tryz.func247,Tryz.ntmps247;go_wp2_with fail;go_ret2;exact ⟨_,_,_,rfl,bJ _ _ _ _ _,b0,HR.o⟩
 ·have hb:=dF (show ¬ (1024:Int)<(l.length:Int) by omega);have ab:=aa hbig;have bP:l.length≤1024:=by omega
  have bU:∀w:World,(Instr.makeMap 379 none).run Tryz.prog w=.ok (.map (some w.heap.size)) (w.alloc (.map #[] 0)):=fun w=>rfl
  obtain ⟨f,av⟩:∃f,w.alloc (.cells (cfgC vm vs vc C) 26)=f:=⟨_,rfl⟩;have bb:Grp (f.alloc (.map #[] 0)) f.heap.size f.heap.size vSd [] []:=Grp.new f vSd;have bH:=aa bb;have a3:f.heap.size=w.heap.size+1:=by rw [←av];simp
  have b1:Bw f (f.alloc (.map #[] 0)):=Bn;obtain ⟨j0,Z,a8,bm,aV⟩:=info_parts cT;rw [av] at HC HB HS b0;have bg:=aa av;have bl:=aa a3;clear hbig bb av a3;go_enter Tryz.func247,Tryz.ntmps247;go_wp2_with fail;rw [show w.alloc (.cells #[vm,vs,vc,.int .i64 C.line,.int .i64 C.capital,.int .i64 C.lead,.int .i64 C.trades,.int .i64 C.bids] 26)=f from bg.o];rw [←bl.o];clear bg bl;go_loopw [22] (fun vi wr=>∃(k:Nat) (D:List Value),k≤l.length∧vi=.int .i64 k∧Grp wr f.heap.size f.heap.size vSd (gpN (l.take k)) D∧Bw f wr∧∀j (h:j<k) (h2:j<l.length),legM C l[j].mem l[j].ass=0) (fun vi _=>l.length - (intOf vi).toNat)
  case atStart=>exact ⟨0,[],Af _,rfl,bH.o,b1,fun j Z=>absurd Z (by omega)⟩
  case round=>
   obtain ⟨k,D,hk,rfl,hG,A,aY⟩:=hrel;have HG:=aa hG;have au:=aa aY;clear hG aY;by_cases hlt:k<l.length
   ·obtain ⟨a',af,Y,_,bN,aQ,ai⟩:=HS.o;obtain ⟨e1,e2⟩:n1=a'∧k1=af:=by simpa using Y
    subst e1 e2;obtain ⟨b,W,rfl,U,ao⟩:=ai (by omega);obtain ⟨q0,q1,q2⟩:=ch (ao k hlt);have r0:=(A.c (p:=⟨b,W+k * 3,none⟩) U).trans q0;have r1:=(A.c (p:=⟨b,W+k * 3+1,none⟩) U).trans q1;have r2:=(A.c (p:=⟨b,W+k * 3+2,none⟩) U).trans q2;have bw:(0:Int)≤(k:Int):=by omega
    have br:(k:Int)<(l.length:Int):=by omega
    unfold maxLen at aQ;have E:Hid (gpN (l.take (k+1))=addG (sdOf l[k]) l[k].amt (gpN (l.take k))):=aa (by rw [z9 hlt,jG]);have bz:=aa (kF C l k hlt (fun j Z h2=>au.o j Z h2));have bF:Hid (∀y,legM C l[k].mem l[k].ass=0→y=k→∀h2:y<l.length,legM C l[y].mem l[y].ass=0):=aa (fun y h e h2=>by subst e;exact h);clear ao q0 q1 q2 ai Y;generalize l[k]=x at *;have cA:Bw wr (wr.alloc (.cells (cLg x) 120)):=Bn;have an:=aa (Blk.new wr 120 (cLg x));have a0:=aa (HG.o.keep cA);have bA:=A.trans (cA.mono A.size);have aG:=aa (mT vm vs vc C (wr.alloc (.cells (cLg x) 120)) (HC.o.keep bA) x);obtain ⟨p0,p1,p2,p3,p4,p5,p6,p7⟩:=s8 (HB.o.keep bA);have x0:=an.o.c 0;have x1:=an.o.c 1;have x2:=an.o.c 2;obtain ⟨y,hy⟩:∃y,legM C x.mem x.ass=y:=⟨_,rfl⟩;have HY:=aa hy;clear hy;by_cases R:y=0
    rotate_left
    ·have aU:(y != 0)=true:=by simpa using R
     have HR:Hid (NetsIs C l [] y):=aa (by
      have hf:=bz.o (by rw [HY.o];exact R);rw [HY.o] at hf;unfold NetsIs;rw [if_neg ab.o,hf,if_pos R];exact ⟨rfl,rfl⟩)
     clear R;go_wp2_with (go_at_call 299;refine aG.o.mono ?_;rintro e w3 ⟨rfl,c3⟩;rw [HY.o];have b3:=bA.trans (c3.mono bA.size))
     go_ret2;exact ⟨_,_,_,rfl,bJ _ _ _ _ _,b0.trans (b3.mono b0.size),HR.o⟩
    ·subst R;have aB:Hid (∀j (h:j<k+1) (h2:j<l.length),legM C l[j].mem l[j].ass=0):=aa (fun j h h2=>by
      rcases Az j k with h3 | h3
      ·exact au.o j h3 h2
      ·exact bF.o j HY.o (by omega) h2)
     go_wp2_with (go_at_call 299;refine aG.o.mono ?_;rintro e w3 ⟨rfl,c3⟩;rw [HY.o];have b3:=bA.trans (c3.mono bA.size);have bk:=aa (a0.o.keep c3);have aj:=aa (an.o.keep c3);have x0:=aj.o.c 0;have x1:=aj.o.c 1;have x2:=aj.o.c 2;have y2:=(aj.o.alloc (.cells #[.int .i64 x.mem,.int .i64 x.ass] 382)).c 2)
     have b5:Bw f ((w3.alloc (.cells #[.int .i64 x.mem,.int .i64 x.ass] 382)).alloc (.cells #[.int .i64 x.amt] 2)):=(b3.alloc b3.size _).alloc (by have:=b3.size;simp;omega) _;have s:=aa ((bk.o.alloc (.cells #[.int .i64 x.mem,.int .i64 x.ass] 382)).alloc (.cells #[.int .i64 x.amt] 2));have V:=aa (show Blk ((w3.alloc (.cells #[.int .i64 x.mem,.int .i64 x.ass] 382)).alloc (.cells #[.int .i64 x.amt] 2)) (w3.heap.size+1) 2 #[.int .i64 x.amt] from by have:=Blk.new (w3.alloc (.cells #[.int .i64 x.mem,.int .i64 x.ass] 382)) 2 #[.int .i64 x.amt];simpa using this);obtain ⟨G,hG⟩:∃G,gpN (l.take k)=G:=⟨_,rfl⟩;have aZ:G.length≤1024∧∀p∈G,p.2.length≤1024:=by
      have h:=bI (l.take k);rw [hG,Aa] at h;exact ⟨by omega,fun p hp=>by have:=h.2 p hp;omega⟩
     have aH:=aa aZ;rw [hG] at s E;clear hG HG a0 bk aG x0 x1 x2 y2 aj an r0 r1 r2 p0 p1 p2 p3 p4 p5 p6 p7 aZ bA cA;generalize (w3.alloc (.cells #[.int .i64 x.mem,.int .i64 x.ass] 382)).alloc (.cells #[.int .i64 x.amt] 2)=W5 at b5 s V ⊢;have aN:=b5.size;have J:=aa s.o.blen;have H:=aa (eu J.o);rcases ep (sdOf x) G D 0 s.o.blen with ⟨hL,hadd⟩ | ⟨n,hn1,hn2,hL,hkey,hadd⟩
     ·have K:=ek rP Tryz.underlying379 (.slice none 0 0) Tryz.zeroValue45 W5 f.heap.size _ (sdOf x) s.o.mid.map hL;rw [H.o] at K;change (Instr.mapEntry 379 (.map (some f.heap.size)) (.agg #[.int .i64 x.mem,.int .i64 x.ass])).run Tryz.prog W5=.ok (.tuple #[.slice none 0 0,.int .i64 (G.length:Nat)]) _ at K
      have ad:=aa (hadd x.amt);have T:=aa (s.o.mid.put (List.zipWith (fun (g:Sd×List Int) (v:Value)=>(g.1,v)) G D++[(sdOf x,Value.slice none 0 0)])).push;have aK:Hid (Blk (pOb W5 f.heap.size (mkMap vSd (List.zipWith (fun (g:Sd×List Int) (v:Value)=>(g.1,v)) G D++[(sdOf x,Value.slice none 0 0)]))) (w3.heap.size+1) 2 #[.int .i64 x.amt]):=aa ((bj _ _ _ _ (bq s.o.mid.map V.o)).trans V.o);have b6:=eN b5 (zY _) (mkMap vSd (List.zipWith (fun (g:Sd×List Int) (v:Value)=>(g.1,v)) G D++[(sdOf x,Value.slice none 0 0)]));have aE:=b6.size;have bn:=aH.o.1;rw [K];dsimp only [Result.andThen];rw [Oper.upon_value];clear K s V b5 aN;generalize pOb W5 f.heap.size (mkMap vSd (List.zipWith (fun (g:Sd×List Int) (v:Value)=>(g.1,v)) G D++[(sdOf x,Value.slice none 0 0)]))=W6 at T aK b6 aE ⊢;go_wp2_with (at_builtin;refine wpList_append_own_at _ rfl _ _ 45 rfl f.heap.size 2 j0 (.int .i64 0) 1 8 Tryz.underlying45 Z a8 bm aV rfl (by decide) (.slice none 0 0) 0 [] rfl ⟨rfl,Or.inl ⟨rfl,rfl⟩⟩ ⟨w3.heap.size+1,0,none⟩ 1 1 [.int .i64 x.amt] rfl rfl (fun j u hu=>by rw [Aj,Av,aK.o.c j];simpa using hu) (by intro u hu;simp at hu;subst hu;rfl) (by unfold maxLen;omega) (by omega) (by exact aE) ?_;intro v7 W7 a hgrow _ hat)
      have z:=aa (T.o.grow D.length (by simp) (by rw [←T.o.rows.len];simp) (v':=v7) (zs':=[x.amt]) (by simpa using hgrow) (by simpa [flat,eI] using a) (by simpa using hat));have M:=b6.grown hgrow b6.size (fun q hq=>by simp [Value.ownBlock] at hq);have aP:=ag a;obtain ⟨n7,k7,rfl⟩:=aP;clear a hgrow hat T aK aE;go_wp2_with fail;have P:=bu W7 f.heap.size _ G.length (sdOf x) (.slice none 0 0) (.slice n7 1 k7) z.o.map (by rw [←H.o];simp) 379;change (Instr.entryStore 379 (.map (some f.heap.size)) (.int .i64 (G.length:Nat)) (.slice n7 1 k7)).run Tryz.prog W7=_ at P
      rw [P];dsimp only [Result.andThen];rw [Oper.upon_skip];have ae:=aa (Grp.new_key (x:=x.amt) J.o ad.o z.o);have b8:=eN M (zY _) (mkMap vSd ((List.zipWith (fun (g:Sd×List Int) (v:Value)=>(g.1,v)) G D++[(sdOf x,Value.slice none 0 0)]).set G.length (sdOf x,Value.slice n7 1 k7)));clear P z M;generalize pOb W7 f.heap.size (mkMap vSd ((List.zipWith (fun (g:Sd×List Int) (v:Value)=>(g.1,v)) G D++[(sdOf x,Value.slice none 0 0)]).set G.length (sdOf x,Value.slice n7 1 k7)))=W8 at ae b8 ⊢;go_wp2_with fail;go_roundw
      case rel=>exact ⟨k+1,_,by omega,by go_num,by rw [E.o];exact ae.o,b8,aB.o⟩
      case measure=>simp [intOf];omega
     ·have bp:=cj hL;obtain ⟨m,hm,aR⟩:=bp;obtain rfl:n=m:=by omega
      rw [Av] at hL;obtain ⟨zb,ap⟩:∃zb,G[n].2=zb:=⟨_,rfl⟩;obtain ⟨vb,hvb⟩:∃vb,D[n]=vb:=⟨_,rfl⟩;have d:=s.o.mid.rows.own n hn2 (by simpa using hn1);have bR:zb.length≤1024:=by rw [←ap];exact aH.o.2 _ (Ag hn1)
      rw [AW] at d;have ac:=hadd x.amt;have bh:=aa hvb;have bx:=aa ap;rw [hvb,ap] at d;rw [hvb] at hL aR;have hf:=ag d;obtain ⟨nb,kb,rfl⟩:=hf;have az:=aa d;have K:=ei rP Tryz.underlying379 W5 f.heap.size _ (sdOf x) n _ s.o.mid.map hL;change (Instr.mapEntry 379 (.map (some f.heap.size)) (.agg #[.int .i64 x.mem,.int .i64 x.ass])).run Tryz.prog W5=.ok (.tuple #[.slice nb zb.length kb,.int .i64 (n:Nat)]) W5 at K
      have ad:=aa ac;have bK:=aa aR;have a6:=aa hn1;have a2:=aa hn2;have bn:=aH.o.1;have bV:n<1024:=by omega
      have bf:=aa hkey;rw [K];dsimp only [Result.andThen];rw [Oper.upon_value];clear K hadd ac ap hvb d aR hL;go_wp2_with (at_builtin;refine wpList_append_own_at _ rfl _ _ 45 rfl f.heap.size 2 j0 (.int .i64 0) 1 8 Tryz.underlying45 Z a8 bm aV rfl (by decide) (.slice nb zb.length kb) zb.length (flat eI zb) rfl az.o ⟨w3.heap.size+1,0,none⟩ 1 1 [.int .i64 x.amt] rfl rfl (fun j u hu=>by rw [Aj,Av,V.o.c j];simpa using hu) (by intro u hu;simp at hu;subst hu;rfl) (by unfold maxLen;omega) (by omega) (by exact aN) ?_;intro v7 W7 a hgrow _ hat)
      have z:=aa (s.o.mid.grow n a2.o (by simpa using a6.o) (v':=v7) (zs':=zb++[x.amt]) (by rw [bh.o];exact hgrow) (by rw [z8,aI];exact a) (by rw [bh.o];exact hat));have M:=b5.grown hgrow b5.size (fun q hq=>(az.o.lt q hq).1);have aP:=ag a;obtain ⟨n7,k7,rfl⟩:=aP;clear a hgrow hat s V aN b5;go_wp2_with fail;have P:=bu W7 f.heap.size _ n (sdOf x) _ (.slice n7 (zb.length+1) k7) z.o.map bK.o 379;change (Instr.entryStore 379 (.map (some f.heap.size)) (.int .i64 (n:Nat)) (.slice n7 (zb.length+1) k7)).run Tryz.prog W7=_ at P
      rw [P];dsimp only [Result.andThen];rw [Oper.upon_skip];have ae:=aa (Grp.old_key (x:=x.amt) J.o a6.o a2.o bf.o ad.o (by rw [bx.o];exact z.o));have b8:=eN M (zY _) (mkMap vSd ((List.zipWith (fun (g:Sd×List Int) (v:Value)=>(g.1,v)) G D).set n (sdOf x,Value.slice n7 (zb.length+1) k7)));clear P z M;generalize pOb W7 f.heap.size (mkMap vSd ((List.zipWith (fun (g:Sd×List Int) (v:Value)=>(g.1,v)) G D).set n (sdOf x,Value.slice n7 (zb.length+1) k7)))=W8 at ae b8 ⊢;go_wp2_with fail;go_roundw
      case rel=>exact ⟨k+1,_,by omega,by go_num,by rw [E.o];exact ae.o,b8,aB.o⟩
      case measure=>simp [intOf];omega
   ·obtain rfl:k=l.length:=by omega
    have bY:¬ ((l.length:Int)<(l.length:Int)):=by omega
    rw [Ap] at HG;have be:Hid (firstBad C l=0):=aa (ig C l fun j h2=>au.o j h2 h2);have aM:=bI l;have aX:=aa (cc l);obtain ⟨G,hG⟩:∃G,gpN l=G:=⟨_,rfl⟩;have a7:=aa hG;rw [hG] at HG aX a5 aM;have J:=aa HG.o.blen;have bS:G.length≤1024:=by omega
    have bE:=aa aM.2;have H:=aa (eu J.o);have a1:=mR f.heap.size _ wr HG.o.mid.map (by rw [H.o];omega);have a4:=aa a1;have bs:Hid (∀i (h:i<G.length),keyAt (List.zipWith (fun (g:Sd×List Int) (v:Value)=>(g.1,v)) G D) i=G[i].1):=aa (fun i h=>by
     unfold keyAt;rw [List.getElem?_zipWith,Ab h,Ab (by rw [J.o];exact h)];rfl)
    clear a1 aM hG au;go_wp2_with (go_at_call 300;refine a4.o.mono ?_;rintro e w5 ⟨v5,Q,rfl,hQ,O,c5⟩;have HQ:=aa hQ;have aS:Q.length=G.length:=(by have:=hQ.length_eq;rw [H.o] at this;simpa using this);have bQ:=aa aS;have bC:=aa (Sl.own kSd (l:=Q.map (keyAt (List.zipWith (fun (g:Sd×List Int) (v:Value)=>(g.1,v)) G D))) (by rw [Ad];exact O));obtain ⟨n5,k5,rfl⟩:=ag O;clear O hQ)
    have s:=aa (HG.o.keep c5);have aT:=A.trans (c5.mono A.size);have al:=aT.size;have bO:Hid (∀i∈Q,i<G.length):=aa fun i hi=>by have:=HQ.o.mem_iff.1 hi;rw [H.o] at this;simpa using this
    obtain ⟨i0,hi,R,bo,bB⟩:=info_parts bt;obtain ⟨N,hN⟩:∃N,G.length=N:=⟨_,rfl⟩;have HN:=aa (aS.trans hN);have bT:N≤1024:=by omega
    rw [hN];clear hN aS a4 HG;go_loopw [11,50] (fun vo vi wr2=>∃k:Nat,k≤N∧vi=.int .i64 k∧wr2.ownsRow w5.heap.size 120 3 vo (netK G Q k).length (flat eLg (netK G Q k))∧Bw w5 wr2∧∀j (h:j<k) (h2:j<Q.length),(sumM (G.getD Q[j] zG).2).2=0) (fun _ vi _=>N - (intOf vi).toNat)
    case atStart=>exact ⟨0,Af _,rfl,⟨by simp [flat,netK],Or.inl ⟨rfl,by simp [netK]⟩⟩,zZ _ _,fun j Z=>absurd Z (by omega)⟩
    case round=>
     obtain ⟨k,hk,rfl,a,X,ay⟩:=hrel;have HO:=aa a;have ax:=aa ay;obtain ⟨no,ko,rfl⟩:=ag a;clear a ay;by_cases hlt:k<N
     ·have aO:k<Q.length:=by rw [HN.o];exact hlt
      have F:Q[k]<G.length:=bO.o _ (Ag aO);obtain ⟨a',af,Y,_,bN,aQ,ai⟩:=bC.o;rw [Ad,HN.o] at Y;obtain ⟨e1,e2⟩:n5=a'∧k5=af:=by simpa using Y
      subst e1 e2;have bG:k<(Q.map (keyAt (List.zipWith (fun (g:Sd×List Int) (v:Value)=>(g.1,v)) G D))).length:=by rw [Ad];exact aO
      obtain ⟨b,W,rfl,U,ao⟩:=ai (by omega);obtain ⟨q0,q1⟩:=atSd (ao k bG);rw [AW,bs.o _ F] at q0 q1;have r0:=(X.c (p:=⟨b,W+k * 2,none⟩) U).trans q0;have r1:=(X.c (p:=⟨b,W+k * 2+1,none⟩) U).trans q1;have bw:(0:Int)≤(k:Int):=by omega
      have br:(k:Int)<(N:Int):=by omega
      unfold maxLen at aQ;have aD:G.getD Q[k] zG=G[Q[k]]:=by rw [Ah,Ab F];rfl
      have E:Hid (netK G Q (k+1)=netK G Q k++(netF G[Q[k]]).toList):=aa (by
       unfold netK;rw [z9 aO,AI,List.filterMap_append];simp only [Am,List.map_nil];rw [aD];cases hf:netF G[Q[k]] with
       | none=>simp [hf]
       | some y=>simp [hf])
      have bW:(netK G Q k).length≤k:=by
       unfold netK;refine z5 (Ak _ _) ?_;rw [Ad,Aa];omega
      have aC:=aa ((s.o.keep X).alloc (.cells (cSd G[Q[k]].1) 382));have aJ:=bi rP Tryz.underlying379 (.slice none 0 0) Tryz.zeroValue45 _ f.heap.size _ G[Q[k]].1 aC.o.mid.map;have bM:Q[k]<D.length:=by rw [J.o];exact F
      have am:look G[Q[k]].1 (List.zipWith (fun (g:Sd×List Int) (v:Value)=>(g.1,v)) G D) 0=some (Q[k],D[Q[k]]):=by
       rcases ep G[Q[k]].1 G D 0 J.o with ⟨h1,_⟩ | ⟨n,hn1,hn2,h1,h2,_⟩
       ·exfalso;have h3:=oT h1 (G[Q[k]].1,D[Q[k]]) (by
         rw [List.mem_iff_getElem];exact ⟨Q[k],by rw [H.o];exact F,by rw [List.getElem_zipWith]⟩)
        exact h3 rfl
       ·obtain rfl:=pP aX.o hn1 F h2;rw [h1,Av]
      rw [am] at aJ;have d:=aC.o.mid.rows.own Q[k] bM (by simpa using F);rw [AW] at d;have ak:All64 G[Q[k]].2:=a5.o _ (Ag F);have aA:G[Q[k]].2.length≤1000000:=by have:=bE.o _ (Ag F);omega
      have I:Hid ((sumM G[Q[k]].2).2≠0→NetsIs C l [] 2):=aa (fun h=>by
       unfold NetsIs;rw [if_neg ab.o,be.o,if_neg (by simp),a7.o,if_pos]
       ·exact ⟨rfl,rfl⟩
       ·rw [At];exact ⟨_,Ag F,by simpa using h⟩)
      have B:Hid ((sumM G[Q[k]].2).2=0→∀j (h:j<k+1) (h2:j<Q.length),(sumM (G.getD Q[j] zG).2).2=0):=aa (fun h j Z h2=>by
       rcases Az j k with h3 | h3
       ·exact ax.o j h3 h2
       ·obtain rfl:j=k:=by omega
        rw [aD];exact h)
      clear ao q0 q1 ai Y aD am;generalize netK G Q k=L at *;generalize D[Q[k]]=vb at *;generalize G[Q[k]]=p at *;obtain ⟨⟨pm,pa⟩,zs⟩:=p;dsimp only at aJ d ak aA I B E aC r0 r1;have hf:=ag d;obtain ⟨nb,kb,rfl⟩:=hf;change (Instr.lookup 379 (.map (some f.heap.size)) (.agg #[.int .i64 pm,.int .i64 pa]) false).run Tryz.prog (wr.alloc (.cells #[.int .i64 pm,.int .i64 pa] 382))=.ok (.slice nb zs.length kb) _ at aJ
      have aF:=aa (aW _ zs _ (Sl.own kI d) ak aA);obtain ⟨⟨t,er⟩,ht⟩:∃r,sumM zs=r:=⟨_,rfl⟩;have HT:=aa ht;rw [ht] at I B;dsimp only at I B;have HX:=aa (Blk.new wr 382 (cSd ⟨pm,pa⟩));have b6:=X.alloc X.size (.cells (cSd ⟨pm,pa⟩) 382);have bc:=aa (HO.o.alloc (.cells (cSd ⟨pm,pa⟩) 382));have S:=xt zs;rw [ht] at S;dsimp only at S;clear d ak ht;by_cases he0:er=0
      rotate_left
      ·obtain rfl:er=2:=by omega
       have HR:=aa (I.o (by decide));clear he0 S;go_wp2_with (go_at_call 230;refine aF.o.mono ?_;rintro e w7 ⟨rfl,c7⟩;rw [HT.o];have M:=b6.trans (c7.mono b6.size))
       go_ret2;have b9:=aT.trans (M.mono al);exact ⟨_,_,_,rfl,bJ _ _ _ _ _,b0.trans (b9.mono b0.size),HR.o⟩
      ·subst he0;have ba:=aa (B.o rfl);clear S I B;by_cases ht0:t=0
       ·have aU:(t != 0)=false:=by simpa using ht0
        have aL:Hid (netK G Q (k+1)=L):=aa (by rw [E.o,show netF (⟨pm,pa⟩,zs)=none from (by unfold netF;rw [HT.o,if_neg (by simpa using ht0)])];simp);clear ht0 E;go_wp2_with (go_at_call 230;refine aF.o.mono ?_;rintro e w7 ⟨rfl,c7⟩;rw [HT.o];have M:=b6.trans (c7.mono b6.size);have ar:=aa (ah bc.o c7))
        go_roundw
        case rel=>exact ⟨k+1,by omega,by go_num,by rw [aL.o];exact ar.o,M,ba.o⟩
        case measure=>simp [intOf];omega
       ·have aU:(t != 0)=true:=by simpa using ht0
        have aL:Hid (L++[⟨pm,pa,t⟩]=netK G Q (k+1)):=aa (by rw [E.o,show netF (⟨pm,pa⟩,zs)=some ⟨pm,pa,t⟩ from (by unfold netF;rw [HT.o,if_pos (by simpa using ht0)])];rfl);clear ht0 E;go_wp2_with (first | (go_at_call 230;refine aF.o.mono ?_;rintro e w7 ⟨rfl,c7⟩;rw [HT.o];have M:=b6.trans (c7.mono b6.size);have ar:=aa (ah bc.o c7);have bd:=aa (HX.o.keep c7);have z0:=bd.o.c 0;have z1:=bd.o.c 1) | (at_builtin;refine aq kLg (by decide) bL _ rfl _ _ 66 rfl w5.heap.size 120 i0 (.agg #[.int .i64 0,.int .i64 0,.int .i64 0]) 24 Tryz.underlying66 hi R bo bB (by rfl) (.slice no L.length ko) L rfl (ar.o.alloc _) (some ⟨w7.heap.size,0,none⟩) 1 [⟨pm,pa,t⟩] rfl (Sl.one1b eLg kLg _ 120 _ (by rfl) _ rfl) (by show L.length+1≤maxLen;unfold maxLen;omega) (by show (L.length+1) * 24≤_;omega) (M.alloc M.size (.cells #[.int .i64 pm,.int .i64 pa,.int .i64 t] 120)).size ?_;intro v' w8 a hgrow hat;have b8:=(M.alloc M.size (.cells #[.int .i64 pm,.int .i64 pa,.int .i64 t] 120)).grown hgrow (M.alloc M.size _).size (fun q hq=>(ar.o.lt q hq).1);rw [aL.o] at a;obtain ⟨n8,k8,rfl⟩:=ag a;clear hgrow hat))
        go_roundw
        case rel=>exact ⟨k+1,by omega,by go_num,a,b8,ba.o⟩
        case measure=>simp [intOf];omega
     ·obtain rfl:k=N:=by omega
      have bX:¬ ((k:Int)<(k:Int)):=by omega
      have bD:Hid (netK G Q k=(Q.map fun i=>G.getD i zG).filterMap netF):=aa (by unfold netK;rw [Ae (by rw [HN.o];exact zY _)]);have HR:Hid (NetsIs C l (netK G Q k) 0):=aa (by
       unfold NetsIs;rw [if_neg ab.o,be.o,if_neg (by simp),a7.o,if_neg]
       ·exact ⟨rfl,Q,by have:=HQ.o;rw [H.o] at this;exact this,bD.o⟩
       ·rw [At];rintro ⟨p,hp,he⟩;obtain ⟨i,hi,rfl⟩:=Ao hp;have a9:i∈Q:=HQ.o.mem_iff.2 (by rw [H.o];simpa using hi);obtain ⟨j,Z,hje⟩:=Ao a9;have h3:=ax.o j (by rw [←HN.o];exact Z) Z;rw [hje,Ah,Ab hi] at h3;simp at he;exact he h3)
      go_wp2_with fail;go_ret2;have b9:=aT.trans (X.mono al);exact ⟨_,_,_,rfl,aw HO.o (z5 b0.size al),b0.trans (b9.mono b0.size),HR.o⟩
structure DA where
 gd:Nat
 gv:Nat
 gb:Nat
 gh:Nat
 gs:Nat
 gx:Nat
 vm:Value
 vs:Value
 vc:Value
 vb:Value
 vh:Value
 vo:Value
 um:Value
 us:Value
 uc:Value
 vx:Value
 vw:Value
 vl:Value
 pst:Int
structure DS where
 C:Cfg
 bal:List Int
 hlds:List RH
 obs:List Ob
 bids:List Bd
 who:List Int
 cycles:Int
 state:Int
 endowed:Bool
 log:List Ev
abbrev DA.cells (A:DA)(D:DS):Array Value:=deskC A.vm A.vs A.vc D.C A.gv A.gs A.gx A.vw D.cycles D.state D.endowed A.vl
structure DkA (w:World)(B:Nat)(A:DA)(D:DS):Prop where
 blk:Blk w A.gd 138 (A.cells D)
 cfg:COw w B A.vm A.vs A.vc D.C
 vault:VtA w B A.gv A.gb A.gh A.vb A.vh D.C.mem.length (D.C.secs.length+1) D.bal A.pst D.C.mem.length D.hlds
 sheet:ShA w B A.gs A.vo D.obs
 box:Blk w A.gx 175 #[A.um,A.us,A.uc,.int .i64 D.C.line,.int .i64 D.C.capital,.int .i64 D.C.lead,.int .i64 D.C.trades,.int .i64 D.C.bids,A.vx]
 bcfg:COw w B A.um A.us A.uc D.C
 bids:w.ownsRow B 211 5 A.vx D.bids.length (flat eBd D.bids)
 who:w.ownsRow B 3 1 A.vw D.who.length (flat eI D.who)
 log:w.ownsRow B 101 5 A.vl D.log.length (flat eEv D.log)
 l1:B≤A.gd
 l2:B≤A.gx
structure DOk (D:DS):Prop where
 cfg:Valid D.C
 bal:D.bal.length=(D.C.secs.length+1) * (6+3 * D.C.mem.length)
 b64:All64 D.bal
 hlds:D.hlds.length≤D.C.mem.length
 rise:Rsg RH.rid D.hlds
 obs:D.obs.length≤1024
 o64:∀x∈D.obs,In64 x.net
 who:D.who.length≤1000
theorem DkA.keep {w w':World}{B:Nat}{A:DA}{D:DS}(h:DkA w B A D)(c:Bw w w'):DkA w' B A D:=
 ⟨h.blk.keep c,h.cfg.keep c,h.vault.keep c,h.sheet.keep c,h.box.keep c,h.bcfg.keep c,ah h.bids c,ah h.who c,ah h.log c,h.l1,h.l2⟩
theorem DkA.alloc {w:World}{B:Nat}{A:DA}{D:DS}(h:DkA w B A D)(o:Obj):DkA (w.alloc o) B A D:=h.keep Bn
theorem COw.d {w wd:World}{B:Nat}{vm vs vc:Value}{C:Cfg}(h:COw w B vm vs vc C)(e:wd.heap=w.heap:=by rfl):COw wd B vm vs vc C:=⟨be h.m e,be h.s e,be h.c e⟩
theorem DkA.d {w wd:World}{B:Nat}{A:DA}{D:DS}(h:DkA w B A D)(e:wd.heap=w.heap:=by rfl):DkA wd B A D:=
 ⟨h.blk.d e,h.cfg.d e,h.vault.d e,h.sheet.d e,h.box.d e,h.bcfg.d e,be h.bids e,be h.who e,be h.log e,h.l1,h.l2⟩
theorem DkA.keepD {w wd w':World}{B:Nat}{A:DA}{D:DS}(h:DkA w B A D)(c:Bw wd w')(e:wd.heap=w.heap:=by rfl):DkA w' B A D:=(h.d e).keep c
theorem bd {w w':World}(c:Below w.drew.heap.size w.drew w'):Bw w w':=⟨c.os,c.tape,c.output,c.size,c.block⟩
theorem DOk.na {D:DS}(h:DOk D):D.C.secs.length+1≤9:=by have:=h.cfg.s2;omega
theorem DOk.hn {D:DS}(h:DOk D):D.hlds.length≤1000:=by have:=h.cfg.m2;have:=h.hlds;omega
def DS.balP (D:DS)(a:Ac)(ass:Int):Int×Int:=balM D.C.mem.length (D.C.secs.length+1) D.bal a ass
def DS.balD (D:DS)(a:Ac)(ass:Int):Int:=(D.balP a ass).1
theorem fG {D:DS}(h:DOk D)(a:Ac)(ass:Int):In64 (D.balD a ass):=sy h.b64 a ass
theorem di {B:Nat}{A:DA}{D:DS}{w:World}(h:DkA w B A D)(ok:DOk D)(a:Ac)(ass:Int):Calls Tryz.prog 137 #[ptr A.gd,aval a,.int .i64 ass] w fun e w'=>e=.returned (.int .i64 (D.balD a ass))∧Bw w w':=
 wB A.gd A.gv _ rfl a ass _ _ w h.blk fun W hW=>fY B A.gv A.gb A.gh A.vb A.vh _ _ ok.cfg.m2 ok.na D.bal ok.bal A.pst _ D.hlds a ass W (h.keep hW).vault
theorem tu {B:Nat}{A:DA}{D:DS}{w:World}(h:DkA w B A D)(ok:DOk D)(a:Ac)(ass:Int):Calls Tryz.prog 59 #[ptr A.gd,aval a,.int .i64 ass] w fun e w'=>e=.returned (.tuple #[.int .i64 (D.balP a ass).1,.int .i64 (D.balP a ass).2])∧Bw w w':=
 ze A.gd A.gv _ rfl a ass _ _ w h.blk fun W hW=>fY B A.gv A.gb A.gh A.vb A.vh _ _ ok.cfg.m2 ok.na D.bal ok.bal A.pst _ D.hlds a ass W (h.keep hW).vault
theorem gp {B:Nat}{A:DA}{D:DS}{w:World}(h:DkA w B A D)(ok:DOk D)(n:Int)(hn:In64 n):Calls Tryz.prog 213 #[ptr A.gd,.int .i64 n] w fun e w'=>e=.returned (.int .i64 (overM n (D.balD ⟨1,0⟩ 0)))∧Bw w w':=by
 have a:Bw w (w.alloc (.cells (acs ⟨1,0⟩) 81)):=Bn;have f:=aa (di (h.keep a) ok ⟨1,0⟩ 0);have d:=aa (fG ok ⟨1,0⟩ 0);have b:=aa hn;clear h hn;go_enter Tryz.func213,Tryz.ntmps213;go_wp2_with (first | (go_at_call 155;refine (aZ _).mono ?_;rintro e g ⟨rfl,rfl⟩) | (go_at_call 137;refine f.o.mono ?_;rintro e w2 ⟨rfl,c2⟩;have c:=a.trans (c2.mono a.size)) | (go_at_call 166;refine (fI n _ b.o d.o _).mono ?_;rintro e w3 ⟨rfl,rfl⟩))
 go_ret;exact ⟨rfl,c⟩
theorem kG (v:Value)(l:List Lg)(w:World)(hv:Sl eLg 3 w v l)(hn:l.length≤100000)(h64:∀x∈l,In64 x.amt):Calls Tryz.prog 214 #[v] w fun e w'=>e=.returned (.int .i64 (asumM l).1)∧Bw w w':=by
 have a:=aa (et v l w hv hn h64);obtain ⟨c,b,rfl,_⟩:=hv;clear hn h64;go_enter Tryz.func214,Tryz.ntmps214;go_wp2_with (go_at_call 245;refine a.o.mono ?_;rintro e w1 ⟨rfl,c1⟩)
 go_ret;exact ⟨rfl,c1⟩
theorem tw (a:Int)(w:World):Calls Tryz.prog 302 #[.int .i64 a] w fun e w'=>e=.returned (.int .i64 (if a=0 then 288230376151711744 else 274877906944))∧w'=w:=by
 by_cases h:a=0
 ·have c:=beq_iff_eq.2 h;have b:=aa h;clear h;go_enter Tryz.func302,Tryz.ntmps302;go_wp2_with fail;go_ret;exact ⟨rfl,rfl⟩
 ·have c:=beq_eq_false_iff_ne.2 h;have b:=aa h;clear h;go_enter Tryz.func302,Tryz.ntmps302;go_wp2_with fail;go_ret;exact ⟨rfl,rfl⟩
theorem ew {B:Nat}{A:DA}{D:DS}{w:World}(h:DkA w B A D)(s:Int)(g:Nat)(hg:Blk w g 3 #[.int .i64 s]):Calls Tryz.prog 152 #[ptr A.gd,.slice (some ⟨g,0,none⟩) 1 1] w fun e w'=>e=.returned (.int .i64 (if s=D.state then 0 else 11))∧w'=w:=by
 have p:=h.blk.c 13;have i:=aa (Tryz.slices_Contains_int g 0 1 1 [s] D.state w (by simp) (by omega) (fun j hj=>by
  have:j=0:=by simpa using hj
  subst this;exact hg.c 0))
 have l:w.cell? ⟨A.gd,13,none⟩=some (.int .i64 D.state):=p;by_cases he:s=D.state
 ·have b:([s].take 1).contains D.state=true:=by simp [he]
  have f:Hid ((if s=D.state then (0:Int) else 11)=0):=aa (if_pos he);have a:=aa b;clear he h b p;rw [f.o];go_enter Tryz.func152,Tryz.ntmps152;go_wp2_with (go_at_call 192;refine i.o.mono ?_;rintro e k ⟨rfl,d⟩;rw [a.o];subst d)
  go_ret;exact ⟨rfl,rfl⟩
 ·have b:([s].take 1).contains D.state=false:=by simp [Ne.symm he]
  have f:Hid ((if s=D.state then (0:Int) else 11)=11):=aa (if_neg he);have a:=aa b;clear he h b p;rw [f.o];go_enter Tryz.func152,Tryz.ntmps152;go_wp2_with (go_at_call 192;refine i.o.mono ?_;rintro e k ⟨rfl,d⟩;rw [a.o];subst d)
  go_ret;exact ⟨rfl,rfl⟩
def DS.good (D:DS)(a:Int):List Lg:=oclaimsM D.obs (goodF D.who a)
theorem dx {B:Nat}{A:DA}{D:DS}{w:World}(h:DkA w B A D)(ok:DOk D)(a:Int):Calls Tryz.prog 203 #[ptr A.gd,.int .i64 a] w (RPo eLg 120 3 (D.good a) w):=by
 have C:=aa h;have l:=aa ok;have y:=h.blk.c 9;have g:=h.blk.c 11;have F:w.cell? ⟨A.gd,9,none⟩=some (ptr A.gs):=y;have E:=ag h.who;obtain ⟨v,x,m⟩:=E;have q:w.cell? ⟨A.gd,11,none⟩=some (.slice v D.who.length x):=g.trans (by rw [←m];rfl);have r:=aa m;have i:=And.intro F q;clear h ok y g m;go_enter Tryz.func203,Tryz.ntmps203;go_wp2_with fail;go_region_held3 (fun W=>W.cell? ⟨A.gd,9,none⟩=some (ptr A.gs)∧W.cell? ⟨A.gd,11,none⟩=some (.slice v D.who.length x)) (first | exact i | exact j | exact f | assumption | go_keep)
  (first
   | (go_at_call 85;refine (cC B A.gs A.vo D.obs _ C.o.sheet.d (by have:=l.o.obs;omega)).mono ?_;rintro e N ⟨M,rfl,u,t⟩;have k:=aa (C.o.keepD t);have H:=aa (Sl.own kOb u);have J:=aa t;obtain ⟨n1,k1,rfl⟩:=ag u;have j:=And.intro (k.o.blk.c 9) ((k.o.blk.c 11).trans (congrArg some r.o));clear u t)
   | (go_at_call 246;refine (sK _ _ D.obs D.who a _ H.o (by have:=k.o.who;rw [r.o] at this;exact Sl.own kI this) (by have:=l.o.obs;omega) l.o.who l.o.o64).mono ?_;rintro e L ⟨K,rfl,s,n⟩;have z:=aa (k.o.keepD n);have G:=aa s;have I:=aa n;obtain ⟨n2,k2,rfl⟩:=ag s;have f:=And.intro (z.o.blk.c 9) ((z.o.blk.c 11).trans (congrArg some r.o));clear s n))
 rename_i b
 clear b i j f;go_wp2_with fail;go_ret;have p:=bd J.o;exact ⟨_,rfl,aw G.o p.size,p.trans (I.o.mono p.size)⟩
theorem tx (x:Ob):In64 (claimM x).amt:=by
 unfold claimM;dsimp only;split
 ·assumption
 ·unfold In64;omega
theorem dV (l:List Ob)(p:Ob→Bool):∀x∈oclaimsM l p,In64 x.amt:=by
 intro x a;unfold oclaimsM at a;obtain ⟨y,hy,he⟩:=AN.1 a;unfold clF at he;cases he
 exact tx y
theorem kH (l:List Ob)(p:Ob→Bool):(oclaimsM l p).length≤l.length:=z5 (Ak _ _) (Ak _ _)
theorem gq {D:DS}(ok:DOk D)(a:Int):(D.good a).length≤1024:=z5 (kH _ _) ok.obs
def DS.short (D:DS)(a:Int):Int:=(ashortM (D.balD ⟨1,0⟩ a) (D.good a)).1
theorem gA {B:Nat}{A:DA}{D:DS}{w:World}(h:DkA w B A D)(ok:DOk D)(a:Int):Calls Tryz.prog 162 #[ptr A.gd,.int .i64 a] w fun e w'=>e=.returned (.int .i64 (D.short a))∧Bw w w':=by
 have b:Bw w (w.alloc (.cells (acs ⟨1,0⟩) 81)):=Bn;have u:=aa (h.keep b);have l:=aa (di (h.keep b) ok ⟨1,0⟩ a);have k:=aa (fG ok ⟨1,0⟩ a);have m:=aa ok;have p:Hid (D.short a=(ashortM (D.balD ⟨1,0⟩ a) (D.good a)).1):=aa rfl;obtain ⟨n,j⟩:∃n,D.balD ⟨1,0⟩ a=n:=⟨_,rfl⟩;rw [j] at l k p;clear h ok j;go_enter Tryz.func162,Tryz.ntmps162;go_wp2_with (first
  | (go_at_call 155;refine (aZ _).mono ?_;rintro e x ⟨rfl,rfl⟩)
  | (go_at_call 137;refine l.o.mono ?_;rintro e C ⟨rfl,f⟩;have g:=b.trans (f.mono b.size);have d:=aa (u.o.keep f))
  | (go_at_call 203;refine (dx d.o m.o a).mono ?_;rintro e z ⟨y,rfl,c,q⟩;have i:=g.trans (q.mono g.size);have s:=aa (Sl.own kLg c);obtain ⟨n3,k3,rfl⟩:=ag c;clear c)
  | (go_at_call 202;refine (gi n k.o _ (D.good a) _ s.o (by have:=gq m.o a;omega) (dV _ _)).mono ?_;rintro e v ⟨rfl,t⟩;have r:=i.trans (t.mono i.size)))
 go_ret;exact ⟨by rw [p.o];rfl,r⟩
def mostM (a:Int):Int:=if a=0 then 288230376151711744 else 274877906944
def badA (nets:List Lg)(a:Int):Bool:=decide ((nsidesM nets a).2.2≠0)||decide (mostM a<(nsidesM nets a).1)||decide (mostM a<(nsidesM nets a).2.1)
def neA (nets:List Lg)(a:Int):Bool:=decide ((nsidesM nets a).1≠(nsidesM nets a).2.1)
def ruleK (nets:List Lg)(k:Nat):Int:=if (List.range k).any (fun a:Nat=>neA nets (a:Int)) then 17 else 0
def wholeM (n:Nat)(nets:List Lg):Int:=if (List.range n).any (fun a:Nat=>badA nets (a:Int)) then 2 else ruleK nets n
theorem pQ (nets:List Lg)(k:Nat):ruleK nets (k+1)=if neA nets (k:Int) then 17 else ruleK nets k:=by
 unfold ruleK;rw [List.range_succ,List.any_append];cases h:neA nets (k:Int) <;> simp [h]
theorem pR {B:Nat}{A:DA}{D:DS}{w:World}(h:DkA w B A D)(ok:DOk D)(v:Value)(nets:List Lg)(hv:Sl eLg 3 w v nets)(hn:nets.length≤100000)(h64:∀x∈nets,In64 x.amt∧x.amt≠-9223372036854775808):Calls Tryz.prog 248 #[ptr A.gd,v] w fun e w'=>e=.returned (.int .i64 (wholeM (D.C.secs.length+1) nets))∧Bw w w':=by
 have HV:=aa hv;have M:=aa h64;obtain ⟨n1,R,rfl,_⟩:=hv;obtain ⟨ns,ks,hvs,_⟩:=h.cfg.sl.s;have q1:w.cell? ⟨A.gd,1,none⟩=some (.slice ns D.C.secs.length ks):=(h.blk.c 1).trans (congrArg some hvs);obtain ⟨S,hS⟩:∃S,D.C.secs.length=S:=⟨_,rfl⟩;have ab:S≤8:=by rw [←hS];exact ok.cfg.s2
 rw [hS] at q1 ⊢;have P:wrap64 ((S:Int)+1)=((S+1:Nat):Int):=by unfold wrap64;omega
 have L:IntKind.i64.wrap ((S:Int)+1)=((S+1:Nat):Int):=by rw [show (S:Int)+1=((S+1:Nat):Int) by omega];exact Ax _ (by omega)
 obtain ⟨N,Q⟩:∃N,S+1=N:=⟨_,rfl⟩;rw [Q] at P L ⊢;have X:N≤9:=by omega
 clear h ok hvs hS Q h64;go_enter Tryz.func248,Tryz.ntmps248;go_wp2_with fail;go_loopw [5,17] (fun vr vi wr=>∃k:Nat,k≤N∧vi=.int .i64 k∧vr=.int .i64 (ruleK nets k)∧Bw w wr∧∀j:Nat,j<k→badA nets (j:Int)=false) (fun _ vi _=>N - (intOf vi).toNat)
 case atStart=>exact ⟨0,Af _,rfl,rfl,zZ _ _,fun j hj=>absurd hj (by omega)⟩
 case round=>
  obtain ⟨k,hk,rfl,rfl,b,G⟩:=hrel;have E:=aa G;clear G;by_cases hlt:k<N
  ·have T:(0:Int)≤(k:Int):=by omega
   have Y:(k:Int)<(N:Int):=by omega
   have d:=aa (mN (.slice n1 nets.length R) nets (k:Int) wr (HV.o.keep b) hn M.o);have f:Hid (∀W:World,Calls Tryz.prog 302 #[.int .i64 (k:Int)] W fun e w'=>e=.returned (.int .i64 (mostM (k:Int)))∧w'=W):=aa fun W=>tw (k:Int) W
   have q:=aa (pQ nets k);obtain ⟨⟨u,y,K⟩,I⟩:∃r,nsidesM nets (k:Int)=r:=⟨_,rfl⟩;have i:Hid (badA nets (k:Int)=(decide (K≠0)||decide (mostM (k:Int)<u)||decide (mostM (k:Int)<y))):=aa (by unfold badA;rw [I]);have F:Hid (neA nets (k:Int)=decide (u≠y)):=aa (by unfold neA;rw [I]);have g:Hid (badA nets (k:Int)=true→wholeM N nets=2):=aa fun t=>by
    unfold wholeM;rw [if_pos];rw [At];exact ⟨k,by simpa using hlt,t⟩
   have p:Hid (badA nets (k:Int)=false→∀j:Nat,j<k+1→badA nets (j:Int)=false):=aa fun t j hj=>by
    rcases Az j k with h | h
    ·exact E.o j h
    ·obtain rfl:j=k:=by omega
     exact t
   obtain ⟨H,z⟩:∃H,mostM (k:Int)=H:=⟨_,rfl⟩;rw [I] at d;rw [z] at i f;obtain ⟨rk,hrk⟩:∃rk,ruleK nets k=rk:=⟨_,rfl⟩;rw [hrk] at q ⊢;clear I z hrk;by_cases t1:K=0
   rotate_left
   ·have d1:(K != 0)=true:=by simpa using t1
    have l:=aa (g.o (by rw [i.o];simp [t1]));clear t1;go_wp2_with (first | (go_at_call 301;refine d.o.mono ?_;rintro e J ⟨rfl,n⟩;have m:=b.trans (n.mono b.size)) | (go_at_call 302;refine (f.o _).mono ?_;rintro e x2 ⟨rfl,rfl⟩))
    go_ret;exact ⟨by rw [l.o];rfl,m⟩
   ·subst t1;by_cases t2:H<u
    ·have U:=dT t2;have l:=aa (g.o (by rw [i.o];simp [t2]));clear t2;go_wp2_with (first | (go_at_call 301;refine d.o.mono ?_;rintro e J ⟨rfl,n⟩;have m:=b.trans (n.mono b.size)) | (go_at_call 302;refine (f.o _).mono ?_;rintro e x2 ⟨rfl,rfl⟩))
     go_ret;exact ⟨by rw [l.o];rfl,m⟩
    ·have U:=dF t2;by_cases t3:H<y
     ·have V:=dT t3;have l:=aa (g.o (by rw [i.o];simp [t3]));clear t2 t3;go_wp2_with (first | (go_at_call 301;refine d.o.mono ?_;rintro e J ⟨rfl,n⟩;have m:=b.trans (n.mono b.size)) | (go_at_call 302;refine (f.o _).mono ?_;rintro e x2 ⟨rfl,rfl⟩))
      go_ret;exact ⟨by rw [l.o];rfl,m⟩
     ·have V:=dF t3;have l:=aa (p.o (by rw [i.o];simp [t2,t3]));by_cases t4:u=y
      ·have d4:(u != y)=false:=by simpa using t4
       have O:Hid (ruleK nets (k+1)=rk):=aa (by rw [q.o,F.o];simp [t4]);clear t2 t3 t4;go_wp2_with (first | (go_at_call 301;refine d.o.mono ?_;rintro e J ⟨rfl,n⟩;have m:=b.trans (n.mono b.size)) | (go_at_call 302;refine (f.o _).mono ?_;rintro e x2 ⟨rfl,rfl⟩))
       go_roundw
       case rel=>exact ⟨k+1,by omega,by go_num,by rw [O.o],m,l.o⟩
       case measure=>simp [intOf];omega
      ·have d4:(u != y)=true:=by simpa using t4
       have O:Hid (ruleK nets (k+1)=17):=aa (by rw [q.o,F.o];simp [t4]);clear t2 t3 t4;go_wp2_with (first | (go_at_call 301;refine d.o.mono ?_;rintro e J ⟨rfl,n⟩;have m:=b.trans (n.mono b.size)) | (go_at_call 302;refine (f.o _).mono ?_;rintro e x2 ⟨rfl,rfl⟩))
       go_roundw
       case rel=>exact ⟨k+1,by omega,by go_num,by rw [O.o],m,l.o⟩
       case measure=>simp [intOf];omega
  ·obtain rfl:k=N:=by omega
   have Z:¬ ((k:Int)<(k:Int)):=by omega
   have l:Hid (wholeM k nets=ruleK nets k):=aa (by
    unfold wholeM;rw [if_neg];rw [At];rintro ⟨a,ha,t⟩;rw [E.o a (by simpa using ha)] at t;cases t)
   go_wp2_with fail;go_ret;exact ⟨by rw [l.o];rfl,b⟩
def DS.unheld (D:DS)(m:Int):Int:=(unheldM D.C.mem.length (D.C.secs.length+1) D.hlds D.bal ⟨8,m⟩ 0).1
theorem kK {B:Nat}{A:DA}{D:DS}{w:World}(h:DkA w B A D)(ok:DOk D)(m:Int):Calls Tryz.prog 250 #[ptr A.gd,.int .i64 m] w fun e w'=>e=.returned (.int .i64 (D.unheld m))∧Bw w w':=by
 have q:=aa h;have b:=aa ok;have n:w.cell? ⟨A.gd,8,none⟩=some (ptr A.gv):=h.blk.c 8;have r:Hid (D.unheld m=(unheldM D.C.mem.length (D.C.secs.length+1) D.hlds D.bal ⟨8,m⟩ 0).1):=aa rfl;clear h ok;go_enter Tryz.func250,Tryz.ntmps250;go_wp2_with fail;go_region_held3 (fun W=>W.cell? ⟨A.gd,8,none⟩=some (ptr A.gv)) (first | exact n | exact k | exact j | assumption | go_keep)
  (first
   | (go_at_call 138;refine (eo m _).mono ?_;rintro e s ⟨rfl,rfl⟩;have g:=aa ((q.o.d (wd:=w.drew)).alloc (.cells (acs ⟨8,m⟩) 81));have k:=g.o.blk.c 8)
   | (go_at_call 307;refine (bF B A.gv A.gb A.gh A.vb A.vh _ _ b.o.cfg.m2 b.o.na D.bal b.o.bal b.o.b64 A.pst _ D.hlds b.o.hn ⟨8,m⟩ 0 _ g.o.vault).mono ?_;rintro e t ⟨rfl,f⟩;have p:=aa (g.o.keep f);have l:=aa f;have j:=p.o.blk.c 8;clear f))
 rename_i a
 clear a k j;go_wp2_with fail;go_ret;have i:Bw w (w.drew.alloc (.cells (acs ⟨8,m⟩) 81)):=((zZ w.heap.size w).drew).alloc (zY _) _;exact ⟨by rw [r.o];rfl,i.trans (l.o.mono i.size)⟩
def priceM (C:Cfg)(a:Int):Int:=if okS C a then ((C.secs[(a - 1).toNat]?).map (·.prc)).getD 0 else 1
theorem pS (vm vs vc:Value)(C:Cfg)(w:World)(hc:CSl w vm vs vc C)(i:Int) :
  Calls Tryz.prog 144 #[cfgV vm vs vc C,.int .i64 i] w fun e w'=>∃x:Sc,e=.returned (.tuple #[vSc x,.int .i64 (if okS C i then 0 else 10)])∧(okS C i→x.prc=priceM C i)∧Bw w w':=by
 by_cases h:okS C i
 ·have a:=h;unfold okS at h;obtain ⟨k,rfl⟩:∃k:Nat,i=(k:Int)+1:=⟨(i - 1).toNat,by omega⟩;refine (oj vm vs vc C w hc k (by omega)).mono fun _ _ ⟨he,hb⟩=>⟨_,by rw [if_pos a];exact he,fun _=>?_,hb⟩
  unfold priceM;rw [if_pos a,show ((k:Int)+1 - 1).toNat=k by omega,Ab (by omega)];rfl
 ·exact (rH vm vs vc C w hc i (by unfold okS at h;omega)).mono fun _ _ ⟨he,hb⟩=>⟨_,by rw [if_neg h];exact he,fun a=>absurd a h,hb⟩
theorem s8d {w:World}{A:DA}{D:DS}(h:Blk w A.gd 138 (A.cells D)):S8 A.gd A.vm A.vs A.vc D.C w:=⟨h.c 0,h.c 1,h.c 2,h.c 3,h.c 4,h.c 5,h.c 6,h.c 7⟩
theorem tz {X x1:World}{o:Obj}(c:Below (X.alloc o).drew.heap.size (X.alloc o).drew x1):Bw X x1:=by
 have b:Bw X (X.alloc o):=Bn;exact b.trans ((bd c).mono b.size)
def riskF (C:Cfg)(m:Int)(n:Int)(x:Ob):Int:=if x.mem=m then wrap64 (n+wrap64 (x.net * priceM C x.ass)) else n
def DS.risk (D:DS)(m:Int):Int:=(D.obs.filterMap debtF).foldl (riskF D.C m) 0
def riskK (C:Cfg)(m:Int)(l:List Ob)(k:Nat):Int:=(l.take k).foldl (riskF C m) 0
theorem pT (C:Cfg)(m:Int)(l:List Ob)(k:Nat)(h:k<l.length):riskK C m l (k+1)=riskF C m (riskK C m l k) l[k]:=by
 unfold riskK;rw [z9 h,List.foldl_append];rfl
theorem pU {D:DS}(ok:DOk D):(D.obs.filterMap debtF).length≤1024:=z5 (Ak _ _) ok.obs
theorem tA {B:Nat}{A:DA}{D:DS}{w:World}(h:DkA w B A D)(ok:DOk D)(m:Int):Calls Tryz.prog 252 #[ptr A.gd,.int .i64 m] w fun e w'=>e=.returned (.int .i64 (D.risk m))∧Bw w w':=by
 have HD:=aa h;have q9:w.cell? ⟨A.gd,9,none⟩=some (ptr A.gs):=h.blk.c 9;have R:=aa (pC B A.gs A.vo D.obs w h.sheet (by have:=ok.obs;omega));have hl:=pU ok;have HR:Hid (D.risk m=riskK D.C m (D.obs.filterMap debtF) (D.obs.filterMap debtF).length):=aa (by unfold riskK;rw [Ap];rfl);obtain ⟨l,hL⟩:∃l,D.obs.filterMap debtF=l:=⟨_,rfl⟩;rw [hL] at R HR hl;clear h ok hL;go_enter Tryz.func252,Tryz.ntmps252;go_wp2_with (go_at_call 311;refine R.o.mono ?_;rintro e w1 ⟨v1,rfl,o1,q⟩;have HS:=aa (Sl.own kOb o1);have ac:=aa (HD.o.keep q);obtain ⟨n1,k1,rfl⟩:=ag o1;clear o1)
 go_loopw [5,17] (fun vn vi wr=>∃k:Nat,k≤l.length∧vi=.int .i64 k∧vn=.int .i64 (riskK D.C m l k)∧Bw w1 wr) (fun _ vi _=>l.length - (intOf vi).toNat)
 case atStart=>exact ⟨0,Af _,rfl,rfl,zZ _ _⟩
 case round=>
  obtain ⟨k,hk,rfl,rfl,a⟩:=hrel;by_cases hlt:k<l.length
  ·obtain ⟨a',L,M,_,ai,Z,N⟩:=HS.o;obtain ⟨e1,e2⟩:n1=a'∧k1=L:=by simpa using M
   subst e1 e2;obtain ⟨b,n,rfl,j,S⟩:=N (by omega);obtain ⟨q0,q1,q2,q3,q4,q5⟩:=g8 (S k hlt);have r0:=(a.c (p:=⟨b,n+k * 6,none⟩) j).trans q0;have r1:=(a.c (p:=⟨b,n+k * 6+1,none⟩) j).trans q1;have r2:=(a.c (p:=⟨b,n+k * 6+2,none⟩) j).trans q2;have r3:=(a.c (p:=⟨b,n+k * 6+3,none⟩) j).trans q3;have r4:=(a.c (p:=⟨b,n+k * 6+4,none⟩) j).trans q4;have r5:=(a.c (p:=⟨b,n+k * 6+5,none⟩) j).trans q5;have ae:(0:Int)≤(k:Int):=by omega
   have ad:(k:Int)<(l.length:Int):=by omega
   unfold maxLen at Z;have s:=aa (pT D.C m l k hlt);clear S q0 q1 q2 q3 q4 q5 N M;obtain ⟨T,F⟩:∃T,riskK D.C m l k=T:=⟨_,rfl⟩;rw [F] at s ⊢;generalize l[k]=x at *;clear F;have cA:Bw wr (wr.alloc (.cells (cOb x) 71)):=Bn;have Y:=a.trans (cA.mono a.size);have V:=aa (Blk.new wr 71 (cOb x));have i:=aa (ac.o.keep Y);by_cases hm:x.mem=m
   rotate_left
   ·have d1:(x.mem != m)=true:=by simpa using hm
    have U:Hid (riskK D.C m l (k+1)=T):=aa (by rw [s.o];unfold riskF;rw [if_neg hm]);clear hm;go_wp2_with fail;go_roundw
    case rel=>exact ⟨k+1,by omega,by go_num,by rw [U.o],Y⟩
    case measure=>simp [intOf];omega
   ·have d1:(x.mem != m)=false:=by simpa using hm
    have U:Hid (riskK D.C m l (k+1)=wrap64 (T+wrap64 (x.net * priceM D.C x.ass))):=aa (by rw [s.o];unfold riskF;rw [if_pos hm]);clear hm s;have x2:=V.o.c 2;have ab:=s8d i.o.blk;obtain ⟨p0,p1,p2,p3,p4,p5,p6,p7⟩:=ab;have O:=And.intro p0 (And.intro p1 (And.intro p2 (And.intro p3 (And.intro p4 (And.intro p5 (And.intro p6 (And.intro p7 x2)))))));clear p0 p1 p2 p3 p4 p5 p6 p7;obtain ⟨y,hy⟩:∃y:Int,(if okS D.C x.ass then (0:Int) else 10)=y:=⟨_,rfl⟩;have HY:=aa hy;go_wp2_with fail;generalize hX:wr.alloc (.cells #[.int .i64 x.cycle,.int .i64 x.mem,.int .i64 x.ass,.int .i64 x.net,.int .i64 x.done,.int .i64 x.stt] 71)=X at *;have t:=aa (show A.gd≠X.heap.size from by have:=i.o.blk.lt;omega);have g:=aa (show wr.heap.size≠X.heap.size from by have:=V.o.lt;omega);have E:Bw w1 X:=Y;have I:w1.heap.size≤X.heap.size:=E.size;clear hX hy cA r0 r1 r2 r3 r4 r5;go_region_held3 (fun W=>W.cell? ⟨A.gd,0,none⟩=some (A.vm)∧W.cell? ⟨A.gd,1,none⟩=some (A.vs)∧W.cell? ⟨A.gd,2,none⟩=some (A.vc)∧W.cell? ⟨A.gd,3,none⟩=some (.int .i64 D.C.line)∧W.cell? ⟨A.gd,4,none⟩=some (.int .i64 D.C.capital)∧W.cell? ⟨A.gd,5,none⟩=some (.int .i64 D.C.lead)∧W.cell? ⟨A.gd,6,none⟩=some (.int .i64 D.C.trades)∧W.cell? ⟨A.gd,7,none⟩=some (.int .i64 D.C.bids)∧W.cell? ⟨wr.heap.size,2,none⟩=some (.int .i64 x.ass)) (first | exact O | exact P | exact H | assumption | go_keep)
     (first
      | (go_at_call 144;refine (pS A.vm A.vs A.vc D.C _ (by first | exact i.o.cfg.sl.d | exact (i.o.alloc _).cfg.sl.d) x.ass).mono ?_;rintro e z ⟨f,rfl,hp,q⟩;rw [HY.o];have HP:=aa hp;have L1:=aa (show Bw X z from by first | exact bd q | exact tz q);have D1:=aa (show DkA z B A D from by first | exact i.o.keepD q | exact (i.o.alloc _).keepD q);have J:=aa (show Blk z wr.heap.size 71 (cOb x) from by first | exact V.o.keepD q | exact (V.o.alloc _).keepD q);(try (have G:=(show Blk z X.heap.size 127 #[.int .i64 0,.int .i64 0] from (Blk.new X 127 #[.int .i64 0,.int .i64 0]).keepD q);have n0:=G.c 0;have n1:=G.c 1;have f0:=G.free 0;have f1:=G.free 1;clear G));have P:=(fun (h:S8 A.gd A.vm A.vs A.vc D.C z)=>And.intro h.1 (And.intro h.2.1 (And.intro h.2.2.1 (And.intro h.2.2.2.1 (And.intro h.2.2.2.2.1 (And.intro h.2.2.2.2.2.1 (And.intro h.2.2.2.2.2.2.1 (And.intro h.2.2.2.2.2.2.2 (J.o.c 2))))))))) (s8d D1.o.blk);have H:=(fun (h:S8 A.gd A.vm A.vs A.vc D.C ((z.setCell ⟨X.heap.size,0,none⟩ (.int .i64 f.prc)).setCell ⟨X.heap.size,1,none⟩ (.int .i64 f.cap))) (hx:((z.setCell ⟨X.heap.size,0,none⟩ (.int .i64 f.prc)).setCell ⟨X.heap.size,1,none⟩ (.int .i64 f.cap)).cell? ⟨wr.heap.size,2,none⟩=some (.int .i64 x.ass))=>And.intro h.1 (And.intro h.2.1 (And.intro h.2.2.1 (And.intro h.2.2.2.1 (And.intro h.2.2.2.2.1 (And.intro h.2.2.2.2.2.1 (And.intro h.2.2.2.2.2.2.1 (And.intro h.2.2.2.2.2.2.2 hx)))))))) (s8d ((D1.o.blk.far (k:=X.heap.size) 0 (.int .i64 f.prc) t.o).far (k:=X.heap.size) 1 (.int .i64 f.cap) t.o)) (((J.o.far (k:=X.heap.size) 0 (.int .i64 f.prc) g.o).far (k:=X.heap.size) 1 (.int .i64 f.cap) g.o).c 2);clear hp q))
    all_goals
     rename_i r
     have u:=E.trans (L1.o.mono E.size);have Q:=(u.setCell (p:=⟨X.heap.size,0,none⟩) I (.int .i64 f.prc)).setCell (p:=⟨X.heap.size,1,none⟩) I (.int .i64 f.cap);have K:=u.alloc u.size (.cells #[.int .i64 f.prc,.int .i64 f.cap] 127);have af:=(J.o.alloc (.cells #[.int .i64 f.prc,.int .i64 f.cap] 127)).c 3;have aj:=((J.o.far (k:=X.heap.size) 0 (.int .i64 f.prc) g.o).far (k:=X.heap.size) 1 (.int .i64 f.cap) g.o).c 3;clear r O P H D1 J L1;by_cases hok:okS D.C x.ass
     ·obtain rfl:y=0:=by rw [←HY.o,if_pos hok]
      have v:Hid (f.prc=priceM D.C x.ass):=aa (HP.o hok);clear hok;go_wp2_with fail;go_roundw
      case rel=>exact ⟨k+1,by omega,by go_num,by rw [U.o,←v.o],by first | exact Q | exact K⟩
      case measure=>simp [intOf];omega
     ·obtain rfl:y=10:=by rw [←HY.o,if_neg hok]
      have v:Hid (priceM D.C x.ass=1):=aa (by unfold priceM;rw [if_neg hok]);clear hok;go_wp2_with fail;go_roundw
      case rel=>exact ⟨k+1,by omega,by go_num,by rw [U.o,v.o,Int.mul_one],by first | exact Q | exact K⟩
      case measure=>simp [intOf];omega
  ·obtain rfl:k=l.length:=by omega
   have ah:¬ ((l.length:Int)<(l.length:Int)):=by omega
   go_wp2_with fail;go_ret;exact ⟨by rw [HR.o];rfl,q.trans (a.mono q.size)⟩
end
section
variable {B:Nat}{TS:List TypeId}{K:List Nat}{w w' w1 w2:World}
theorem VtA.modT {gv gb gh:Nat}{vb vh:Value}{ms na:Nat}{bal:List Int}{pst room:Int}{hlds:List RH}(h:VtA w B gv gb gh vb vh ms na bal pst room hlds)(m:ModT B TS K w w')(h1:184∉TS)(h2:224∉TS)(h3:2∉TS)(h4:227∉TS)(h5:333∉TS):VtA w' B gv gb gh vb vh ms na bal pst room hlds:=
 ⟨h.blk.modT m h1,⟨h.book.blk.modT m h2,ai h.book.own m h3⟩,h.hblk.modT m h4,ai h.hown m h5,h.l1,h.l2,h.l3⟩
theorem ShA.modT {gs:Nat}{vo:Value}{l:List Ob}(h:ShA w B gs vo l)(m:ModT B TS K w w')(h1:186∉TS)(h2:71∉TS):ShA w' B gs vo l:=⟨h.blk.modT m h1,ai h.own m h2,h.l1⟩
abbrev DTS:List TypeId:=[138,184,227,333,186,71,101,175,211]
def KOk (w:World)(K:List Nat)(A:DA):Prop:=∀k∈K,(∃cs,Blk w k 101 cs)∧A.vl.ownBlock≠some k
theorem KOk.lt {A:DA}(h:KOk w K A):∀k∈K,k<w.heap.size:=fun k hk=>by obtain ⟨⟨cs,hc⟩,_⟩:=h k hk;exact hc.lt
theorem KOk.blk {A:DA}{g:Nat}{T:TypeId}{cs:Array Value}(h:KOk w K A)(hb:Blk w g T cs)(hT:T≠101):g∉K:=fun hg=>by
 obtain ⟨⟨c2,hc⟩,_⟩:=h g hg;unfold Blk at hb hc;rw [hb] at hc;simp at hc;exact hT hc.2
theorem KOk.own {A:DA}{base:Nat}{e:TypeId}{sz:Nat}{x:Value}{n:Nat}{xs:List Value}(h:KOk w K A)(ho:w.ownsRow base e sz x n xs)(hT:e≠101):∀k,x.ownBlock=some k→k∉K:=fun k hk hkK=>by
 obtain ⟨⟨c2,hc⟩,_⟩:=h k hkK;exact aD hc ho (Ne.symm hT) k hk rfl
theorem KOk.log {A:DA}(h:KOk w K A):∀k,A.vl.ownBlock=some k→k∉K:=fun k hk hkK=>(h k hkK).2 hk
theorem KOk.keep {A:DA}(h:KOk w K A)(c:Bw w w'):KOk w' K A:=fun k hk=>by
 obtain ⟨⟨cs,hc⟩,h2⟩:=h k hk;exact ⟨⟨cs,hc.keep c⟩,h2⟩
theorem KOk.d {A:DA}{wd:World}(h:KOk w K A)(e:wd.heap=w.heap:=by rfl):KOk wd K A:=fun k hk=>by
 obtain ⟨⟨c,a⟩,b⟩:=h k hk;exact ⟨⟨c,a.d e⟩,b⟩
structure DSp (B:Nat)(K:List Nat)(w w':World)(A A':DA)(D':DS):Prop where
 at':DkA w' B A' D'
 mod:ModT B DTS K w w'
 gd:A'.gd=A.gd
 gv:A'.gv=A.gv
 gs:A'.gs=A.gs
 gx:A'.gx=A.gx
 goes:Goes w A.vl A'.vl
variable {A A1 A2 A':DA}{D D1 D2 D':DS}
theorem KOk.step (h:KOk w K A)(s:DSp B K w w' A A' D'):KOk w' K A':=fun k hk=>by
 obtain ⟨⟨cs,hc⟩,h2⟩:=h k hk;refine ⟨⟨cs,(s.mod.far k hc.lt (Or.inr (Or.inl hk))).trans hc⟩,?_⟩;rcases s.goes with e | ⟨j,hj,e⟩
 ·rw [e];exact h2
 ·rw [e];have:=hc.lt
  intro e2;simp at e2;omega
theorem Goes.trans {v v1 v2:Value}(h:Goes w v v1)(h2:Goes w1 v1 v2)(hs:w.heap.size≤w1.heap.size):Goes w v v2:=by
 rcases h2 with e | ⟨k,hk,e⟩
 ·rcases h with e1 | ⟨j,hj,e1⟩
  ·exact Or.inl (e.trans e1)
  ·exact Or.inr ⟨j,hj,e.trans e1⟩
 ·exact Or.inr ⟨k,z5 hs hk,e⟩
theorem DSp.trans (s:DSp B K w w1 A A1 D1)(t:DSp B K w1 w2 A1 A2 D2):DSp B K w w2 A A2 D2:=
 ⟨t.at',s.mod.trans t.mod,t.gd.trans s.gd,t.gv.trans s.gv,t.gs.trans s.gs,t.gx.trans s.gx,s.goes.trans t.goes s.mod.size⟩
theorem DSp.same (h:DkA w B A D)(c:Bw w w'):DSp B K w w' A A D:=⟨h.keep c,ModT.below c,rfl,rfl,rfl,rfl,Or.inl rfl⟩
theorem DSp.keep (s:DSp B K w w1 A A1 D1)(c:Bw w1 w2):DSp B K w w2 A A1 D1:=s.trans (DSp.same s.at' c)
theorem DSp.before (s:DSp B K w1 w2 A A1 D1)(c:Bw w w1):DSp B K w w2 A A1 D1:=
 ⟨s.at',(ModT.below c).trans s.mod,s.gd,s.gv,s.gs,s.gx,s.goes.later c.size⟩
theorem DkA.desk {c s:Int}{e:Bool}(h:DkA w B A D)(m:ModT B [138] K w w')(hb:Blk w' A.gd 138 (A.cells { D with cycles:=c,state:=s,endowed:=e })):DSp B K w w' A A { D with cycles:=c,state:=s,endowed:=e }:=
 ⟨⟨hb,h.cfg.modT m (by decide) (by decide) (by decide),h.vault.modT m (by decide) (by decide) (by decide) (by decide) (by decide),h.sheet.modT m (by decide) (by decide),h.box.modT m (by decide),h.bcfg.modT m (by decide) (by decide) (by decide),ai h.bids m (by decide),ai h.who m (by decide),ai h.log m (by decide),h.l1,h.l2⟩,m.mono (by decide),rfl,rfl,rfl,rfl,Or.inl rfl⟩
theorem DkA.setCycles (h:DkA w B A D)(c:Int)(hK:A.gd∉K):DSp B K w (w.setCell ⟨A.gd,12,none⟩ (.int .i64 c)) A A { D with cycles:=c }:=
 h.desk (ModT.set h.blk (by simp) h.l1 hK) (h.blk.set 12 (.int .i64 c))
theorem DkA.setState (h:DkA w B A D)(c:Int)(hK:A.gd∉K):DSp B K w (w.setCell ⟨A.gd,13,none⟩ (.int .i64 c)) A A { D with state:=c }:=
 h.desk (ModT.set h.blk (by simp) h.l1 hK) (h.blk.set 13 (.int .i64 c))
theorem DkA.setEndowed (h:DkA w B A D)(c:Bool)(hK:A.gd∉K):DSp B K w (w.setCell ⟨A.gd,14,none⟩ (.bool c)) A A { D with endowed:=c }:=
 h.desk (ModT.set h.blk (by simp) h.l1 hK) (h.blk.set 14 (.bool c))
theorem DkA.setWho {v:Value}{l:List Int}(h:DkA w B A D)(ho:w.ownsRow B 3 1 v l.length (flat eI l))(hK:A.gd∉K):DSp B K w (w.setCell ⟨A.gd,11,none⟩ v) A { A with vw:=v } { D with who:=l }:=by
 have m:ModT B [138] K w (w.setCell ⟨A.gd,11,none⟩ v):=ModT.set h.blk (by simp) h.l1 hK;exact ⟨⟨h.blk.set 11 v,h.cfg.modT m (by decide) (by decide) (by decide),h.vault.modT m (by decide) (by decide) (by decide) (by decide) (by decide),h.sheet.modT m (by decide) (by decide),h.box.modT m (by decide),h.bcfg.modT m (by decide) (by decide) (by decide),ai h.bids m (by decide),ai ho m (by decide),ai h.log m (by decide),h.l1,h.l2⟩,m.mono (by decide),rfl,rfl,rfl,rfl,Or.inl rfl⟩
theorem DkA.sheetS {vo:Value}{obs:List Ob}(h:DkA w B A D)(m:ModT B [186,71] K w w')(hs:ShA w' B A.gs vo obs):DSp B K w w' A { A with vo:=vo } { D with obs:=obs }:=
 ⟨⟨h.blk.modT m (by decide),h.cfg.modT m (by decide) (by decide) (by decide),h.vault.modT m (by decide) (by decide) (by decide) (by decide) (by decide),hs,h.box.modT m (by decide),h.bcfg.modT m (by decide) (by decide) (by decide),ai h.bids m (by decide),ai h.who m (by decide),ai h.log m (by decide),h.l1,h.l2⟩,m.mono (by decide),rfl,rfl,rfl,rfl,Or.inl rfl⟩
theorem DkA.told {vl:Value}{log:List Ev}(h:DkA w B A D)(t:Told w w' B A.gd 138 (A.cells D) 15 A.vl log K vl):DSp B K w w' A { A with vl:=vl } { D with log:=log }:=
 have m:=t.mod;⟨⟨t.blk,h.cfg.modT m (by decide) (by decide) (by decide),h.vault.modT m (by decide) (by decide) (by decide) (by decide) (by decide),h.sheet.modT m (by decide) (by decide),h.box.modT m (by decide),h.bcfg.modT m (by decide) (by decide) (by decide),ai h.bids m (by decide),ai h.who m (by decide),t.own,h.l1,h.l2⟩,m.mono (by decide),rfl,rfl,rfl,rfl,t.goes⟩
theorem DkA.vaultP {gb:Nat}{vb:Value}{bal:List Int}{pst:Int}(h:DkA w B A D)(m:ModT B [184] K w w')(hv:VtA w' B A.gv gb A.gh vb A.vh D.C.mem.length (D.C.secs.length+1) bal pst D.C.mem.length D.hlds):DSp B K w w' A { A with gb:=gb,vb:=vb,pst:=pst } { D with bal:=bal }:=
 ⟨⟨h.blk.modT m (by decide),h.cfg.modT m (by decide) (by decide) (by decide),hv,h.sheet.modT m (by decide) (by decide),h.box.modT m (by decide),h.bcfg.modT m (by decide) (by decide) (by decide),ai h.bids m (by decide),ai h.who m (by decide),ai h.log m (by decide),h.l1,h.l2⟩,m.mono (by decide),rfl,rfl,rfl,rfl,Or.inl rfl⟩
theorem DkA.vaultH {vh:Value}{hlds:List RH}(h:DkA w B A D)(m:ModT B [227,333] K w w')(hv:VtA w' B A.gv A.gb A.gh A.vb vh D.C.mem.length (D.C.secs.length+1) D.bal A.pst D.C.mem.length hlds):DSp B K w w' A { A with vh:=vh } { D with hlds:=hlds }:=
 ⟨⟨h.blk.modT m (by decide),h.cfg.modT m (by decide) (by decide) (by decide),hv,h.sheet.modT m (by decide) (by decide),h.box.modT m (by decide),h.bcfg.modT m (by decide) (by decide) (by decide),ai h.bids m (by decide),ai h.who m (by decide),ai h.log m (by decide),h.l1,h.l2⟩,m.mono (by decide),rfl,rfl,rfl,rfl,Or.inl rfl⟩
theorem DkA.boxClear (h:DkA w B A D)(hK:A.gx∉K):DSp B K w (w.setCell ⟨A.gx,8,none⟩ (.slice none 0 0)) A { A with vx:=.slice none 0 0 } { D with bids:=[] }:=by
 have m:ModT B [175] K w (w.setCell ⟨A.gx,8,none⟩ (.slice none 0 0)):=ModT.set h.box (by simp) h.l2 hK;exact ⟨⟨h.blk.modT m (by decide),h.cfg.modT m (by decide) (by decide) (by decide),h.vault.modT m (by decide) (by decide) (by decide) (by decide) (by decide),h.sheet.modT m (by decide) (by decide),h.box.set 8 _,h.bcfg.modT m (by decide) (by decide) (by decide),⟨by simp [flat],Or.inl ⟨rfl,rfl⟩⟩,ai h.who m (by decide),ai h.log m (by decide),h.l1,h.l2⟩,m.mono (by decide),rfl,rfl,rfl,rfl,Or.inl rfl⟩
end
theorem tB {α:Type}(rid:α→Int)(l:List α)(id:Int)(h:∀y∈l,id≤rid y):posM rid l id=0:=by
 unfold posM;rw [List.countP_eq_zero];intro y a;have:=h y a
 simp
 omega
theorem dW {α:Type}(rid:α→Int)(x:α):∀(l:List α),Rsg rid l→hasM rid l (rid x)=false→Rsg rid (insL l (posM rid l (rid x)) x):=by
 intro l;induction l with
 | nil=>intro _ _;unfold insL posM Rsg;simp
 | cons y l ih=>
  intro h c;unfold Rsg at h;rw [List.pairwise_cons] at h;have a:¬ rid y=rid x∧hasM rid l (rid x)=false:=by
   unfold hasM at c ⊢;simp only [List.any_cons,Bool.or_eq_false_iff,decide_eq_false_iff_not] at c;exact c
  by_cases hlt:rid y<rid x
  ·have d:posM rid (y :: l) (rid x)=posM rid l (rid x)+1:=by unfold posM;rw [List.countP_cons];simp [hlt]
   have f:insL (y :: l) (posM rid l (rid x)+1) x=y :: insL l (posM rid l (rid x)) x:=by unfold insL;simp
   rw [d,f];unfold Rsg;rw [List.pairwise_cons];refine ⟨fun z hz=>?_,ih h.2 a.2⟩;unfold insL at hz;rcases AJ.1 hz with hz | hz
   ·exact h.1 z (List.mem_of_mem_take hz)
   ·rcases Aq.1 hz with rfl | hz
    ·exact hlt
    ·exact h.1 z (Bh hz)
  ·have b:rid x<rid y:=by have:=a.1;omega
   rw [tB rid (y :: l) (rid x) (fun z hz=>by
    rcases Aq.1 hz with rfl | hz
    ·omega
    ·have:=h.1 z hz;omega)]
   unfold insL Rsg;simp only [List.take_zero,List.drop_zero,Bl];rw [List.pairwise_cons,List.pairwise_cons];refine ⟨fun z hz=>?_,h⟩;rcases Aq.1 hz with rfl | hz
   ·exact b
   ·have:=h.1 z hz;omega
theorem mV {ms na:Nat}{room:Int}{hlds:List RH}{bal:List Int}{h:RH}(hr:Rsg RH.rid hlds):Rsg RH.rid (vplaceM ms na room hlds bal h).2:=by
 unfold vplaceM;split
 ·exact hr
 split
 ·exact hr
 split
 ·exact hr
 split
 ·exact hr
 split
 ·exact hr
 ·rename_i a _ _
  exact dW RH.rid h hlds hr (by simpa using a)
theorem pV {ms na:Nat}{room:Int}{hlds:List RH}{bal:List Int}{h:RH}(hn:(hlds.length:Int)≤room):((vplaceM ms na room hlds bal h).2.length:Int)≤room:=by
 unfold vplaceM;split
 ·exact hn
 split
 ·exact hn
 split
 ·exact hn
 split
 ·exact hn
 split
 ·exact hn
 ·rename_i b _
  have a:posM RH.rid hlds h.rid≤hlds.length:=List.countP_le_length;rw [aJ _ _ _ a];omega
variable {B:Nat}{K:List Nat}{A:DA}{D:DS}{w:World}
def DS.tell (D:DS)(ev:List Ev):DS:={ D with log:=D.log++ev }
theorem dy (h:DkA w B A D)(hK:KOk w K A)(hB:B≤w.heap.size)(ev:List Ev)(ad:Addr)(cap:Nat)(hs:Sl eEv 5 w (.slice (some ad) ev.length cap) ev)(hn:D.log.length+ev.length≤1000000) :
  Calls Tryz.prog 164 #[ptr A.gd,.slice (some ad) ev.length cap] w fun e w'=>∃vl,e=.returned (.tuple #[])∧DSp B K w w' A { A with vl:=vl } (D.tell ev):=
 (iy B A.gd (A.cells D) A.vl D.log ev ad cap K w h.blk rfl h.l1 hB h.log hs hn (hK.blk h.blk (by decide)) hK.log).mono fun _ _ ⟨vl,he,ht⟩=>⟨vl,he,h.told ht⟩
def DS.place (D:DS)(x:RH):DS:={ D with hlds:=(vplaceM D.C.mem.length (D.C.secs.length+1) D.C.mem.length D.hlds D.bal x).2 }
theorem DOk.place (ok:DOk D)(x:RH):DOk (D.place x):=
 ⟨ok.cfg,ok.bal,ok.b64,by
  have h:=pV (ms:=D.C.mem.length) (na:=D.C.secs.length+1) (room:=D.C.mem.length) (hlds:=D.hlds) (bal:=D.bal) (h:=x) (by have:=ok.hlds;omega);show (vplaceM _ _ _ _ _ _).2.length≤D.C.mem.length
  omega,mV ok.rise,ok.obs,ok.o64,ok.who⟩
theorem gB (h:DkA w B A D)(ok:DOk D)(hK:KOk w K A)(hB:B≤w.heap.size)(x:RH) :
  Calls Tryz.prog 251 #[ptr A.gv,.int .i64 x.rid,.agg #[.int .i64 x.kind,.int .i64 x.mem,.int .i64 x.ass,.int .i64 x.amt]] w fun e w'=>∃vh r,e=.returned (.int .i64 r)∧DSp B K w w' A { A with vh:=vh } (D.place x):=
 (ki B A.gv A.gb A.gh A.vb A.vh _ _ ok.cfg.m2 ok.na D.bal ok.bal ok.b64 A.pst _ (by have:=ok.cfg.m2;omega) D.hlds (by have:=ok.hlds;omega) ok.rise x K w h.vault (hK.blk h.vault.hblk (by decide)) (hK.own h.vault.hown (by decide)) hB).mono fun _ _ ⟨vh,he,hv,hm,_⟩=>⟨vh,_,he,h.vaultH hm hv⟩
theorem pW (h:DkA w B A D)(ok:DOk D)(hK:KOk w K A)(hB:B≤w.heap.size)(cycle:Int)(v:Value)(nets:List Lg)(B2:Nat)(hv:w.ownsRow B2 120 3 v nets.length (flat eLg nets))(hn:nets.length≤100000)(h64:∀x∈nets,In64 x.amt) :
  Calls Tryz.prog 249 #[ptr A.gs,.int .i64 cycle,v] w fun e w'=>∃vo,e=.returned (.int .i64 (sopenM D.obs cycle nets).1)∧DSp B K w w' A { A with vo:=vo } { D with obs:=(sopenM D.obs cycle nets).2 }:=
 (mD B A.gs A.vo v D.obs cycle nets K w h.sheet ok.obs B2 hv hn h64 hB hK.lt (hK.blk h.sheet.blk (by decide)) (hK.own h.sheet.own (by decide))).mono fun _ _ ⟨vo,he,hs,hm,_⟩=>⟨vo,he,h.sheetS hm hs⟩
section
attribute [local go_sem ↓] Go.wp_at_zero Go.wp_at_succ
def evNet (nets:List Lg):List Ev:=nets.map fun x=>⟨4,x.mem,x.ass,x.amt,0⟩
def DS.holdOf (D:DS)(m:Int):RH:=⟨m,8,m,0,min (D.unheld m) (D.risk m)⟩
def DS.placeK (D:DS):Nat→DS
 | 0=>D
 | k+1=>(D.placeK k).place ((D.placeK k).holdOf ((k:Int)+1))
def DS.opened (D:DS)(nets:List Lg):DS:={ D with obs:=(sopenM D.obs (wrap64 (D.cycles+1)) nets).2,cycles:=wrap64 (D.cycles+1),state:=1 }
def DS.netted (D:DS)(nets:List Lg):DS:=((D.opened nets).tell (evNet nets)).placeK D.C.mem.length
def NetRel (D:DS)(legs:List Lg)(r:Int)(D':DS):Prop:=
 if D.state≠0 then r=11∧D'=D
 else if (D.C.cyc.length:Int)≤D.cycles then r=6∧D'=D
 else ∃nets rn,NetsIs D.C legs nets rn∧
  if rn≠0 then r=rn∧D'=D
  else if wholeM (D.C.secs.length+1) nets≠0 then r=wholeM (D.C.secs.length+1) nets∧D'=D
  else if (sopenM D.obs (wrap64 (D.cycles+1)) nets).1≠0 then r=(sopenM D.obs (wrap64 (D.cycles+1)) nets).1∧D'={ D with obs:=(sopenM D.obs (wrap64 (D.cycles+1)) nets).2 }
  else r=0∧D'=D.netted nets
def absL (l:List Int):Nat:=(l.map Int.natAbs).sum
def Fair (l:List Lg):Prop:=absL (l.map (·.amt))≤2305843009213693952
theorem xu:∀(l:List Int),(sumL l).natAbs≤absL l:=by
 intro l;induction l with
 | nil=>simp [sumL,absL]
 | cons y l ih=>
  have e:sumL (y :: l)=y+sumL l:=by simp [sumL]
  have a:absL (y :: l)=y.natAbs+absL l:=by simp [absL]
  rw [e,a];omega
theorem xv:∀(l:List Int),∀x∈l,x.natAbs≤absL l:=by
 intro l;induction l with
 | nil=>intro x a;simp at a
 | cons y l ih=>
  intro x a;have b:absL (y :: l)=y.natAbs+absL l:=by simp [absL]
  rw [b];rcases Aq.1 a with rfl | a
  ·omega
  ·have:=ih x a
   omega
def totG {κ:Type}(G:List (κ×List Int)):Nat:=(G.map fun p=>absL p.2).sum
theorem xw {κ:Type} [DecidableEq κ](k:κ)(x:Int):∀(G:List (κ×List Int)),totG (addG k x G)=totG G+x.natAbs:=by
 intro G;induction G with
 | nil=>simp [addG,totG,absL]
 | cons p G ih=>
  unfold totG at *;by_cases hk:k=p.1
  ·simp [addG,hk,absL]
   omega
  ·simp [addG,hk,ih]
   omega
theorem tC {κ α:Type} [DecidableEq κ](f:α→κ)(g:α→Int)(l:List α):∀(G:List (κ×List Int)),totG (l.foldl (fun G x=>addG (f x) (g x) G) G)=totG G+absL (l.map g):=by
 induction l with
 | nil=>intro G;simp [absL]
 | cons x l ih=>
  intro G;rw [List.foldl_cons,ih,xw];have a:absL ((x :: l).map g)=(g x).natAbs+absL (l.map g):=by simp [absL]
  rw [a];omega
theorem xy {κ:Type}:∀(G:List (κ×List Int)),∀p∈G,absL p.2≤totG G:=by
 intro G;induction G with
 | nil=>intro p a;simp at a
 | cons q G ih=>
  intro p a;have e:totG (q :: G)=absL q.2+totG G:=by simp [totG]
  rw [e];rcases Aq.1 a with rfl | a
  ·omega
  ·have:=ih p a
   omega
theorem iS {C:Cfg}{l o:List Lg}{r:Int}(h:NetsIs C l o r)(hf:Fair l)(hn:l.length≤1024):o.length≤1024∧∀x∈o,-2305843009213693952≤x.amt∧x.amt≤2305843009213693952:=by
 unfold NetsIs at h;split at h
 ·rw [h.2];simp
 split at h
 ·rw [h.2];simp
 split at h
 ·rw [h.2];simp
 obtain ⟨_,Q,f,d⟩:=h;have q:=bI l;have j:Q.length=(gpN l).length:=by simpa using f.length_eq
 refine ⟨?_,fun x hx=>?_⟩
 ·rw [d];refine z5 (Ak _ _) ?_;rw [Ad];omega
 ·rw [d] at hx;obtain ⟨p,g,a⟩:=AN.1 hx;obtain ⟨i,hi,rfl⟩:=AD.1 g;have c:i<(gpN l).length:=by simpa using f.mem_iff.1 hi
  rw [Ah,Ab c] at a;simp only [Option.getD_some] at a;have b:=Ag c;have m:=xy (gpN l) _ b;have k:totG (gpN l)=absL (l.map (·.amt)):=by
   have:=tC sdOf Lg.amt l []
   simpa [gpN,totG] using this
  have n:=xu (gpN l)[i].2;unfold Fair at hf;unfold netF at a;split at a
  ·cases a
   dsimp only;unfold sumM fitM;split
   ·dsimp only;omega
   ·simp
  ·cases a
theorem xz {l:List Lg}(h:Fair l):∀x∈l,In64 x.amt:=fun x hx=>by
 have h1:=xv (l.map (·.amt)) x.amt (AD.2 ⟨x,hx,rfl⟩);unfold Fair at h;unfold In64;omega
theorem DOk.tell {D:DS}(ok:DOk D)(ev:List Ev):DOk (D.tell ev):=⟨ok.cfg,ok.bal,ok.b64,ok.hlds,ok.rise,ok.obs,ok.o64,ok.who⟩
theorem DOk.placeK {D:DS}(ok:DOk D):∀k,DOk (D.placeK k):=by
 intro k;induction k with
 | zero=>exact ok
 | succ k ih=>exact ih.place _
theorem tD (D:DS):∀k,(D.placeK k).C=D.C:=by
 intro k;induction k with
 | zero=>rfl
 | succ k ih=>exact ih
theorem jH {D:DS}(ok:DOk D){nets:List Lg}(h64:∀x∈nets,In64 x.amt)(c:Int):(sopenM D.obs c nets).2.length≤1024∧∀x∈(sopenM D.obs c nets).2,In64 x.net:=by
 unfold sopenM;split
 ·exact ⟨ok.obs,ok.o64⟩
 split
 ·exact ⟨ok.obs,ok.o64⟩
 split
 ·exact ⟨ok.obs,ok.o64⟩
 split
 ·exact ⟨ok.obs,ok.o64⟩
 ·rename_i b _ _ _
  refine ⟨by simp;omega,fun x hx=>?_⟩;rcases AJ.1 hx with hx | hx
  ·exact ok.o64 x hx
  ·obtain ⟨y,a,rfl⟩:=AD.1 hx;exact h64 y a
theorem DOk.opened {D:DS}(ok:DOk D){nets:List Lg}(h64:∀x∈nets,In64 x.amt):DOk (D.opened nets):=
 ⟨ok.cfg,ok.bal,ok.b64,ok.hlds,ok.rise,(jH ok h64 _).1,(jH ok h64 _).2,ok.who⟩
theorem aT (j:Nat)(h:j≤1000):wrap64 ((j:Int)+1)=(j:Int)+1∧IntKind.i64.wrap ((j:Int)+1)=(j:Int)+1:=⟨by unfold wrap64;omega,Ax _ (by omega)⟩
theorem ar {j M:Nat}(h:j<M):M - (intOf (.int .i64 ((j:Int)+1))).toNat<M - (intOf (.int .i64 (j:Int))).toNat:=by
 simp [intOf]
 omega
def Near (wr:World)(B:Nat)(A:DA)(D:DS)(X:World):Prop:=Bw wr X∧DkA X B A D
theorem Near.start (wr:World)(B:Nat)(A:DA)(D:DS)(h:DkA wr B A D):Near wr B A D wr.drew:=⟨(zZ _ _).drew,h.d⟩
theorem Near.alloc {wr X:World}{B:Nat}{A:DA}{D:DS}(h:Near wr B A D X)(o:Obj):Near wr B A D (X.alloc o):=⟨h.1.alloc h.1.size o,h.2.alloc o⟩
theorem Near.keep {wr X X':World}{B:Nat}{A:DA}{D:DS}(h:Near wr B A D X)(c:Bw X X'):Near wr B A D X':=⟨h.1.trans (c.mono h.1.size),h.2.keep c⟩
def NetPost (B:Nat)(K:List Nat)(A:DA)(D:DS)(legs:List Lg)(w:World)(e:Ending)(w':World):Prop:=∃r A' D',e=.returned (.int .i64 r)∧DSp B K w w' A A' D'∧NetRel D legs r D'
theorem tE {B:Nat}{K:List Nat}{A:DA}{D:DS}{w:World}(h:DkA w B A D)(ok:DOk D)(hK:KOk w K A)(hB:B≤w.heap.size)(hcy:In64 D.cycles)(v:Value)(legs:List Lg)(hv:Sl eLg 3 w v legs)(hn:legs.length≤1024)(hf:Fair legs)(hlog:D.log.length+1024≤900000):Calls Tryz.prog 206 #[ptr A.gd,v] w (NetPost B K A D legs w):=by
 have s:Bw w (w.alloc (.cells #[.int .i64 0] 3)):=Bn;have J:=aa h;have aN:=aa hK;have HD:=aa (h.keep s);have HK:=aa (hK.keep s);have l:=aa (ew (h.keep s) 0 w.heap.size (Blk.new w 3 #[.int .i64 0]));have HV:=aa (hv.keep s);have OK:=aa ok;have HF:=aa hf;have HB:=aa (z5 hB s.size);obtain ⟨n1,k1,rfl,_⟩:=hv;by_cases hs:D.state=0
 rotate_left
 ·have HR:Hid (NetRel D legs 11 D):=aa (by unfold NetRel;rw [if_pos hs];exact ⟨rfl,rfl⟩);have HS:Hid ((if (0:Int)=D.state then (0:Int) else 11)=11):=aa (if_neg (Ne.symm hs));rw [HS.o] at l;clear h ok hK hf hs;go_enter Tryz.func206,Tryz.ntmps206;go_wp2_with (go_at_call 152;refine l.o.mono ?_;rintro e w1 ⟨rfl,hw⟩;subst hw)
  go_ret;exact ⟨_,A,D,rfl,DSp.same J.o s,HR.o⟩
 ·have HS:Hid ((if (0:Int)=D.state then (0:Int) else 11)=0):=aa (if_pos hs.symm);rw [HS.o] at l;have ad:=aa hs;obtain ⟨nc,kc,O,_⟩:=h.cfg.sl.c;have bs:=aa O;have p2:(w.alloc (.cells #[.int .i64 0] 3)).cell? ⟨A.gd,2,none⟩=some (.slice nc D.C.cyc.length kc):=((h.keep s).blk.c 2).trans (congrArg some O);have bh:(w.alloc (.cells #[.int .i64 0] 3)).cell? ⟨A.gd,12,none⟩=some (.int .i64 D.cycles):=(h.keep s).blk.c 12;by_cases hc:(D.C.cyc.length:Int)≤D.cycles
  ·have HR:Hid (NetRel D legs 6 D):=aa (by unfold NetRel;rw [if_neg (by simpa using hs),if_pos hc];exact ⟨rfl,rfl⟩);have hd:=dT hc;clear h ok hK hf hs O hc;go_enter Tryz.func206,Tryz.ntmps206;go_wp2_with (go_at_call 152;refine l.o.mono ?_;rintro e w1 ⟨rfl,hw⟩;subst hw)
   go_region
   go_wp2_with fail;go_ret;exact ⟨_,A,D,rfl,(DSp.same J.o s).keep ((zZ _ _).drew),HR.o⟩
  ·have hd:=dF hc;obtain ⟨p0,p1,_,p3,p4,p5,p6,p7⟩:=s8d (h.keep s).blk;have q:=(tt A.vm A.vs A.vc (.slice n1 legs.length k1) D.C legs ((w.alloc (.cells #[.int .i64 0] 3)).drew) ((h.keep s).cfg.sl.d) (HV.o.d) (by omega) (xz hf));rw [O] at q;have R:=aa q;clear q O;have I:=aa hc;clear h ok hK hs hc;go_enter Tryz.func206,Tryz.ntmps206;go_wp2_with (go_at_call 152;refine l.o.mono ?_;rintro e w1 ⟨rfl,hw⟩;subst hw)
   go_region
   go_wp2_with (go_at_call 247;refine R.o.mono ?_;rintro e w2 ⟨u,rn,a,rfl,ho,c2,aP⟩;have HO:=aa ho;obtain ⟨n2,k2,rfl⟩:=ag ho;have S:=aa aP;have X:=aa (HD.o.keepD c2);have bc:=aa ((HK.o.d (wd:=(w.alloc (.cells #[.int .i64 0] 3)).drew)).keep c2);have C2:=aa c2;clear ho aP c2)
   ·have V:(rn != 0)=true:=by assumption
    have a1:rn≠0:=by simpa using V
    have c3:=s.trans (((zZ (w.alloc (.cells #[.int .i64 0] 3)).heap.size (w.alloc (.cells #[.int .i64 0] 3))).drew.trans C2.o).mono s.size);go_ret;refine ⟨rn,A,D,rfl,DSp.same J.o c3,?_⟩;unfold NetRel;rw [if_neg (by simpa using ad.o),if_neg (by have:=I.o;omega)];exact ⟨a,rn,S.o,by rw [if_pos a1];exact ⟨rfl,rfl⟩⟩
   ·have V:(rn != 0)=false:=by assumption
    obtain rfl:rn=0:=by simpa using V
    have c3:=s.trans (((zZ (w.alloc (.cells #[.int .i64 0] 3)).heap.size (w.alloc (.cells #[.int .i64 0] 3))).drew.trans C2.o).mono s.size);obtain ⟨bz,an⟩:=iS S.o HF.o hn;have ak:∀x∈a,In64 x.amt:=fun x hx=>by have:=an x hx;unfold In64;omega
    have af:=pR X.o OK.o (.slice n2 a.length k2) a (Sl.own kLg HO.o) (by omega) (fun x hx=>⟨ak x hx,by have:=an x hx;omega⟩);obtain ⟨wm,am⟩:∃wm,wholeM (D.C.secs.length+1) a=wm:=⟨_,rfl⟩;rw [am] at af;have bl:=aa af;have aq:=aa am;have aF:=aa ak;have bA:=z5 hB c3.size;have q9:w2.cell? ⟨A.gd,9,none⟩=some (ptr A.gs):=X.o.blk.c 9;have aB:w2.cell? ⟨A.gd,12,none⟩=some (.int .i64 D.cycles):=X.o.blk.c 12;clear V af am ak an p0 p1 p2 p3 p4 p5 p6 p7 bh R l;go_wp2_with (go_at_call 248;refine bl.o.mono ?_;rintro e w3 ⟨rfl,c4⟩;have Y:=aa (X.o.keep c4);have ao:=aa (bc.o.keep c4);have aW:=aa (ah HO.o c4);have C4:=aa c4;have q9:=Y.o.blk.c 9;have aB:=Y.o.blk.c 12;clear c4)
    ·have Z:(wm != 0)=true:=by assumption
     have aV:wm≠0:=by simpa using Z
     go_ret;refine ⟨wm,A,D,rfl,DSp.same J.o (c3.trans (C4.o.mono c3.size)),?_⟩;unfold NetRel;rw [if_neg (by simpa using ad.o),if_neg (by have:=I.o;omega)];exact ⟨a,0,S.o,by rw [if_neg (by simp),aq.o,if_pos aV];exact ⟨rfl,rfl⟩⟩
    ·have Z:(wm != 0)=false:=by assumption
     obtain rfl:wm=0:=by simpa using Z
     have aw:D.cycles<4:=by have:=I.o;have:=OK.o.cfg.c2;omega
     obtain ⟨H,E⟩:∃c,wrap64 (D.cycles+1)=c:=⟨_,rfl⟩;have bv:wrap64 (D.cycles+1)=H:=E;have br:IntKind.i64.wrap (D.cycles+1)=H:=by
      rw [←E,Ax _ (by unfold In64 at hcy;omega)];unfold wrap64;unfold In64 at hcy;omega
     have ax:=aa E;obtain ⟨⟨so,ob⟩,t⟩:∃r,sopenM D.obs H a=r:=⟨_,rfl⟩;have av:=aa t;have c4:=c3.trans (C4.o.mono c3.size);have a6:=z5 hB c4.size;have aH:=And.intro q9 aB;have y:=aa (pW (Y.o.d (wd:=w3.drew)) OK.o (ao.o.d (wd:=w3.drew)) a6 H (.slice n2 a.length k2) a _ (be aW.o (wd:=w3.drew)) (by omega) aF.o);rw [t] at y;dsimp only at y;clear E t Z;go_region_held3 (fun W=>W.cell? ⟨A.gd,9,none⟩=some (ptr A.gs)∧W.cell? ⟨A.gd,12,none⟩=some (.int .i64 D.cycles)) (first | exact aH | exact aZ | assumption | go_keep)
      (first | (go_at_call 249;refine y.o.mono ?_;rintro e w5 ⟨vo,rfl,U⟩;have aA:=aa U;have aZ:=And.intro (U.at'.blk.c 9) (U.at'.blk.c 12);clear U))
     rename_i n
     clear n aH aZ;have Q:=aa ((DSp.same (K:=K) J.o c4).trans ((aA.o.before (w:=w3) ((zZ _ _).drew))));have al:=aa Q.o.at';by_cases hs0:so=0
     rotate_left
     ·have bp:(so != 0)=true:=by simpa using hs0
      go_wp2_with fail;go_ret;refine ⟨so,_,_,rfl,Q.o,?_⟩;unfold NetRel;rw [if_neg (by simpa using ad.o),if_neg (by have:=I.o;omega)];exact ⟨a,0,S.o,by rw [if_neg (by simp),aq.o,if_neg (by simp),ax.o,av.o,if_pos hs0];exact ⟨rfl,rfl⟩⟩
     ·subst hs0;have au:A.gd∉K:=ao.o.blk Y.o.blk (by decide);have G:=aa (al.o.setCycles (K:=K) H au);have ap:=aa (G.o.at'.setState (K:=K) 1 au);have ba:w5.cell? ⟨A.gd,12,none⟩=some (.int .i64 D.cycles):=al.o.blk.c 12;have a3:w5.frozen? ⟨A.gd,12,none⟩=false:=al.o.blk.free 12;have bj:(w5.setCell ⟨A.gd,12,none⟩ (.int .i64 H)).cell? ⟨A.gd,13,none⟩=some (.int .i64 D.state):=G.o.at'.blk.c 13;have bm:(w5.setCell ⟨A.gd,12,none⟩ (.int .i64 H)).frozen? ⟨A.gd,13,none⟩=false:=G.o.at'.blk.free 13;have aD:=aa (ai (be aW.o (wd:=w3.drew)) aA.o.mod (by decide));have aJ:=aa (ai (ai aD.o G.o.mod (by decide)) ap.o.mod (by decide));have aQ:=aa (Q.o.trans (G.o.trans ap.o));clear au;go_wp2_with fail;obtain ⟨z,P⟩:∃z,D.opened a=z:=⟨_,rfl⟩;have ae:=aa P;have e1:({ D with obs:=ob,cycles:=H,state:=1 }:DS)=z:=by rw [←P];unfold DS.opened;rw [ax.o,av.o]
      have ab:=aQ.o;have a9:=aa (show DOk z from by rw [←P];exact OK.o.opened aF.o);have bo:z.log.length≤800000+98976:=by rw [←P];show D.log.length≤_;omega
      change DSp B K w ((w5.setCell ⟨A.gd,12,none⟩ (.int .i64 H)).setCell ⟨A.gd,13,none⟩ (.int .i64 1)) A { A with vo:=vo } { D with obs:=ob,cycles:=H,state:=1 } at ab
      rw [e1] at ab;have aR:=aa ab;clear ab e1 P ba a3 bj bm aQ ap G aD;generalize (w5.setCell ⟨A.gd,12,none⟩ (.int .i64 H)).setCell ⟨A.gd,13,none⟩ (.int .i64 1)=w7 at *;have bH:=aa (Sl.own kLg aJ.o);have bD:=aa (ao.o.d (wd:=w3.drew));go_loopw [75] (fun vi wr=>∃(k:Nat) (vl:Value),k≤a.length∧vi=.int .i64 k∧DSp B K w wr A { A with vo:=vo,vl:=vl } (z.tell (evNet (a.take k)))∧∃B0,wr.ownsRow B0 120 3 (.slice n2 a.length k2) a.length (flat eLg a)) (fun vi _=>a.length - (intOf vi).toNat)
      case atStart=>exact ⟨0,A.vl,Af _,rfl,by rw [show z.tell (evNet (a.take 0))=z from by unfold DS.tell evNet;simp];exact aR.o,_,aJ.o⟩
      case round=>
       obtain ⟨k,vl,hk,rfl,p,B0,t⟩:=hrel;have f:=aa p;have bi:=aa (Sl.own kLg t);have aY:=aa t;have aO:=p.mod.size;clear p t;by_cases hlt:k<a.length
       ·obtain ⟨a',aE,aU,_,bG,bf,aG⟩:=bi.o;obtain ⟨e1,e2⟩:n2=a'∧k2=aE:=by simpa using aU
        subst e1 e2;obtain ⟨b,bB,rfl,bu,aw⟩:=aG (by omega);obtain ⟨r0,r1,r2⟩:=ch (aw k hlt);have bw:(0:Int)≤(k:Int):=by omega
        have bt:(k:Int)<(a.length:Int):=by omega
        unfold maxLen at bf;have a2:Hid ((z.tell (evNet (a.take k))).tell [⟨4,a[k].mem,a[k].ass,a[k].amt,0⟩]=z.tell (evNet (a.take (k+1)))):=aa (by
         unfold DS.tell evNet;rw [z9 hlt,AI];simp [Au])
        have a5:(z.tell (evNet (a.take k))).log.length+1≤1000000:=by
         show (z.log++evNet (a.take k)).length+1≤_
         unfold evNet;rw [z8,Ad,Aa];omega
        clear aw aG aU;generalize a[k]=x at *;have cX:Bw wr (wr.alloc (.cells (cLg x) 120)):=Bn;have cY:=cX.alloc cX.size (.cells #[.int .i64 4,.int .i64 x.mem,.int .i64 x.ass,.int .i64 x.amt,.int .i64 0] 101);have bk:=aa ((aN.o.step f.o).keep cY);have HT:=aa (dy (f.o.at'.keep cY) bk.o (z5 hB (z5 aO cY.size)) [⟨4,x.mem,x.ass,x.amt,0⟩] ⟨wr.heap.size+1,0,none⟩ 1 (Sl.one1b eEv kEv (wr.alloc (.cells (cLg x) 120)) 101 ⟨4,x.mem,x.ass,x.amt,0⟩ (by rfl) _ (by simp)) a5);have aX:=aa (ah aY.o cY);go_wp2_with (go_at_call 164;refine HT.o.mono ?_;rintro e w8 ⟨a7,rfl,aj⟩;have bd:=aa ((f.o.keep cY).trans aj);have aK:=aa (ai aX.o aj.mod (by decide));clear aj)
        go_roundw
        case rel=>exact ⟨k+1,a7,by omega,by go_num,by rw [←a2.o];exact bd.o,_,aK.o⟩
        case measure=>simp [intOf];omega
       ·obtain rfl:k=a.length:=by omega
        have bE:¬ ((a.length:Int)<(a.length:Int)):=by omega
        rw [show a.take a.length=a from Ae (zY _)] at f;obtain ⟨F,L⟩:∃F,z.tell (evNet a)=F:=⟨_,rfl⟩;have a0:=aa L;have aS:=aa (show DOk F from by rw [←L];exact a9.o.tell _);have a8:Hid (F.C=D.C):=aa (by rw [←L];show z.C=_;rw [←ae.o];rfl);rw [L] at f;obtain ⟨nm,km,hvm,_⟩:=f.o.at'.cfg.sl.m;obtain ⟨MS,hMS⟩:∃MS,F.C.mem.length=MS:=⟨_,rfl⟩;have c0:wr.cell? ⟨A.gd,0,none⟩=some (.slice nm MS km):=(f.o.at'.blk.c 0).trans (by rw [←hMS];exact congrArg some hvm);have bg:=aa hMS;have T:MS≤16:=by rw [←hMS];exact aS.o.cfg.m2
        clear L hvm hMS;go_wp2_with fail;go_loopw [96] (fun vi wr2=>∃(j:Nat) (vh:Value),j≤MS∧vi=.int .i64 j∧DSp B K w wr2 A { A with vo:=vo,vl:=vl,vh:=vh } (F.placeK j)) (fun vi _=>MS - (intOf vi).toNat)
        case atStart=>exact ⟨0,A.vh,Af _,rfl,f.o⟩
        case round=>
         obtain ⟨j,vh,hj,rfl,p⟩:=hrel;have g:=aa p;have bn:=p.mod.size;clear p;by_cases hlj:j<MS
         ·have bx:(0:Int)≤(j:Int):=by omega
          have bI:(j:Int)<(MS:Int):=by omega
          have N:=aa (aS.o.placeK j);have a4:=aa (aN.o.step g.o);have bC:=(aT j (z5 hj (z5 T (by decide)))).1;have bq:=(aT j (z5 hj (z5 T (by decide)))).2;have aI:Hid (F.placeK (j+1)=(F.placeK j).place ((F.placeK j).holdOf ((j:Int)+1))):=aa rfl;have ac:Hid ((F.placeK j).holdOf ((j:Int)+1)=⟨(j:Int)+1,8,(j:Int)+1,0,min ((F.placeK j).unheld ((j:Int)+1)) ((F.placeK j).risk ((j:Int)+1))⟩):=aa rfl;obtain ⟨DJ,aM⟩:∃DJ,F.placeK j=DJ:=⟨_,rfl⟩;rw [aM] at g N aI ac;have ay:=aa (kK g.o.at' N.o ((j:Int)+1));have q8:wr.cell? ⟨A.gd,8,none⟩=some (ptr A.gv):=g.o.at'.blk.c 8;obtain ⟨un,hun⟩:∃un,DJ.unheld ((j:Int)+1)=un:=⟨_,rfl⟩;obtain ⟨ri,hri⟩:∃ri,DJ.risk ((j:Int)+1)=ri:=⟨_,rfl⟩;have bb:=aa hri;rw [hun] at ay ac;rw [hri] at ac;clear aM hun hri;go_wp2_with (go_at_call 250;refine ay.o.mono ?_;rintro e w8 ⟨rfl,c8⟩;have aL:=aa (a4.o.keep c8);have i:=aa (g.o.keep c8);have q8:=i.o.at'.blk.c 8;clear c8)
          have N0:=aa (Near.start w8 B { A with vo:=vo,vl:=vl,vh:=vh } DJ i.o.at');go_region_held3 (fun W=>W.cell? ⟨A.gd,8,none⟩=some (ptr A.gv)) (first | exact q8 | exact s1 | exact s2 | exact s3 | assumption | go_keep)
           (first
            | (go_at_call 138;refine (eo ((j:Int)+1) _).mono ?_;rintro e x1 ⟨rfl,rfl⟩;(first | have N1:=aa (N2.o.alloc (.cells (acs ⟨8,(j:Int)+1⟩) 81)) | have N1:=aa (N0.o.alloc (.cells (acs ⟨8,(j:Int)+1⟩) 81)));have s1:=N1.o.2.blk.c 8)
            | (go_at_call 252;refine (tA (A:={ A with vo:=vo,vl:=vl,vh:=vh }) (D:=DJ) (B:=B) (by first | exact N1.o.2 | exact N0.o.2) N.o ((j:Int)+1)).mono ?_;rintro e x2 ⟨rfl,c9⟩;rw [bb.o];(first | have N2:=aa (N1.o.keep c9) | have N2:=aa (N0.o.keep c9));have s2:=N2.o.2.blk.c 8;clear c9)
            | (go_at_call 251;(first | (refine (gB (A:={ A with vo:=vo,vl:=vl,vh:=vh }) (D:=DJ) (K:=K) N2.o.2 N.o (aL.o.keep N2.o.1) (z5 hB (z5 i.o.mod.size N2.o.1.size)) ⟨(j:Int)+1,8,(j:Int)+1,0,min un ri⟩).mono ?_;rintro e x3 ⟨aC,rr,rfl,M⟩;have az:=aa ((i.o.keep N2.o.1).trans M)) | (refine (gB (A:={ A with vo:=vo,vl:=vl,vh:=vh }) (D:=DJ) (K:=K) N1.o.2 N.o (aL.o.keep N1.o.1) (z5 hB (z5 i.o.mod.size N1.o.1.size)) ⟨(j:Int)+1,8,(j:Int)+1,0,min un ri⟩).mono ?_;rintro e x3 ⟨aC,rr,rfl,M⟩;have az:=aa ((i.o.keep N1.o.1).trans M)));have s3:=M.at'.blk.c 8;clear M))
          all_goals
           rename_i n
           clear n s1 s2 s3;go_wp2_with fail;go_roundw
           case rel=>exact ⟨j+1,aC,hlj,by first | rfl | go_num,by rw [aI.o,ac.o];exact az.o⟩
           case measure=>exact ar hlj
         ·obtain rfl:j=MS:=by omega
          have bF:¬ ((j:Int)<(j:Int)):=by omega
          go_wp2_with fail;go_ret;refine ⟨0,_,_,rfl,g.o,?_⟩;unfold NetRel;rw [if_neg (by simpa using ad.o),if_neg (by have:=I.o;omega)];refine ⟨a,0,S.o,?_⟩;rw [if_neg (by simp),aq.o,if_neg (by simp),ax.o,av.o,if_neg (by simp)];refine ⟨rfl,?_⟩;unfold DS.netted;rw [ae.o,a0.o,←a8.o,bg.o]
end
end Go.Proofs.YtmhohaanddglbaaGreatDoor
namespace Go.Proofs
open Go.Shelf
def Tryz.l351_ren:Go.Shelf.Ren:=⟨fun | 4=>351 | n=>n,fun | 22=>74 | 25=>3 | 3=>3 | 4=>4 | 9=>9 | 20=>20 | 0=>0 | n=>n,fun | n=>n⟩
theorem Tryz.l351:Go.Proofs.Lays8.n4 Tryz.prog Tryz.l351_ren:={
 mixed:=by kernel_rfl
 f4:=⟨Tryz.f351.name,by decide,Tryz.func351.trans (congrArg some (by kernel_rfl))⟩
 t0:=Tryz.underlying0
 a0:=Tryz.isAgg0
 z0:=Tryz.sizeOf0
 v0:=Tryz.zeroValue0
 t3:=Tryz.underlying3
 a3:=Tryz.isAgg3
 z3:=Tryz.sizeOf3
 v3:=Tryz.zeroValue3
 t4:=Tryz.underlying4
 a4:=Tryz.isAgg4
 z4:=Tryz.sizeOf4
 v4:=Tryz.zeroValue4
 t9:=Tryz.underlying9
 a9:=Tryz.isAgg9
 z9:=Tryz.sizeOf9
 v9:=Tryz.zeroValue9
 t20:=Tryz.underlying20
 a20:=Tryz.isAgg20
 z20:=Tryz.sizeOf20
 v20:=Tryz.zeroValue20
 t22:=Tryz.underlying74
 a22:=Tryz.isAgg74
 z22:=Tryz.sizeOf74
 v22:=Tryz.zeroValue74 }
def Tryz.l364_ren:Go.Shelf.Ren:=⟨fun | 4=>364 | n=>n,fun | 22=>66 | 25=>120 | 3=>3 | 4=>4 | 9=>9 | 20=>20 | 0=>0 | n=>n,fun | n=>n⟩
theorem Tryz.l364:Go.Proofs.Lays8.n4 Tryz.prog Tryz.l364_ren:={
 mixed:=by kernel_rfl
 f4:=⟨Tryz.f364.name,by decide,Tryz.func364.trans (congrArg some (by kernel_rfl))⟩
 t0:=Tryz.underlying0
 a0:=Tryz.isAgg0
 z0:=Tryz.sizeOf0
 v0:=Tryz.zeroValue0
 t3:=Tryz.underlying3
 a3:=Tryz.isAgg3
 z3:=Tryz.sizeOf3
 v3:=Tryz.zeroValue3
 t4:=Tryz.underlying4
 a4:=Tryz.isAgg4
 z4:=Tryz.sizeOf4
 v4:=Tryz.zeroValue4
 t9:=Tryz.underlying9
 a9:=Tryz.isAgg9
 z9:=Tryz.sizeOf9
 v9:=Tryz.zeroValue9
 t20:=Tryz.underlying20
 a20:=Tryz.isAgg20
 z20:=Tryz.sizeOf20
 v20:=Tryz.zeroValue20
 t22:=Tryz.underlying66
 a22:=Tryz.isAgg66
 z22:=Tryz.sizeOf66
 v22:=Tryz.zeroValue66 }
def Tryz.l363_ren:Go.Shelf.Ren:=⟨fun | 7=>363 | 10=>378 | n=>n,fun | 23=>409 | 26=>3 | 3=>45 | 28=>438 | 0=>0 | 27=>437 | 33=>116 | 4=>4 | n=>n,fun | n=>n⟩
theorem Tryz.l363:Go.Proofs.SlLaysZI.n7 Tryz.prog Tryz.l363_ren:={
 mixed:=by kernel_rfl
 f7:=⟨Tryz.f363.name,by decide,Tryz.func363.trans (congrArg some (by kernel_rfl))⟩
 f10:=⟨Tryz.f378.name,by decide,Tryz.func378.trans (congrArg some (by kernel_rfl))⟩
 t0:=Tryz.underlying0
 a0:=Tryz.isAgg0
 z0:=Tryz.sizeOf0
 v0:=Tryz.zeroValue0
 t4:=Tryz.underlying4
 a4:=Tryz.isAgg4
 z4:=Tryz.sizeOf4
 v4:=Tryz.zeroValue4
 t23:=Tryz.underlying409
 a23:=Tryz.isAgg409
 z23:=Tryz.sizeOf409
 v23:=Tryz.zeroValue409
 t26:=Tryz.underlying3
 a26:=Tryz.isAgg3
 z26:=Tryz.sizeOf3
 v26:=Tryz.zeroValue3
 t27:=Tryz.underlying437
 a27:=Tryz.isAgg437
 z27:=Tryz.sizeOf437
 v27:=Tryz.zeroValue437
 t28:=Tryz.underlying438
 a28:=Tryz.isAgg438
 z28:=Tryz.sizeOf438
 v28:=Tryz.zeroValue438
 t33:=Tryz.underlying116
 a33:=Tryz.isAgg116
 z33:=Tryz.sizeOf116
 v33:=Tryz.zeroValue116 }
def Tryz.l362_ren:Go.Shelf.Ren:=⟨fun | 6=>362 | 8=>377 | 9=>349 | 11=>396 | 13=>371 | 12=>370 | 23=>390 | 24=>391 | 14=>381 | 15=>382 | 16=>383 | 17=>384 | 18=>385 | 19=>386 | 20=>387 | 21=>388 | 22=>389 | 25=>399 | 26=>400 | 27=>401 | 28=>402 | 29=>403 | 30=>404 | 31=>406 | n=>n,fun | 26=>3 | 28=>438 | 24=>74 | 0=>0 | 3=>3 | 37=>158 | 48=>460 | 50=>102 | 4=>4 | 40=>454 | 39=>453 | 45=>151 | 5=>5 | 9=>9 | 51=>467 | 55=>471 | 57=>475 | 58=>476 | 33=>116 | n=>n,fun | n=>n⟩
theorem Tryz.l362:Go.Proofs.SlLaysZI.n6 Tryz.prog Tryz.l362_ren:={
 mixed:=by kernel_rfl
 f6:=⟨Tryz.f362.name,by decide,Tryz.func362.trans (congrArg some (by kernel_rfl))⟩
 f8:=⟨Tryz.f377.name,by decide,Tryz.func377.trans (congrArg some (by kernel_rfl))⟩
 f11:=⟨Tryz.f396.name,by decide,Tryz.func396.trans (congrArg some (by kernel_rfl))⟩
 t0:=Tryz.underlying0
 a0:=Tryz.isAgg0
 z0:=Tryz.sizeOf0
 v0:=Tryz.zeroValue0
 t24:=Tryz.underlying74
 a24:=Tryz.isAgg74
 z24:=Tryz.sizeOf74
 v24:=Tryz.zeroValue74
 t26:=Tryz.underlying3
 a26:=Tryz.isAgg3
 z26:=Tryz.sizeOf3
 v26:=Tryz.zeroValue3
 t28:=Tryz.underlying438
 a28:=Tryz.isAgg438
 z28:=Tryz.sizeOf438
 v28:=Tryz.zeroValue438
 i26:=by kernel_rfl }
def Tryz.l349_ren:Go.Shelf.Ren:=⟨fun | 5=>349 | 8=>371 | 7=>370 | 19=>390 | 20=>391 | 10=>381 | 11=>382 | 12=>383 | 13=>384 | 14=>385 | 15=>386 | 16=>387 | 17=>388 | 18=>389 | 30=>399 | 31=>400 | 32=>401 | 33=>402 | 34=>403 | 35=>404 | 40=>406 | n=>n,fun | 23=>74 | 25=>3 | 3=>3 | 32=>158 | 22=>74 | 0=>0 | 44=>460 | 46=>102 | 4=>4 | 36=>454 | 35=>453 | 41=>151 | 5=>5 | 9=>9 | 53=>467 | 57=>471 | 63=>475 | 64=>476 | n=>n,fun | n=>n⟩
theorem Tryz.l349:Go.Proofs.SlLaysM.n5 Tryz.prog Tryz.l349_ren:={
 mixed:=by kernel_rfl
 f5:=⟨Tryz.f349.name,by decide,Tryz.func349.trans (congrArg some (by kernel_rfl))⟩
 f7:=⟨Tryz.f370.name,by decide,Tryz.func370.trans (congrArg some (by kernel_rfl))⟩
 f8:=Tryz.func371.trans (congrArg some (by kernel_rfl))
 f10:=⟨Tryz.f381.name,by decide,Tryz.func381.trans (congrArg some (by kernel_rfl))⟩
 f11:=⟨Tryz.f382.name,by decide,Tryz.func382.trans (congrArg some (by kernel_rfl))⟩
 f12:=⟨Tryz.f383.name,by decide,Tryz.func383.trans (congrArg some (by kernel_rfl))⟩
 f13:=⟨Tryz.f384.name,by decide,Tryz.func384.trans (congrArg some (by kernel_rfl))⟩
 f14:=⟨Tryz.f385.name,by decide,Tryz.func385.trans (congrArg some (by kernel_rfl))⟩
 f15:=⟨Tryz.f386.name,by decide,Tryz.func386.trans (congrArg some (by kernel_rfl))⟩
 f16:=⟨Tryz.f387.name,by decide,Tryz.func387.trans (congrArg some (by kernel_rfl))⟩
 f17:=⟨Tryz.f388.name,by decide,Tryz.func388.trans (congrArg some (by kernel_rfl))⟩
 f18:=⟨Tryz.f389.name,by decide,Tryz.func389.trans (congrArg some (by kernel_rfl))⟩
 f19:=Tryz.func390.trans (congrArg some (by kernel_rfl))
 f20:=Tryz.func391.trans (congrArg some (by kernel_rfl))
 f30:=⟨Tryz.f399.name,by decide,Tryz.func399.trans (congrArg some (by kernel_rfl))⟩
 f31:=Tryz.func400.trans (congrArg some (by kernel_rfl))
 f32:=Tryz.func401.trans (congrArg some (by kernel_rfl))
 f33:=⟨Tryz.f402.name,by decide,Tryz.func402.trans (congrArg some (by kernel_rfl))⟩
 f34:=⟨Tryz.f403.name,by decide,Tryz.func403.trans (congrArg some (by kernel_rfl))⟩
 f35:=⟨Tryz.f404.name,by decide,Tryz.func404.trans (congrArg some (by kernel_rfl))⟩
 f40:=⟨Tryz.f406.name,by decide,Tryz.func406.trans (congrArg some (by kernel_rfl))⟩
 t0:=Tryz.underlying0
 a0:=Tryz.isAgg0
 z0:=Tryz.sizeOf0
 v0:=Tryz.zeroValue0
 t3:=Tryz.underlying3
 a3:=Tryz.isAgg3
 z3:=Tryz.sizeOf3
 v3:=Tryz.zeroValue3
 t4:=Tryz.underlying4
 a4:=Tryz.isAgg4
 z4:=Tryz.sizeOf4
 v4:=Tryz.zeroValue4
 t5:=Tryz.underlying5
 a5:=Tryz.isAgg5
 z5:=Tryz.sizeOf5
 v5:=Tryz.zeroValue5
 t9:=Tryz.underlying9
 a9:=Tryz.isAgg9
 z9:=Tryz.sizeOf9
 v9:=Tryz.zeroValue9
 t22:=Tryz.underlying74
 a22:=Tryz.isAgg74
 z22:=Tryz.sizeOf74
 v22:=Tryz.zeroValue74
 t23:=Tryz.underlying74
 a23:=Tryz.isAgg74
 z23:=Tryz.sizeOf74
 v23:=Tryz.zeroValue74
 t25:=Tryz.underlying3
 a25:=Tryz.isAgg3
 z25:=Tryz.sizeOf3
 v25:=Tryz.zeroValue3
 t32:=Tryz.underlying158
 a32:=Tryz.isAgg158
 z32:=Tryz.sizeOf158
 v32:=Tryz.zeroValue158
 t35:=Tryz.underlying453
 a35:=Tryz.isAgg453
 z35:=Tryz.sizeOf453
 v35:=Tryz.zeroValue453
 t36:=Tryz.underlying454
 a36:=Tryz.isAgg454
 z36:=Tryz.sizeOf454
 v36:=Tryz.zeroValue454
 t41:=Tryz.underlying151
 a41:=Tryz.isAgg151
 z41:=Tryz.sizeOf151
 v41:=Tryz.zeroValue151
 t44:=Tryz.underlying460
 a44:=Tryz.isAgg460
 z44:=Tryz.sizeOf460
 v44:=Tryz.zeroValue460
 t46:=Tryz.underlying102
 a46:=Tryz.isAgg102
 z46:=Tryz.sizeOf102
 v46:=Tryz.zeroValue102
 t53:=Tryz.underlying467
 a53:=Tryz.isAgg467
 z53:=Tryz.sizeOf467
 v53:=Tryz.zeroValue467
 t57:=Tryz.underlying471
 a57:=Tryz.isAgg471
 z57:=Tryz.sizeOf471
 v57:=Tryz.zeroValue471
 t63:=Tryz.underlying475
 a63:=Tryz.isAgg475
 z63:=Tryz.sizeOf475
 v63:=Tryz.zeroValue475
 t64:=Tryz.underlying476
 a64:=Tryz.isAgg476
 z64:=Tryz.sizeOf476
 v64:=Tryz.zeroValue476 }
end Go.Proofs
namespace Go.Proofs.YtmhohaanddglbaaGreatDoor
open Go.RowKit Go.Proofs
section
attribute [local go_sem ↓] Go.wp_at_zero Go.wp_at_succ
theorem zq (n:Nat)(w:World)(hn:n≤200000):Calls Tryz.prog 351 #[.slice none 0 0,.int .i64 n] w fun e w'=>∃v,e=.returned v∧w'.ownsRow w.heap.size 3 1 v 0 []∧Bw w w':=by
 obtain ⟨d,j,c,g,b⟩:=info_parts im;rcases Nat.eq_zero_or_pos n with rfl | hp
 ·exact (Any8.slices_Grow_room Tryz.l351 none 0 0 0 w (zY _) (by omega) (by omega) (by omega)).mono fun e w' ⟨he,hw⟩=>⟨_,he,by rw [hw];exact World.ownsRow_nil _ _ _ _,by rw [hw];exact zZ _ _⟩
 ·refine (Any8.slices_Grow_grow Tryz.l351 d (.int .i64 0) j c (by omega) none 0 0 n [] w (zY _) (by omega) (by rw [b];omega) (by omega) (by simp) (fun _=>rfl) (fun a h=>by cases h)).mono ?_;rintro e w' ⟨rfl,rfl⟩;have k:=grownCap_ge w (0+n) 0 3;have f:=grownCap_le_maxLen w (0+n) 0 3 (by unfold maxLen;omega);refine ⟨_,rfl,Ba w.drew _ (grownCap w (0+n) 0 3) (zY _) f ?_,(zZ _ _).drew.alloc (zY _) _⟩;have i:(Value.int .i64 0).cells.size=1:=rfl;simp only [Array.size_append,size_zeroCells,AP,AL,i];show 0+(0+n - 0) * 1+(grownCap w (0+n) 0 3 - (0+n)) * 1=grownCap w (0+n) 0 3 * 1
  omega
theorem zr (n:Nat)(w:World)(hn:n≤200000):Calls Tryz.prog 364 #[.slice none 0 0,.int .i64 n] w fun e w'=>∃v,e=.returned v∧w'.ownsRow w.heap.size 120 3 v 0 []∧Bw w w':=by
 obtain ⟨d,j,c,g,b⟩:=info_parts bt;rcases Nat.eq_zero_or_pos n with rfl | hp
 ·exact (Any8.slices_Grow_room Tryz.l364 none 0 0 0 w (zY _) (by omega) (by omega) (by omega)).mono fun e w' ⟨he,hw⟩=>⟨_,he,by rw [hw];exact World.ownsRow_nil _ _ _ _,by rw [hw];exact zZ _ _⟩
 ·refine (Any8.slices_Grow_grow Tryz.l364 d (.agg #[.int .i64 0,.int .i64 0,.int .i64 0]) j c (by omega) none 0 0 n [] w (zY _) (by omega) (by rw [b];omega) (by omega) (by simp) (fun _=>rfl) (fun a h=>by cases h)).mono ?_;rintro e w' ⟨rfl,rfl⟩;have k:=grownCap_ge w (0+n) 0 120;have f:=grownCap_le_maxLen w (0+n) 0 120 (by unfold maxLen;omega);refine ⟨_,rfl,Ba w.drew _ (grownCap w (0+n) 0 120) (zY _) f ?_,(zZ _ _).drew.alloc (zY _) _⟩;have i:(Value.agg #[Value.int .i64 0,Value.int .i64 0,Value.int .i64 0]).cells.size=3:=rfl;simp only [Array.size_append,size_zeroCells,AP,AL,i];show 0+(0+n - 0) * 3+(grownCap w (0+n) 0 120 - (0+n)) * 3=grownCap w (0+n) 0 120 * 3
  omega
theorem fc {w wr:World}{g:Nat}{u1 u2:Value}(hg:Blk w g 74 #[u1,u2])(hb:Bw w wr):wr.cell? ⟨g,0,none⟩=some u1∧wr.cell? ⟨g,0+1,none⟩=some u2:=⟨(hg.keep hb).c 0,(hg.keep hb).c 1⟩
theorem tF (g:Nat)(u1 u2:Value)(l1 l2:List Int)(w:World)(hg:Blk w g 74 #[u1,u2])(h1:Sl eI 1 w u1 l1)(h2:Sl eI 1 w u2 l2)(hn1:l1.length≤90000)(hn2:l2.length≤90000):Calls Tryz.prog 318 #[.slice (some ⟨g,0,none⟩) 2 2] w (RPo eI 3 1 (l1++l2) w):=by
 have r:=aa hg;have u:=aa h1;have x:=aa h2;obtain ⟨y,z,rfl,_⟩:=h1;obtain ⟨a2,c2,rfl,_⟩:=h2;obtain ⟨i0,hi,hz0,hz1,hz2⟩:=info_parts im;have k:Hid (wrap64 ((l1.length:Int)+(l2.length:Int))=((l1.length+l2.length:Nat):Int)):=aa (by unfold wrap64;omega);clear hg;go_enter Tryz.func318,Tryz.ntmps318;go_wp2_with fail;go_loopw [3,11] (fun vs vi wr=>w=wr∧((vi=.int .i64 (0:Nat)∧vs=.int .i64 (0:Nat))∨(vi=.int .i64 (1:Nat)∧vs=.int .i64 (l1.length:Nat))∨(vi=.int .i64 (2:Nat)∧vs=.int .i64 ((l1.length+l2.length:Nat):Int)))) (fun _ vi _=>2 - (intOf vi).toNat)
 case atStart=>exact ⟨rfl,Or.inl ⟨rfl,rfl⟩⟩
 case round=>
  obtain ⟨rfl,f⟩:=hrel;obtain ⟨q0,q1⟩:=fc r.o (zZ _ _);rcases f with ⟨rfl,rfl⟩ | ⟨rfl,rfl⟩ | ⟨rfl,rfl⟩
  ·have t:¬ ((l1.length:Int)<0):=by omega
   have s:wrap64 (0+(l1.length:Int))=(l1.length:Int):=by unfold wrap64;omega
   go_wp2_with fail;go_roundw
   case rel=>exact ⟨by first | trivial | rfl,Or.inr (Or.inl ⟨rfl,rfl⟩)⟩
   case measure=>decide
  ·have t:¬ (((l1.length+l2.length:Nat):Int)<0):=by omega
   have s:=k.o;have A:¬ ((l1.length:Int)+(l2.length:Int)<0):=by omega
   go_wp2_with fail;go_roundw
   case rel=>exact ⟨by first | trivial | rfl,Or.inr (Or.inr ⟨rfl,by simp⟩)⟩
   case measure=>decide
  ·have i:=aa (zq (l1.length+l2.length) w (by omega));go_wp2_with (go_at_call 351;refine i.o.mono ?_;rintro e C ⟨B,rfl,j,p⟩;have l:=aa j;have m:=ag j;obtain ⟨n5,k5,rfl⟩:=m;have n:=p.size;clear j)
   go_loopw [6,27] (fun vo vi wr2=>Bw w wr2∧((vi=.int .i64 (0:Nat)∧wr2.ownsRow w.heap.size 3 1 vo 0 [])∨(vi=.int .i64 (1:Nat)∧wr2.ownsRow w.heap.size 3 1 vo l1.length (flat eI l1))∨(vi=.int .i64 (2:Nat)∧wr2.ownsRow w.heap.size 3 1 vo (l1++l2).length (flat eI (l1++l2))))) (fun _ vi _=>2 - (intOf vi).toNat)
   case atStart=>exact ⟨p,Or.inl ⟨rfl,l.o⟩⟩
   case round=>
    obtain ⟨a,f⟩:=hrel;obtain ⟨q0,q1⟩:=fc r.o a;rcases f with ⟨rfl,ho⟩ | ⟨rfl,ho⟩ | ⟨rfl,ho⟩
    ·have b:=aa ho;obtain ⟨c,d,rfl⟩:=ag ho;clear ho;go_wp2_with (at_builtin;refine aq kI (by decide) dL _ rfl _ _ 74 rfl w.heap.size 3 i0 (.int .i64 0) 8 Tryz.underlying74 hi hz0 hz1 hz2 (by rfl) (.slice c 0 d) [] rfl b.o y z l1 rfl (u.o.keep a) (by simp;unfold maxLen;omega) (by simp;omega) a.size ?_;intro v' w2 hown hgrow hat;have h:=a.grown hgrow a.size (fun q hq=>(b.o.lt q hq).1);rw [Bl] at hown;obtain ⟨n7,k7,rfl⟩:=ag hown;clear hgrow hat)
     go_roundw
     case rel=>exact ⟨h,Or.inr (Or.inl ⟨rfl,hown⟩)⟩
     case measure=>decide
    ·have b:=aa ho;obtain ⟨c,d,rfl⟩:=ag ho;clear ho;go_wp2_with (at_builtin;refine aq kI (by decide) dL _ rfl _ _ 74 rfl w.heap.size 3 i0 (.int .i64 0) 8 Tryz.underlying74 hi hz0 hz1 hz2 (by rfl) (.slice c l1.length d) l1 rfl b.o a2 c2 l2 rfl (x.o.keep a) (by unfold maxLen;omega) (by omega) a.size ?_;intro v' w2 hown hgrow hat;have h:=a.grown hgrow a.size (fun q hq=>(b.o.lt q hq).1);have v:=aa hown;rw [z8] at hown;obtain ⟨n7,k7,rfl⟩:=ag hown;clear hgrow hat hown)
     go_roundw
     case rel=>exact ⟨h,Or.inr (Or.inr ⟨rfl,v.o⟩)⟩
     case measure=>decide
    ·have b:=aa ho;rw [z8] at ho;obtain ⟨c,d,rfl⟩:=ag ho;clear ho;go_wp2_with fail;go_ret;exact ⟨_,rfl,b.o,a⟩
theorem fd {w wr:World}{g:Nat}{u1 u2:Value}(hg:Blk w g 66 #[u1,u2])(hb:Bw w wr):wr.cell? ⟨g,0,none⟩=some u1∧wr.cell? ⟨g,0+1,none⟩=some u2:=⟨(hg.keep hb).c 0,(hg.keep hb).c 1⟩
theorem tG (g:Nat)(u1 u2:Value)(l1 l2:List Lg)(w:World)(hg:Blk w g 66 #[u1,u2])(h1:Sl eLg 3 w u1 l1)(h2:Sl eLg 3 w u2 l2)(hn1:l1.length≤90000)(hn2:l2.length≤90000):Calls Tryz.prog 335 #[.slice (some ⟨g,0,none⟩) 2 2] w (RPo eLg 120 3 (l1++l2) w):=by
 have r:=aa hg;have u:=aa h1;have x:=aa h2;obtain ⟨y,z,rfl,_⟩:=h1;obtain ⟨a2,c2,rfl,_⟩:=h2;obtain ⟨i0,hi,hz0,hz1,hz2⟩:=info_parts bt;have k:Hid (wrap64 ((l1.length:Int)+(l2.length:Int))=((l1.length+l2.length:Nat):Int)):=aa (by unfold wrap64;omega);clear hg;go_enter Tryz.func335,Tryz.ntmps335;go_wp2_with fail;go_loopw [3,11] (fun vs vi wr=>w=wr∧((vi=.int .i64 (0:Nat)∧vs=.int .i64 (0:Nat))∨(vi=.int .i64 (1:Nat)∧vs=.int .i64 (l1.length:Nat))∨(vi=.int .i64 (2:Nat)∧vs=.int .i64 ((l1.length+l2.length:Nat):Int)))) (fun _ vi _=>2 - (intOf vi).toNat)
 case atStart=>exact ⟨rfl,Or.inl ⟨rfl,rfl⟩⟩
 case round=>
  obtain ⟨rfl,f⟩:=hrel;obtain ⟨q0,q1⟩:=fd r.o (zZ _ _);rcases f with ⟨rfl,rfl⟩ | ⟨rfl,rfl⟩ | ⟨rfl,rfl⟩
  ·have t:¬ ((l1.length:Int)<0):=by omega
   have s:wrap64 (0+(l1.length:Int))=(l1.length:Int):=by unfold wrap64;omega
   go_wp2_with fail;go_roundw
   case rel=>exact ⟨by first | trivial | rfl,Or.inr (Or.inl ⟨rfl,rfl⟩)⟩
   case measure=>decide
  ·have t:¬ (((l1.length+l2.length:Nat):Int)<0):=by omega
   have s:=k.o;have A:¬ ((l1.length:Int)+(l2.length:Int)<0):=by omega
   go_wp2_with fail;go_roundw
   case rel=>exact ⟨by first | trivial | rfl,Or.inr (Or.inr ⟨rfl,by simp⟩)⟩
   case measure=>decide
  ·have i:=aa (zr (l1.length+l2.length) w (by omega));go_wp2_with (go_at_call 364;refine i.o.mono ?_;rintro e C ⟨B,rfl,j,p⟩;have l:=aa j;have m:=ag j;obtain ⟨n5,k5,rfl⟩:=m;have n:=p.size;clear j)
   go_loopw [6,27] (fun vo vi wr2=>Bw w wr2∧((vi=.int .i64 (0:Nat)∧wr2.ownsRow w.heap.size 120 3 vo 0 [])∨(vi=.int .i64 (1:Nat)∧wr2.ownsRow w.heap.size 120 3 vo l1.length (flat eLg l1))∨(vi=.int .i64 (2:Nat)∧wr2.ownsRow w.heap.size 120 3 vo (l1++l2).length (flat eLg (l1++l2))))) (fun _ vi _=>2 - (intOf vi).toNat)
   case atStart=>exact ⟨p,Or.inl ⟨rfl,l.o⟩⟩
   case round=>
    obtain ⟨a,f⟩:=hrel;obtain ⟨q0,q1⟩:=fd r.o a;rcases f with ⟨rfl,ho⟩ | ⟨rfl,ho⟩ | ⟨rfl,ho⟩
    ·have b:=aa ho;obtain ⟨c,d,rfl⟩:=ag ho;clear ho;go_wp2_with (at_builtin;refine aq kLg (by decide) bL _ rfl _ _ 66 rfl w.heap.size 120 i0 (.agg #[.int .i64 0,.int .i64 0,.int .i64 0]) 24 Tryz.underlying66 hi hz0 hz1 hz2 (by rfl) (.slice c 0 d) [] rfl b.o y z l1 rfl (u.o.keep a) (by simp;unfold maxLen;omega) (by simp;omega) a.size ?_;intro v' w2 hown hgrow hat;have h:=a.grown hgrow a.size (fun q hq=>(b.o.lt q hq).1);rw [Bl] at hown;obtain ⟨n7,k7,rfl⟩:=ag hown;clear hgrow hat)
     go_roundw
     case rel=>exact ⟨h,Or.inr (Or.inl ⟨rfl,hown⟩)⟩
     case measure=>decide
    ·have b:=aa ho;obtain ⟨c,d,rfl⟩:=ag ho;clear ho;go_wp2_with (at_builtin;refine aq kLg (by decide) bL _ rfl _ _ 66 rfl w.heap.size 120 i0 (.agg #[.int .i64 0,.int .i64 0,.int .i64 0]) 24 Tryz.underlying66 hi hz0 hz1 hz2 (by rfl) (.slice c l1.length d) l1 rfl b.o a2 c2 l2 rfl (x.o.keep a) (by unfold maxLen;omega) (by omega) a.size ?_;intro v' w2 hown hgrow hat;have h:=a.grown hgrow a.size (fun q hq=>(b.o.lt q hq).1);have v:=aa hown;rw [z8] at hown;obtain ⟨n7,k7,rfl⟩:=ag hown;clear hgrow hat hown)
     go_roundw
     case rel=>exact ⟨h,Or.inr (Or.inr ⟨rfl,v.o⟩)⟩
     case measure=>decide
    ·have b:=aa ho;rw [z8] at ho;obtain ⟨c,d,rfl⟩:=ag ho;clear ho;go_wp2_with fail;go_ret;exact ⟨_,rfl,b.o,a⟩
def joinM (a b:List Int):List Int:=onceM (a++b)
theorem tH (u1 u2:Value)(l1 l2:List Int)(w:World)(h1:Sl eI 1 w u1 l1)(h2:Sl eI 1 w u2 l2)(hn1:l1.length≤40000)(hn2:l2.length≤40000):Calls Tryz.prog 257 #[u1,u2] w (RPo eI 3 1 (joinM l1 l2) w):=by
 have a:Bw w (w.alloc (.cells #[u1,u2] 74)):=Bn;have f:=aa (tF w.heap.size u1 u2 l1 l2 _ (Blk.new w 74 #[u1,u2]) (h1.keep a) (h2.keep a) (by omega) (by omega));have i:Hid (joinM l1 l2=onceM (l1++l2)):=aa rfl;have g:(l1++l2).length≤100000:=by rw [z8];omega
 obtain ⟨j,k,rfl,_⟩:=h1;obtain ⟨a2,c2,rfl,_⟩:=h2;generalize l1++l2=l at *;go_enter Tryz.func257,Tryz.ntmps257;go_wp2_with (first | (go_at_call 318;refine f.o.mono ?_;rintro e w1 ⟨v1,rfl,o1,b1⟩;have h:=aa (Sl.own kI o1);obtain ⟨n1,k1,rfl⟩:=ag o1;have c:=a.trans (b1.mono a.size);have b:=aa (kx _ l w1 h.o g);clear o1) | (go_at_call 317;refine b.o.mono ?_;rintro e w2 ⟨v2,rfl,o2,b2⟩;have d:=aa o2;obtain ⟨n2,k2,rfl⟩:=ag o2;clear o2))
 go_ret;rw [i.o];exact ⟨_,rfl,aw d.o c.size,c.trans (b2.mono c.size)⟩
end
end Go.Proofs.YtmhohaanddglbaaGreatDoor
namespace Go.Proofs.YtmhohaanddglbaaGreatDoor
open Go.RowKit
section
attribute [local go_sem ↓] Go.wp_at_zero Go.wp_at_succ
def zTm:Tm:=⟨0,0,0,0⟩
def tOut (l:List Tm)(P:List Nat)(k:Nat):List Tm:=(P.take k).map fun i=>l.getD i zTm
theorem zt (W:World)(u:Value):∀j v,([u]:List Value)[j]?=some v→(W.alloc (.cells #[u] 45)).cell? ((⟨W.heap.size,0,none⟩:Addr).add j)=some v:=by
 intro j v a;rw [Aj,Av,(Blk.new W 45 #[u]).c j];simpa using a
def SortPost (l:List Tm)(w:World)(e:Ending)(w':World):Prop:=∃v P,e=.returned v∧P.Perm (List.range l.length)∧(l.length<20→P=orderM (l.map keyT))∧w'.ownsRow w.heap.size 197 4 v (P.map fun i=>l.getD i zTm).length (flat eTm (P.map fun i=>l.getD i zTm))∧Bw w w'
theorem fe (v:Value)(l:List Tm)(w:World)(hv:Sl eTm 4 w v l)(hn:l.length≤9000):Calls Tryz.prog 196 #[v] w (SortPost l w):=by
 have HS:=aa hv;obtain ⟨n1,k1,rfl,_⟩:=hv;obtain ⟨i0,hi,hz0,hz1,hz2⟩:=info_parts fK;obtain ⟨j0,hj,hy0,hy1,hy2⟩:=info_parts yN;go_enter Tryz.func196,Tryz.ntmps196;go_wp2_with fail;go_loopw [3,11] (fun x3 vi wr=>∃(k:Nat) (vs:List Value) (vk:Value),k≤l.length∧vi=.int .i64 k∧vk=x3∧KeysOwn w.heap.size wr vk ((l.take k).map keyT) vs∧Bw w wr) (fun _ vi _=>l.length - (intOf vi).toNat)
 case atStart=>exact ⟨0,[],_,Af _,rfl,rfl,⟨rfl,⟨by simp [flat],Or.inl ⟨rfl,rfl⟩⟩,fun i hi=>absurd hi (by simp)⟩,zZ _ _⟩
 case round=>
  obtain ⟨k,vs,vk,hk,rfl,rfl,j,g⟩:=hrel;have t:=aa j;by_cases hlt:k<l.length
  ·obtain ⟨a',B,r,_,ax,M,C⟩:=HS.o;obtain ⟨V,U⟩:n1=a'∧k1=B:=by simpa using r
   subst V U;obtain ⟨b,s,rfl,n,D⟩:=C (by omega);obtain ⟨S,q1,q2,q3⟩:=jV (D k hlt);have r0:=(g.c (p:=⟨b,s+k * 4,none⟩) n).trans S;have r1:=(g.c (p:=⟨b,s+k * 4+1,none⟩) n).trans q1;have r2:=(g.c (p:=⟨b,s+k * 4+2,none⟩) n).trans q2;have r3:=(g.c (p:=⟨b,s+k * 4+3,none⟩) n).trans q3;have ao:(0:Int)≤(k:Int):=by omega
   have ai:(k:Int)<(l.length:Int):=by omega
   unfold maxLen at M;have F:Hid ((l.take (k+1)).map keyT=(l.take k).map keyT++[keyT l[k]]):=aa (by rw [z9 hlt,AI];rfl);have ae:((l.take k).map keyT).length≤k:=by rw [Ad,Aa];omega
   obtain ⟨KS,T⟩:∃KS,(l.take k).map keyT=KS:=⟨_,rfl⟩;rw [T] at t F j ae;generalize l[k]=x at *;have hf:=ag j.own;obtain ⟨nk,kk,rfl⟩:=hf;obtain ⟨KL,hKL⟩:∃KL,KS.length=KL:=⟨_,rfl⟩;have G:=aa hKL;rw [hKL] at t ae ⊢;have cA:Bw wr (wr.alloc (.cells (cTm x) 197)):=Bn;have bA:=g.trans (cA.mono g.size);have al:=aa (t.o.keep cA);have W:=aa (xo x (wr.alloc (.cells (cTm x) 197)));clear D S q1 q2 q3 C r j T hKL
   go_wp2_with (first | (go_at_call 243;refine W.o.mono ?_;rintro e Q ⟨u,rfl,R,c2⟩;have ak:=aa R;obtain ⟨nu,ku,rfl⟩:=ag R;have b2:=bA.trans (c2.mono bA.size);have K:=aa ((al.o.keep c2).keep ((zZ Q.heap.size Q).alloc (zY _) (.cells #[.slice nu (keyT x).length ku] 45)));have ay:=aa (aw (ah ak.o ((zZ Q.heap.size Q).alloc (zY _) (.cells #[.slice nu (keyT x).length ku] 45))) bA.size);have b3:=b2.alloc b2.size (.cells #[.slice nu (keyT x).length ku] 45);have a1:=aa (zt Q (.slice nu (keyT x).length ku));clear R c2) | (at_builtin;refine wpList_append_own_at _ rfl _ _ 313 rfl w.heap.size 45 j0 (.slice none 0 0) 1 24 Tryz.underlying313 hj hy0 hy1 hy2 rfl (by decide) (.slice nk KL kk) KL (flat eV vs) rfl (by have:=K.o.own;first | exact this | (rw [G.o] at this;exact this)) ⟨Q.heap.size,0,none⟩ 1 1 [.slice nu (keyT x).length ku] rfl rfl (by exact a1.o) (by intro u R;simp at R;subst R;rfl) (by unfold maxLen;omega) (by omega) (by exact b3.size) ?_;intro vk' W6 a f _ O;have ar:=aa (K.o.grow (u:=.slice nu (keyT x).length ku) (z:=keyT x) ay.o (by first | exact f | (rw [G.o];exact f)) (by rw [G.o];exact a));have b6:=b3.grown f b3.size (fun q hq=>(K.o.own.lt q (by first | exact hq | (rw [G.o];exact hq))).1);obtain ⟨nk',kk',rfl⟩:=ag a;clear a f O))
   go_roundw
   case rel=>exact ⟨k+1,_,_,by omega,by go_num,rfl,by rw [F.o];exact ar.o,b6⟩
   case measure=>simp [intOf];omega
  ·obtain rfl:k=l.length:=by omega
   have au:¬ ((l.length:Int)<(l.length:Int)):=by omega
   rw [Ap] at t j;have X:(l.map keyT).length≤10000:=by rw [Ad];omega
   have ab:=iQ vk _ vs wr t.o.at X;have hf:=ag j.own;rw [Ad] at hf;obtain ⟨nk,kk,rfl⟩:=hf;have ap:=aa ab;have aj:=g.size;clear ab X j;go_wp2_with (go_at_call 244;refine ap.o.mono ?_;rintro e w5 ⟨v5,P,rfl,hown5,hperm,hx,c5⟩;rw [Ad] at hown5 hperm hx;have Y:=aa hown5;obtain ⟨n5,k5,rfl⟩:=ag hown5;have N:=aa hperm;have HX:=aa hx;clear hown5 hperm hx)
   have I:P.length=l.length:=by simpa using N.o.length_eq
   have av:=aa (Sl.own kI (l:=P.map fun i:Nat=>(i:Int)) (by rw [Ad,I];exact Y.o));have am:=aa ((HS.o.keep g).keep c5);have ac:=g.trans (c5.mono aj);have H:=ac.size;have af:Hid (∀i∈P,i<l.length):=aa fun i hi=>by simpa using N.o.mem_iff.1 hi
   have A:=aa I;clear I Y c5;go_loopw [6,24] (fun vo vi wr2=>∃k:Nat,k≤l.length∧vi=.int .i64 k∧wr2.ownsRow w5.heap.size 197 4 vo (tOut l P k).length (flat eTm (tOut l P k))∧Bw w5 wr2) (fun _ vi _=>l.length - (intOf vi).toNat)
   case atStart=>exact ⟨0,Af _,rfl,⟨by simp [flat,tOut],Or.inl ⟨rfl,rfl⟩⟩,zZ _ _⟩
   case round=>
    obtain ⟨k,hk,rfl,a,h⟩:=hrel;have HO:=aa a;obtain ⟨no,ko,rfl⟩:=ag a;clear a;by_cases hlt:k<l.length
    ·obtain ⟨a',B,r,_,ax,M,C⟩:=av.o;rw [Ad,A.o] at r;have J:k<P.length:=by rw [A.o];exact hlt
     have an:k<(P.map fun i:Nat=>(i:Int)).length:=by rw [Ad];exact J
     obtain ⟨V,U⟩:n5=a'∧k5=B:=by simpa using r
     subst V U;obtain ⟨b,s,rfl,n,D⟩:=C (by omega);have S:=D k an 0 _ rfl;rw [A0,AU,AW] at S;have r0:=(h.c (p:=⟨b,s+k,none⟩) n).trans S;have Z:P[k]<l.length:=af.o _ (Ag J);obtain ⟨a'',cap'',hu',_,g1',g2',gc'⟩:=am.o;obtain ⟨V,U⟩:n1=a''∧k1=cap'':=by simpa using hu'
     subst V U;obtain ⟨d,m,rfl,E,ad⟩:=gc' (by omega);obtain ⟨p0,p1,p2,p3⟩:=jV (ad P[k] Z);have r1:=(h.c (p:=⟨d,m+P[k] * 4,none⟩) E).trans p0;have r2:=(h.c (p:=⟨d,m+P[k] * 4+1,none⟩) E).trans p1;have r3:=(h.c (p:=⟨d,m+P[k] * 4+2,none⟩) E).trans p2;have r4:=(h.c (p:=⟨d,m+P[k] * 4+3,none⟩) E).trans p3;have ao:(0:Int)≤(k:Int):=by omega
     have ai:(k:Int)<(l.length:Int):=by omega
     have aC:(0:Int)≤(P[k]:Int):=by omega
     have aB:(P[k]:Int)<(l.length:Int):=by omega
     unfold maxLen at M g2';have F:Hid (tOut l P (k+1)=tOut l P k++[l[P[k]]]):=aa (by
      unfold tOut;rw [z9 J,AI];simp only [Am,List.map_nil];rw [Ah,Ab Z];rfl)
     have aA:(tOut l P k).length≤k:=by unfold tOut;rw [Ad,Aa];omega
     clear D ad S p0 p1 p2 p3 C gc' r hu';generalize tOut l P k=L at *;generalize l[P[k]]=y at *;generalize P[k]=pk at *;have az:=h.size;go_wp2_with (at_builtin;refine aq kTm (by decide) oneTm _ rfl _ _ 148 rfl w5.heap.size 197 i0 (.agg #[.int .i64 0,.int .i64 0,.int .i64 0,.int .i64 0]) 32 Tryz.underlying148 hi hz0 hz1 hz2 (by rfl) (.slice no L.length ko) L rfl (HO.o.alloc _) (some ⟨wr.heap.size,0,none⟩) 1 [y] rfl (Sl.one1b eTm kTm _ 197 _ (by rfl) _ rfl) (by show L.length+1≤maxLen;unfold maxLen;omega) (by show (L.length+1) * 32≤_;omega) (h.alloc h.size (.cells (cTm y) 197)).size ?_;intro v' Q a f O;have b4:=(h.alloc h.size (.cells (cTm y) 197)).grown f (h.alloc h.size _).size (fun q hq=>(HO.o.lt q hq).1);rw [←F.o] at a;obtain ⟨n2,k2,rfl⟩:=ag a;clear f O)
     go_roundw
     case rel=>exact ⟨k+1,by omega,by go_num,a,b4⟩
     case measure=>simp [intOf];omega
    ·obtain rfl:k=l.length:=by omega
     have au:¬ ((l.length:Int)<(l.length:Int)):=by omega
     have HE:Hid (tOut l P l.length=P.map fun i=>l.getD i zTm):=aa (by unfold tOut;rw [Ae (by rw [A.o];exact zY _)]);go_wp2_with fail;go_ret;refine ⟨_,P,rfl,N.o,HX.o,?_,ac.trans (h.mono H)⟩;rw [←HE.o];exact aw HO.o H
structure WheelAt (w:World)(B g:Nat)(room:Int)(v:Value)(l:List Tm):Prop where
 blk:Blk w g 150 #[.int .i64 room,v]
 own:w.ownsRow B 197 4 v l.length (flat eTm l)
 l1:B≤g
theorem WheelAt.keep {w w':World}{B g:Nat}{room:Int}{v:Value}{l:List Tm}(h:WheelAt w B g room v l)(c:Bw w w'):WheelAt w' B g room v l:=⟨h.blk.keep c,ah h.own c,h.l1⟩
theorem tI {w:World}{B g:Nat}{room:Int}{v:Value}{l:List Tm}(h:WheelAt w B g room v l)(hn:l.length≤9000):Calls Tryz.prog 168 #[ptr g] w (SortPost l w):=by
 have a:=ag h.own;obtain ⟨m,j,rfl⟩:=a;have k:=h.blk.c 1;have d:=aa (fe _ l w (Sl.own kTm h.own) hn);clear h;go_enter Tryz.func168,Tryz.ntmps168;go_wp2_with (go_at_call 196;refine d.o.mono ?_;rintro e w1 ⟨v1,P,rfl,hp,hx,ho,hb⟩;rw [Ad] at ho;have b:=aa ho;have f:=aa hp;have i:=aa hx;obtain ⟨n2,k2,rfl⟩:=ag ho;clear ho hp hx)
 go_ret;exact ⟨_,P,rfl,f.o,i.o,by rw [Ad];exact b.o,hb⟩
def PredTm (g:Nat)(lb:Array Value)(p:Tm→Bool)(w:World):Prop:=∀(W:World)(x:Tm),Bw w W→Calls Tryz.prog g (#[vTm x]++lb) W fun e w'=>e=.returned (.bool (p x))∧Bw W w'
theorem ff {α:Type}(p:α→Bool)(l:List α)(k:Nat)(h:k<l.length):(l.take (k+1)).filter p=(l.take k).filter p++(if p l[k] then [l[k]] else []):=by
 rw [z9 h,List.filter_append];congr 1
 simp only [List.filter_cons,List.filter_nil]
def Apart (u v:Value):Prop:=u.ownBlock=none∨u.ownBlock≠v.ownBlock
theorem Apart.symm {u v:Value}(h:Apart u v):Apart v u:=by
 rcases h with h | h
 ·cases hv:v.ownBlock with
  | none=>exact Or.inl hv
  | some g=>exact Or.inr (by rw [h,hv];simp)
 ·exact Or.inr (Ne.symm h)
theorem dz {w w':World}{B T k n:Nat}{u v:Value}{xs:List Value}(ho:w.ownsRow B T k u n xs)(hg:w.grownBy w' v.ownBlock)(ha:Apart u v):w'.ownsRow B T k u n xs:=
 au ho fun g hgu=>hg.block g (ho.lt g hgu).2 (by
  intro e;rcases ha with h | h
  ·rw [h] at hgu;cases hgu
  ·exact h (by rw [hgu,e]))
theorem cN {w:World}{B T k n:Nat}{u v v':Value}{xs:List Value}(ho:w.ownsRow B T k u n xs)(ha:Apart u v)(hat:v'.ownBlock=v.ownBlock∨v'.ownBlock=some w.heap.size):Apart u v':=by
 rcases hat with e | e
 ·unfold Apart;rw [e];exact ha
 ·cases hu:u.ownBlock with
  | none=>exact Or.inl hu
  | some g=>
   refine Or.inr ?_;rw [hu,e];have:=(ho.lt g hu).2
   intro h;simp at h;omega
def Fresh (w:World)(v:Value):Prop:=∀k,v.ownBlock=some k→w.heap.size≤k
def PartPost (B g:Nat)(room:Int)(l:List Tm)(K:List Nat)(p:Tm→Bool)(w:World)(e:Ending)(w':World):Prop:=∃v u P,e=.returned u∧P.Perm (List.range (l.filter p).length)∧((l.filter p).length<20→P=orderM ((l.filter p).map keyT))∧w'.ownsRow w.heap.size 197 4 u (P.map fun i=>(l.filter p).getD i zTm).length (flat eTm (P.map fun i=>(l.filter p).getD i zTm))∧WheelAt w' B g room v (l.filter fun x=>!p x)∧Fresh w v∧ModT B [150] K w w'
theorem kL {w:World}{B g:Nat}{room:Int}{v:Value}{l:List Tm}(h:WheelAt w B g room v l)(hn:l.length≤9000)(K:List Nat)(hK:g∉K)(hB:B≤w.heap.size)(f:Nat)(lb:Array Value)(eg:∀args w,(callFunc f args).run Tryz.prog w=.ok (.enter f args) w)(p:Tm→Bool)(hp:PredTm f lb p w):Calls Tryz.prog 157 #[ptr g,.func (.func f) #[] lb] w (PartPost B g room l K p w):=by
 have HW:=aa h;have HP:=aa hp;have hf:=ag h.own;obtain ⟨n1,k1,rfl⟩:=hf;have p1:=h.blk.c 1;have HS:=aa (Sl.own kTm h.own);obtain ⟨i0,hi,hz0,hz1,hz2⟩:=info_parts fK;have c1:Bw w w:=zZ _ _;clear h hp;go_enter Tryz.func157,Tryz.ntmps157;go_wp2_with fail;go_loopw [5,6,16] (fun x5 x6 vi wr=>∃(k:Nat) (ug ul:Value),k≤l.length∧vi=.int .i64 k∧ug=x5∧ul=x6∧wr.ownsRow w.heap.size 197 4 ug ((l.take k).filter p).length (flat eTm ((l.take k).filter p))∧wr.ownsRow w.heap.size 197 4 ul ((l.take k).filter fun x=>!p x).length (flat eTm ((l.take k).filter fun x=>!p x))∧Apart ug ul∧Bw w wr) (fun _ _ vi _=>l.length - (intOf vi).toNat)
 case atStart=>exact ⟨0,_,_,Af _,rfl,rfl,rfl,⟨by simp [flat],Or.inl ⟨rfl,rfl⟩⟩,⟨by simp [flat],Or.inl ⟨rfl,rfl⟩⟩,Or.inl rfl,zZ _ _⟩
 case round=>
  obtain ⟨k,ug,ul,hk,rfl,rfl,rfl,R,O,X,a⟩:=hrel;have E:=aa R;have u:=aa O;obtain ⟨ng,kg,rfl⟩:=ag R;obtain ⟨nl,kl,rfl⟩:=ag O;have D:=aa X;clear R O X;by_cases hlt:k<l.length
  ·obtain ⟨a',ac,ad,_,aE,al,ae⟩:=HS.o;obtain ⟨e1,e2⟩:n1=a'∧k1=ac:=by simpa using ad
   subst e1 e2;obtain ⟨b,F,rfl,C,ai⟩:=ae (by omega);obtain ⟨q0,q1,q2,q3⟩:=jV (ai k hlt);have r0:=(a.c (p:=⟨b,F+k * 4,none⟩) C).trans q0;have r1:=(a.c (p:=⟨b,F+k * 4+1,none⟩) C).trans q1;have r2:=(a.c (p:=⟨b,F+k * 4+2,none⟩) C).trans q2;have r3:=(a.c (p:=⟨b,F+k * 4+3,none⟩) C).trans q3;have az:(0:Int)≤(k:Int):=by omega
   have ay:(k:Int)<(l.length:Int):=by omega
   unfold maxLen at al;have s:=aa (ff p l k hlt);have n:=aa (ff (fun x=>!p x) l k hlt);have aC:((l.take k).filter p).length≤k:=z5 (AV _ _) (by rw [Aa];omega);have ab:((l.take k).filter fun x=>!p x).length≤k:=z5 (AV _ _) (by rw [Aa];omega);clear ai q0 q1 q2 q3 ae ad;generalize (l.take k).filter p=G at *;generalize ((l.take k).filter fun x=>!p x)=L at *;generalize l[k]=x at *;have Z:Bw wr (wr.alloc (.cells (cTm x) 197)):=Bn;have T:=a.trans (Z.mono a.size);have HX:=aa (Blk.new wr 197 (cTm x));have U:=aa (HP.o (wr.alloc (.cells (cTm x) 197)) x T);obtain ⟨y,hy⟩:∃y,p x=y:=⟨_,rfl⟩;have HY:=aa hy;rw [hy] at s n;clear hy;cases y with
   | true=>
    have HN:Hid (G++[x]=(l.take (k+1)).filter p):=aa (by rw [s.o];rfl);have HM:Hid (L=(l.take (k+1)).filter fun x=>!p x):=aa (by rw [n.o];simp);clear s n;go_wp2_with (first | (go_at_fn f;refine U.o.mono ?_;rintro e w2 ⟨rfl,A⟩;rw [HY.o];have b2:=T.trans (A.mono T.size);have d:=aa (HX.o.keep A);have x0:=d.o.c 0;have x1:=d.o.c 1;have x2:=d.o.c 2;have x3:=d.o.c 3;have I:=b2.alloc b2.size (.cells (cTm x) 197);have V:=aa ((ah (ah E.o Z) A).alloc (.cells (cTm x) 197));have OL:=aa ((ah (ah u.o Z) A).alloc (.cells (cTm x) 197))) | (at_builtin;refine aq kTm (by decide) oneTm _ rfl _ _ 148 rfl w.heap.size 197 i0 (.agg #[.int .i64 0,.int .i64 0,.int .i64 0,.int .i64 0]) 32 Tryz.underlying148 hi hz0 hz1 hz2 (by rfl) (.slice ng G.length kg) G rfl V.o (some ⟨w2.heap.size,0,none⟩) 1 [x] rfl (Sl.one1b eTm kTm _ 197 _ (by rfl) _ rfl) (by show G.length+1≤maxLen;unfold maxLen;omega) (by show (G.length+1) * 32≤_;omega) I.size ?_;intro v' w4 hown hgrow hat;have b4:=I.grown hgrow I.size (fun q hq=>(V.o.lt q hq).1);have Q:=aa (dz OL.o hgrow D.o.symm);have M:=aa ((cN OL.o D.o.symm hat).symm);rw [HN.o] at hown;have J:=aa hown;obtain ⟨n6,k6,rfl⟩:=ag hown;clear hgrow hat hown))
    go_roundw
    case rel=>exact ⟨k+1,_,_,by omega,by go_num,rfl,rfl,J.o,by rw [←HM.o];exact Q.o,M.o,b4⟩
    case measure=>simp [intOf];omega
   | false=>
    have HN:Hid (L++[x]=(l.take (k+1)).filter fun x=>!p x):=aa (by rw [n.o];rfl);have HM:Hid (G=(l.take (k+1)).filter p):=aa (by rw [s.o];simp);clear s n;go_wp2_with (first | (go_at_fn f;refine U.o.mono ?_;rintro e w2 ⟨rfl,A⟩;rw [HY.o];have b2:=T.trans (A.mono T.size);have d:=aa (HX.o.keep A);have x0:=d.o.c 0;have x1:=d.o.c 1;have x2:=d.o.c 2;have x3:=d.o.c 3;have I:=b2.alloc b2.size (.cells (cTm x) 197);have V:=aa ((ah (ah E.o Z) A).alloc (.cells (cTm x) 197));have OL:=aa ((ah (ah u.o Z) A).alloc (.cells (cTm x) 197))) | (at_builtin;refine aq kTm (by decide) oneTm _ rfl _ _ 148 rfl w.heap.size 197 i0 (.agg #[.int .i64 0,.int .i64 0,.int .i64 0,.int .i64 0]) 32 Tryz.underlying148 hi hz0 hz1 hz2 (by rfl) (.slice nl L.length kl) L rfl OL.o (some ⟨w2.heap.size,0,none⟩) 1 [x] rfl (Sl.one1b eTm kTm _ 197 _ (by rfl) _ rfl) (by show L.length+1≤maxLen;unfold maxLen;omega) (by show (L.length+1) * 32≤_;omega) I.size ?_;intro v' w4 hown hgrow hat;have b4:=I.grown hgrow I.size (fun q hq=>(OL.o.lt q hq).1);have J:=aa (dz V.o hgrow D.o);have M:=aa (cN V.o D.o hat);rw [HN.o] at hown;have Q:=aa hown;obtain ⟨n6,k6,rfl⟩:=ag hown;clear hgrow hat hown))
    go_roundw
    case rel=>exact ⟨k+1,_,_,by omega,by go_num,rfl,rfl,by rw [←HM.o];exact J.o,Q.o,M.o,b4⟩
    case measure=>simp [intOf];omega
  ·obtain rfl:k=l.length:=by omega
   have aB:¬ ((l.length:Int)<(l.length:Int)):=by omega
   rw [Ap] at E u;have z:=HW.o.keep a;have aA:=z.blk.c 1;have aF:=z.blk.free 1;have j:=aa z;have an:(l.filter p).length≤9000:=z5 (AV _ _) hn;have r:∀{q:Value} {m:Nat} {xs:List Value},wr.ownsRow w.heap.size 197 4 q m xs→(wr.setCell ⟨g,1,none⟩ (.slice nl ((l.filter fun x=>!p x)).length kl)).ownsRow w.heap.size 197 4 q m xs:=fun {q m xs} ho=>au ho fun k hk=>An _ _ _ _ (aD j.o.blk ho (by decide) k hk)
   have af:=aa (r E.o);have H:=aa (r u.o);have ar:=aa (j.o.blk.set 1 (.slice nl ((l.filter fun x=>!p x)).length kl));have ao:=aa ((ModT.below (B:=B) (TS:=[150]) (K:=K) a).trans (ModT.set (i:=1) (x:=.slice nl ((l.filter fun x=>!p x)).length kl) j.o.blk (by simp) j.o.l1 hK));have av:=aa (fe _ (l.filter p) _ (Sl.own kTm af.o) an);have aj:=a.size;have ab:=j.o.l1;clear z r;go_wp2_with (go_at_call 196;refine av.o.mono ?_;rintro e w6 ⟨v6,P,rfl,S,Y,t,W⟩;rw [Ad] at t;have ak:=aa t;have ap:=aa S;have ax:=aa Y;have N:=aa W;obtain ⟨n6,k6,rfl⟩:=ag t;clear t S Y W)
   go_ret;have am:w.heap.size≤(wr.setCell ⟨g,1,none⟩ (.slice nl ((l.filter fun x=>!p x)).length kl)).heap.size:=by simpa [World.setCell] using aj
   refine ⟨_,_,P,rfl,ap.o,ax.o,by rw [Ad];exact aw ak.o am,⟨ar.o.keep N.o,ah (aw H.o hB) N.o,ab⟩,fun k hk=>(H.o.lt k hk).1,ao.o.trans (ModT.below N.o)⟩
end
end Go.Proofs.YtmhohaanddglbaaGreatDoor
