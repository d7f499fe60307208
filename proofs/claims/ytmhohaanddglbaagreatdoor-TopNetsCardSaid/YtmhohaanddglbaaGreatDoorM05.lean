/- Texts of the proof of TopNets, joined: Share, Split1, Net, Net2, GIter, Ord, Ord2, Ord3, Ord4, Rank, Order, Ordr, Ordr2, Ordr3, Ordr4, Sorted, NOrd, NetC, Grp. -/
import Derived.Test.YtmhohaanddglbaaGreatDoorM01
import Derived.Test.YtmhohaanddglbaaGreatDoorM02
import Derived.Test.YtmhohaanddglbaaGreatDoorM03
import Derived.Test.YtmhohaanddglbaaGreatDoorM04
import Derived.Deep.RegionHeldLaw
import Derived.Maps.RangeRun
import Derived.Sort.WalkC
import Derived.Sort.Lot0
import Derived.Sort.LotA
import Derived.BigRegion
import Derived.Deep.OwnRows
set_option linter.all false
set_option maxRecDepth 100000
set_option maxHeartbeats 16000000
namespace Go.Proofs.YtmhohaanddglbaaGreatDoor
open Go.RowKit
section
attribute [local go_sem ↓] Go.wp_at_zero Go.wp_at_succ
theorem eg375:∀args w,(callFunc 375 args).run Tryz.prog w=.ok (.enter 375 args) w:=enters_of Tryz.func375 (by kernel_rfl) rfl
theorem sQ (x:Int)(w:World):Calls Tryz.prog 375 #[.int .i64 x] w fun e w'=>e=.returned (.bool (decide (x<0)))∧w'=w:=by
 go_enter Tryz.func375,Tryz.ntmps375;go_wp2;go_ret;exact ⟨rfl,rfl⟩
theorem wY (v:Value)(l:List Int)(w:World)(hv:Sl eI 1 w v l):Calls Tryz.prog 374 #[v,.func (.func 375) #[] #[]] w fun e w'=>e=.returned (.bool (l.any fun x=>decide (x<0)))∧Bw w w':=by
 obtain ⟨a,c,rfl,n,m,i,k⟩:=hv;unfold maxLen at i;by_cases hl:l.length=0
 ·obtain rfl:=Ar hl;exact (Go.Proofs.AnyE.slices_ContainsFunc_empty Tryz.l374 a c _ w).mono fun e w' ⟨he,hw⟩=>⟨by rw [he];rfl,by rw [hw];exact zZ _ _⟩
 ·obtain ⟨b,d,rfl,o,f⟩:=k (by omega);have h:=Go.Proofs.AnyE.slices_ContainsFunc Tryz.l374 (Value.int .i64) (fun x=>decide (x<0)) 375 #[] eg375 b d l.length c l w
   (fun W x hW=>(sQ x W).mono fun e w' ⟨he,hw⟩=>⟨he,0,hw⟩) (zY _) (by omega) (fun j hj=>by
    have g:=f j hj 0 _ rfl;rw [A0,AU] at g;rw [g];simp [hj])
  rw [Ap] at h;exact h.mono fun e w' ⟨he,q,hw⟩=>⟨he,by rw [hw];exact aj (zZ _ _) q⟩
structure ShareOk (a:Int)(l:List Int):Prop where
 a0:0≤a
 a1:In64 a
 pos:∀x∈l,0≤x
 fit:sumM l=(sumL l,0)
 n:l.length≤1024
theorem ky:∀(l:List Int),(∀x∈l,0≤x)→0≤sumL l∧∀x∈l,x≤sumL l:=by
 intro l;induction l with
 | nil=>intro _;exact ⟨by simp [sumL],fun x hx=>absurd hx (by simp)⟩
 | cons y l ih=>
  intro h;obtain ⟨h1,h2⟩:=ih fun x hx=>h x (AG _ hx)
  have a:=h y (As ..);have e:sumL (y :: l)=y+sumL l:=by simp [sumL]
  rw [e];refine ⟨by omega,fun x hx=>?_⟩;rcases Aq.1 hx with rfl | hx
  ·omega
  ·have:=h2 x hx
   omega
theorem wZ {l:List Int}(h:sumM l=(sumL l,0)):In64 (sumL l):=by
 unfold sumM fitM at h;split at h
 ·assumption
 ·simp at h
theorem ShareOk.all {a:Int}{l:List Int}(h:ShareOk a l):All64 l:=by
 intro x b;have c:=(ky l h.pos).2 x b;have f:=h.pos x b;have d:=wZ h.fit;unfold In64 at *;omega
theorem mH (a:Int)(v:Value)(l:List Int)(w:World)(hv:Sl eI 1 w v l)(h:ShareOk a l):Calls Tryz.prog 360 #[.int .i64 a,v] w fun e w'=>e=.returned (.tuple #[.int .i64 (sumL l),.int .i64 0])∧Bw w w':=by
 have g:=aa hv;have j:=aa (wY v l w hv);have H:=aa h;have b:(l.any fun x=>decide (x<0))=false:=by
  rw [Bj];intro x f;have:=h.pos x f
  simp;omega
 have c:=aa b;have k:=dF (show ¬ a<0 by have:=h.a0;omega);have q:=dF (show ¬ (1024:Int)<(l.length:Int) by have:=h.n;omega);obtain ⟨p,m,rfl,_⟩:=hv;clear h b;go_enter Tryz.func360,Tryz.ntmps360;go_wp2_with (first | (go_at_call 374;refine j.o.mono ?_;rintro e w1 ⟨rfl,c1⟩;rw [c.o];have d:=aa (aW _ l w1 (g.o.keep c1) H.o.all (by have:=H.o.n;omega))) | (go_at_call 230;refine d.o.mono ?_;rintro e w2 ⟨rfl,c2⟩;rw [H.o.fit];have i:=c1.trans (c2.mono c1.size)))
 go_ret2;exact ⟨rfl,i⟩
def lostM (cs ps:List Int):List Int:=List.zipWith (fun c p:Int=>c - p) cs ps
def lostK (cs ps:List Int)(k:Nat):List Int:=(lostM cs ps).take k
theorem sR {cs ps:List Int}(h:ps.length=cs.length):(lostM cs ps).length=cs.length:=by unfold lostM;rw [List.length_zipWith,h,Nat.min_self]
theorem sS {cs ps:List Int}{k:Nat}(h:k<cs.length)(h2:k<ps.length):lostK cs ps (k+1)=lostK cs ps k++[cs[k] - ps[k]]:=by
 unfold lostK lostM;rw [z9 (by simp;omega),List.getElem_zipWith]
theorem sU (v u:Value)(cs ps:List Int)(w:World)(hv:Sl eI 1 w v cs)(hu:Sl eI 1 w u ps)(hl:ps.length=cs.length)(hn:cs.length≤100000)(hp:∀i (h:i<cs.length)(h2:i<ps.length),0≤ps[i]∧ps[i]≤cs[i])(h64:All64 cs) :
  Calls Tryz.prog 330 #[v,u] w fun e w'=>∃r,e=.returned (.tuple #[r,.int .i64 0])∧w'.ownsRow w.heap.size 2 1 r (lostM cs ps).length (flat eI (lostM cs ps))∧Bw w w':=by
 have HS:=aa hv;have HU:=aa hu;have HP:=aa hp;have I:=aa h64;obtain ⟨n1,S,rfl,_⟩:=hv;obtain ⟨n2,k2,rfl,_⟩:=hu;obtain ⟨i0,hi,hz0,hz1,hz2⟩:=info_parts cT;have G:=aa (sR hl);rw [hl];clear hp h64;go_enter Tryz.func330,Tryz.ntmps330;go_wp2_with fail;go_loopw [6,16] (fun vo vi wr=>∃k:Nat,k≤cs.length∧vi=.int .i64 k∧wr.ownsRow w.heap.size 2 1 vo (lostK cs ps k).length (flat eI (lostK cs ps k))∧Bw w wr) (fun _ vi _=>cs.length - (intOf vi).toNat)
 case atStart=>exact ⟨0,Af _,rfl,⟨by simp [flat,lostK],Or.inl ⟨rfl,rfl⟩⟩,zZ _ _⟩
 case round=>
  obtain ⟨k,hk,rfl,a,f⟩:=hrel;have R:=aa a;obtain ⟨no,ko,rfl⟩:=ag a;clear a;by_cases hlt:k<cs.length
  ·obtain ⟨X,n,s,_,ab,O,t⟩:=HS.o;obtain ⟨e1,e2⟩:n1=X∧S=n:=by simpa using s
   subst e1 e2;obtain ⟨b,P,rfl,N,C⟩:=t (by omega);obtain ⟨a'',cap'',hu',_,g1',g2',gc'⟩:=HU.o;obtain ⟨e1,e2⟩:n2=a''∧k2=cap'':=by simpa [hl] using hu'
   subst e1 e2;obtain ⟨d,A,rfl,D,B⟩:=gc' (by omega);have j:k<ps.length:=by omega
   have E:=C k hlt 0 _ rfl;rw [A0,AU] at E;have r0:=(f.c (p:=⟨b,P+k,none⟩) N).trans E;have K:=B k j 0 _ rfl;rw [A0,AU] at K;have r1:=(f.c (p:=⟨d,A+k,none⟩) D).trans K;have T:(0:Int)≤(k:Int):=by omega
   have V:(k:Int)<(cs.length:Int):=by omega
   unfold maxLen at O g2';have J:=aa (sS hlt j);have U:(lostK cs ps k).length≤k:=by unfold lostK;rw [Aa];omega
   have g:=I.o cs[k] (Ag hlt);obtain ⟨Q,F⟩:=HP.o k hlt j;clear C B E K t gc' s hu';generalize lostK cs ps k=L at *;generalize cs[k]=x at *;generalize ps[k]=y at *;have t1:=dF (show ¬ y<0 by omega);have t2:=dF (show ¬ x<y by omega);have t3:wrap64 (x - y)=x - y:=by unfold wrap64;unfold In64 at g;omega
   have Y:IntKind.i64.wrap (x - y)=x - y:=Ax _ (by unfold In64 at g;omega);have m:=f;have z:=R;clear Q F g;go_wp2_with (at_builtin;refine aq kI (by decide) dL _ rfl _ _ 45 rfl w.heap.size 2 i0 (.int .i64 0) 8 Tryz.underlying45 hi hz0 hz1 hz2 (by rfl) (.slice no L.length ko) L rfl (z.o.alloc _) (some ⟨wr.heap.size,0,none⟩) 1 [x - y] rfl (Sl.one1b eI kI _ 2 _ (by rfl) _ rfl) (by show L.length+1≤maxLen;unfold maxLen;omega) (by show (L.length+1) * 8≤_;omega) (m.alloc m.size (.cells #[.int .i64 (x - y)] 2)).size ?_;intro v' w2 a l H;have Z:=(m.alloc m.size (.cells #[.int .i64 (x - y)] 2)).grown l (m.alloc m.size _).size (fun q hq=>(z.o.lt q hq).1);rw [←J.o] at a;obtain ⟨n2,k2,rfl⟩:=ag a;clear l H)
   go_roundw
   case rel=>exact ⟨k+1,by omega,by go_num,a,Z⟩
   case measure=>simp [intOf];omega
  ·obtain rfl:k=cs.length:=by omega
   have W:¬ ((cs.length:Int)<(cs.length:Int)):=by omega
   have M:Hid (lostK cs ps cs.length=lostM cs ps):=aa (Ae (by rw [G.o];exact zY _));go_wp2_with fail;go_ret2;rw [←M.o];exact ⟨_,rfl,R.o,f⟩
def someF (p:Int×Lg):Option Lg:=if 0<p.1 then some ⟨p.2.mem,p.2.ass,p.1⟩ else none
def someM (l:List Int)(cl:List Lg):List Lg:=(l.zip cl).filterMap someF
def someK (l:List Int)(cl:List Lg)(k:Nat):List Lg:=((l.zip cl).take k).filterMap someF
theorem gj (g:Nat)(v u:Value)(l:List Int)(cl:List Lg)(w:World)(hv:Sl eI 1 w v l)(hu:Sl eLg 3 w u cl)(hg:Blk w g 66 #[u])(hl:l.length=cl.length)(hn:l.length≤100000):Calls Tryz.prog 331 #[v,ptr g] w (RPo eLg 120 3 (someM l cl) w):=by
 have HS:=aa hv;have HU:=aa hu;have T:=aa hl;have D:=hg.lt;obtain ⟨n1,V,rfl,_⟩:=hv;obtain ⟨n2,k2,rfl,_⟩:=hu;obtain ⟨i0,hi,hz0,hz1,hz2⟩:=info_parts bt;have n:Hid ((l.zip cl).length=l.length):=aa (by rw [List.length_zip,hl,Nat.min_self]);have H:Hid (someM l cl=(l.zip cl).filterMap someF):=aa rfl;rw [←hl] at hg;have HG:=aa hg;clear hg hl;go_enter Tryz.func331,Tryz.ntmps331;go_wp2_with fail;go_loopw [4,9] (fun vo vi wr=>∃k:Nat,k≤l.length∧vi=.int .i64 k∧wr.ownsRow w.heap.size 120 3 vo (someK l cl k).length (flat eLg (someK l cl k))∧Bw w wr) (fun _ vi _=>l.length - (intOf vi).toNat)
 case atStart=>exact ⟨0,Af _,rfl,⟨by simp [flat,someK],Or.inl ⟨rfl,rfl⟩⟩,zZ _ _⟩
 case round=>
  obtain ⟨k,hk,rfl,h,a⟩:=hrel;have E:=aa h;obtain ⟨no,ko,rfl⟩:=ag h;clear h;by_cases hlt:k<l.length
  ·obtain ⟨a',s,t,_,af,M,z⟩:=HS.o;obtain ⟨e1,e2⟩:n1=a'∧V=s:=by simpa using t
   subst e1 e2;obtain ⟨b,N,rfl,K,C⟩:=z (by omega);obtain ⟨a'',cap'',hu',_,g1',g2',gc'⟩:=HU.o;obtain ⟨e1,e2⟩:n2=a''∧k2=cap'':=by simpa [T.o] using hu'
   subst e1 e2;have B:k<cl.length:=by have:=T.o;omega
   obtain ⟨d,f,rfl,j,A⟩:=gc' (by omega);have G:=C k hlt 0 _ rfl;rw [A0,AU] at G;have r0:=(a.c (p:=⟨b,N+k,none⟩) K).trans G;obtain ⟨p0,p1,_⟩:=ch (A k B);have S:=(a.c (p:=⟨d,f+k * 3,none⟩) j).trans p0;have U:=(a.c (p:=⟨d,f+k * 3+1,none⟩) j).trans p1;have R:=(HG.o.keep a).c 0;have X:(0:Int)≤(k:Int):=by omega
   have ac:(k:Int)<(l.length:Int):=by omega
   unfold maxLen at M g2';have O:k<(l.zip cl).length:=by rw [n.o];exact hlt
   have m:Hid (someK l cl (k+1)=someK l cl k++(someF (l.zip cl)[k]).toList):=aa (bC someF (l.zip cl) k O);have r:(l.zip cl)[k]=(l[k],cl[k]):=List.getElem_zip;rw [r] at m;have ab:(someK l cl k).length≤k:=by unfold someK;exact z5 (Ak _ _) (by rw [Aa];omega)
   clear C A G p0 p1 z gc' t hu' r;generalize someK l cl k=L at *;generalize l[k]=x at *;generalize cl[k]=y at *;by_cases hst:0<x
   rotate_left
   ·have Y:=dF hst;have P:Hid (someK l cl (k+1)=L):=aa (by rw [m.o,show someF (x,y)=none from (by unfold someF;rw [if_neg hst])];simp);clear m hst;go_wp2_with fail;go_roundw
    case rel=>exact ⟨k+1,by omega,by go_num,by rw [P.o];exact E.o,a⟩
    case measure=>simp [intOf];omega
   ·have Y:=dT hst;have P:Hid (L++[⟨y.mem,y.ass,x⟩]=someK l cl (k+1)):=aa (by rw [m.o,show someF (x,y)=some ⟨y.mem,y.ass,x⟩ from (by unfold someF;rw [if_pos hst])];rfl);have ae:=a.size;clear m hst;have J:=And.intro S (And.intro U R);go_wp2_with fail;go_region_held_law (fun W=>W.cell? ⟨d,f+k * 3,none⟩=some (.int .i64 y.mem)∧W.cell? ⟨d,f+k * 3+1,none⟩=some (.int .i64 y.ass)∧W.cell? ⟨g,0,none⟩=some (.slice (some ⟨d,f,none⟩) l.length k2)) (first | exact J | exact Q | assumption | go_keep)
     (first | (refine aS kLg (by decide) bL _ (by rfl) _ _ 66 (by rfl) w.heap.size 120 i0 (.agg #[.int .i64 0,.int .i64 0,.int .i64 0]) 24 Tryz.underlying66 hi hz0 hz1 hz2 (by rfl) (.slice no L.length ko) L (by rfl) (by exact E.o.alloc _) (some ⟨wr.heap.size,0,none⟩) 1 1 [⟨y.mem,y.ass,x⟩] (by rfl) (by rfl) (by exact Sl.one1 eLg kLg wr 120 ⟨y.mem,y.ass,x⟩ (cs:=#[.int .i64 y.mem,.int .i64 y.ass,.int .i64 x]) rfl) (by simp only [Ai];unfold maxLen;omega) (by simp only [Ai];omega) (by simp;omega) ?_;intro v' w5 h i Z;have F:=(a.alloc a.size (.cells #[.int .i64 y.mem,.int .i64 y.ass,.int .i64 x] 120)).grown (w':=w5) (by exact ⟨i.os,i.tape,i.output,i.size,i.block⟩) (a.alloc a.size _).size (fun q hq=>(E.o.lt q hq).1);have Q:=And.intro ((F.c (p:=⟨d,f+k * 3,none⟩) j).trans ((a.c (p:=⟨d,f+k * 3,none⟩) j).symm.trans S)) (And.intro ((F.c (p:=⟨d,f+k * 3+1,none⟩) j).trans ((a.c (p:=⟨d,f+k * 3+1,none⟩) j).symm.trans U)) ((F.c (p:=⟨g,0,none⟩) D).trans ((a.c (p:=⟨g,0,none⟩) D).symm.trans R)));rw [P.o] at h;obtain ⟨n3,k3,rfl⟩:=ag h))
    go_wp2_with fail;go_roundw
    case rel=>exact ⟨k+1,by omega,by go_num,h,F⟩
    case measure=>simp [intOf];omega
  ·obtain rfl:k=l.length:=by omega
   have ad:¬ ((l.length:Int)<(l.length:Int)):=by omega
   have I:Hid (someK l cl l.length=someM l cl):=aa (by unfold someK;rw [show (l.zip cl).take l.length=l.zip cl from Ae (by rw [n.o];exact zY _),←H.o]);go_wp2_with fail;go_ret;rw [←I.o];exact ⟨_,rfl,E.o,a⟩
def ndebtF (x:Lg):Option Lg:=if 0<x.amt then some x else none
def nclaimF (x:Lg):Option Lg:=if x.amt<0 then some ⟨x.mem,x.ass,-x.amt⟩ else none
def ntotF (a:Int)(x:Lg):Option Int:=if x.ass=a then some x.amt else none
def nmineF (a:Int)(x:Lg):Option Lg:=if x.ass=a then some x else none
theorem mJ (v:Value)(l:List Lg)(w:World)(hv:Sl eLg 3 w v l)(hn:l.length≤100000):Calls Tryz.prog 343 #[v] w (RPo eLg 120 3 (l.filterMap ndebtF) w):=by
 have N:=aa hv;obtain ⟨P,E,rfl,_⟩:=hv;obtain ⟨i0,hi,hz0,hz1,hz2⟩:=info_parts bt;have z:Bw w w:=zZ _ _;go_enter Tryz.func343,Tryz.ntmps343;go_wp2_with fail;go_loopw [3,8] (fun vo vi wr=>∃k:Nat,k≤l.length∧vi=.int .i64 k∧wr.ownsRow w.heap.size 120 3 vo ((l.take k).filterMap ndebtF).length (flat eLg ((l.take k).filterMap ndebtF))∧Bw w wr) (fun _ vi _=>l.length - (intOf vi).toNat)
 case atStart=>exact ⟨0,Af _,rfl,⟨by simp [flat],Or.inl ⟨rfl,rfl⟩⟩,zZ _ _⟩
 case round=>
  obtain ⟨k,S,rfl,a,d⟩:=hrel;have B:=aa a;obtain ⟨no,ko,rfl⟩:=ag a;clear a;by_cases hlt:k<l.length
  ·obtain ⟨K,r,s,_,O,A,t⟩:=N.o;obtain ⟨e1,e2⟩:P=K∧E=r:=by simpa using s
   subst e1 e2;obtain ⟨b,j,rfl,i,u⟩:=t (by omega);obtain ⟨q0,q1,q2⟩:=ch (u k hlt);have T:=(d.c (p:=⟨b,j+k * 3,none⟩) i).trans q0;have R:=(d.c (p:=⟨b,j+k * 3+1,none⟩) i).trans q1;have U:=(d.c (p:=⟨b,j+k * 3+2,none⟩) i).trans q2;have F:(0:Int)≤(k:Int):=by omega
   have I:(k:Int)<(l.length:Int):=by omega
   unfold maxLen at A;have g:=aa (bC ndebtF l k hlt);have H:((l.take k).filterMap ndebtF).length≤k:=z5 (Ak _ _) (by rw [Aa];omega);clear u q0 q1 q2 t s;generalize (l.take k).filterMap ndebtF=L at *;generalize l[k]=x at *;have m:=d.alloc d.size (.cells (cLg x) 120);have W:=aa (Blk.new wr 120 (cLg x));have h:=aa (B.o.alloc (.cells (cLg x) 120));by_cases hst:0<x.amt
   rotate_left
   ·have G:=dF hst;have n:=aa hst;clear hst;have C:Hid ((l.take (k+1)).filterMap ndebtF=L):=aa (by rw [g.o,show ndebtF x=none from (by unfold ndebtF;rw [if_neg n.o])];simp);clear g;go_wp2_with (fail)
    go_roundw
    case rel=>exact ⟨k+1,by omega,by go_num,by rw [C.o];exact h.o,m⟩
    case measure=>simp [intOf];omega
   ·have G:=dT hst;have n:=aa hst;clear hst;have C:Hid (L++[x]=(l.take (k+1)).filterMap ndebtF):=aa (by rw [g.o,show ndebtF x=some x from (by unfold ndebtF;rw [if_pos n.o])];rfl);clear g;go_wp2_with (first | (at_builtin;refine aq kLg (by decide) bL _ rfl _ _ 66 rfl w.heap.size 120 i0 (.agg #[.int .i64 0,.int .i64 0,.int .i64 0]) 24 Tryz.underlying66 hi hz0 hz1 hz2 (by rfl) (.slice no L.length ko) L rfl (h.o.alloc _) (some ⟨wr.heap.size+1,0,none⟩) 1 [x] rfl (Sl.one1b eLg kLg _ 120 _ (by rfl) _ (by simp)) (by show L.length+1≤maxLen;unfold maxLen;omega) (by show (L.length+1) * 24≤_;omega) (m.alloc m.size (.cells #[.int .i64 x.mem,.int .i64 x.ass,.int .i64 x.amt] 120)).size ?_;intro Q V a f y;have M:=(m.alloc m.size (.cells #[.int .i64 x.mem,.int .i64 x.ass,.int .i64 x.amt] 120)).grown f (m.alloc m.size _).size (fun q hq=>(h.o.lt q hq).1);rw [C.o] at a;obtain ⟨n2,k2,rfl⟩:=ag a;clear f y))
    go_roundw
    case rel=>exact ⟨k+1,by omega,by go_num,a,M⟩
    case measure=>simp [intOf];omega
  ·obtain rfl:k=l.length:=by omega
   have J:¬ ((l.length:Int)<(l.length:Int)):=by omega
   have D:l.take l.length=l:=Ae (zY _);rw [D] at B;go_wp2_with fail;go_ret;exact ⟨_,rfl,aw B.o z.size,z.trans (d.mono z.size)⟩
theorem xe {l:List Lg}{a:Int}(h:∀x∈l,In64 x.amt):All64 (l.filterMap (ntotF a)):=by
 intro n b;obtain ⟨x,hx,he⟩:=AN.1 b;unfold ntotF at he;split at he
 ·cases he;exact h x hx
 ·cases he
theorem bG (v:Value)(l:List Lg)(a:Int)(w:World)(hv:Sl eLg 3 w v l)(hn:l.length≤100000)(h64:∀x∈l,In64 x.amt):Calls Tryz.prog 342 #[v,.int .i64 a] w fun e w'=>e=.returned (.tuple #[.int .i64 (sumM (l.filterMap (ntotF a))).1,.int .i64 (sumM (l.filterMap (ntotF a))).2])∧Bw w w':=by
 have B:=aa (xe (a:=a) h64);have Q:=aa hv;obtain ⟨S,G,rfl,_⟩:=hv;obtain ⟨i0,hi,hz0,hz1,hz2⟩:=info_parts cT;have Y:Bw w w:=zZ _ _;clear h64;go_enter Tryz.func342,Tryz.ntmps342;go_wp2_with fail;go_loopw [6,11] (fun vo vi wr=>∃k:Nat,k≤l.length∧vi=.int .i64 k∧wr.ownsRow w.heap.size 2 1 vo ((l.take k).filterMap (ntotF a)).length (flat eI ((l.take k).filterMap (ntotF a)))∧Bw w wr) (fun _ vi _=>l.length - (intOf vi).toNat)
 case atStart=>exact ⟨0,Af _,rfl,⟨by simp [flat],Or.inl ⟨rfl,rfl⟩⟩,zZ _ _⟩
 case round=>
  obtain ⟨k,W,rfl,d,f⟩:=hrel;have D:=aa d;obtain ⟨no,ko,rfl⟩:=ag d;clear d;by_cases hlt:k<l.length
  ·obtain ⟨N,s,t,_,R,C,u⟩:=Q.o;obtain ⟨e1,e2⟩:S=N∧G=s:=by simpa using t
   subst e1 e2;obtain ⟨b,m,rfl,j,y⟩:=u (by omega);obtain ⟨q0,q1,q2⟩:=ch (y k hlt);have X:=(f.c (p:=⟨b,m+k * 3,none⟩) j).trans q0;have U:=(f.c (p:=⟨b,m+k * 3+1,none⟩) j).trans q1;have Z:=(f.c (p:=⟨b,m+k * 3+2,none⟩) j).trans q2;have H:(0:Int)≤(k:Int):=by omega
   have K:(k:Int)<(l.length:Int):=by omega
   unfold maxLen at C;have h:=aa (bC (ntotF a) l k hlt);have J:((l.take k).filterMap (ntotF a)).length≤k:=z5 (Ak _ _) (by rw [Aa];omega);clear y q0 q1 q2 u t;generalize (l.take k).filterMap (ntotF a)=L at *;generalize l[k]=x at *;have n:=f.alloc f.size (.cells (cLg x) 120);have HX:=aa (Blk.new wr 120 (cLg x));have i:=aa (D.o.alloc (.cells (cLg x) 120));by_cases hst:x.ass=a
   rotate_left
   ·have I:=beq_eq_false_iff_ne.2 hst;have r:=aa hst;clear hst;have E:Hid ((l.take (k+1)).filterMap (ntotF a)=L):=aa (by rw [h.o,show ntotF a x=none from (by unfold ntotF;rw [if_neg r.o])];simp);clear h;go_wp2_with (fail)
    go_roundw
    case rel=>exact ⟨k+1,by omega,by go_num,by rw [E.o];exact i.o,n⟩
    case measure=>simp [intOf];omega
   ·have I:=beq_iff_eq.2 hst;have r:=aa hst;clear hst;have E:Hid (L++[x.amt]=(l.take (k+1)).filterMap (ntotF a)):=aa (by rw [h.o,show ntotF a x=some x.amt from (by unfold ntotF;rw [if_pos r.o])];rfl);clear h;go_wp2_with (first | (at_builtin;refine aq kI (by decide) dL _ rfl _ _ 45 rfl w.heap.size 2 i0 (.int .i64 0) 8 Tryz.underlying45 hi hz0 hz1 hz2 (by rfl) (.slice no L.length ko) L rfl (i.o.alloc _) (some ⟨wr.heap.size+1,0,none⟩) 1 [x.amt] rfl (Sl.one1b eI kI _ 2 _ (by rfl) _ (by simp)) (by show L.length+1≤maxLen;unfold maxLen;omega) (by show (L.length+1) * 8≤_;omega) (n.alloc n.size (.cells #[.int .i64 x.amt] 2)).size ?_;intro T w2 d g A;have P:=(n.alloc n.size (.cells #[.int .i64 x.amt] 2)).grown g (n.alloc n.size _).size (fun q hq=>(i.o.lt q hq).1);rw [E.o] at d;obtain ⟨n2,k2,rfl⟩:=ag d;clear g A))
    go_roundw
    case rel=>exact ⟨k+1,by omega,by go_num,d,P⟩
    case measure=>simp [intOf];omega
  ·obtain rfl:k=l.length:=by omega
   have M:¬ ((l.length:Int)<(l.length:Int)):=by omega
   have F:l.take l.length=l:=Ae (zY _);rw [F] at D;have z:=aa (aW _ (l.filterMap (ntotF a)) wr (Sl.own kI D.o) B.o (z5 (Ak _ _) (by omega)));go_wp2_with (go_at_call 230;refine z.o.mono ?_;rintro e V ⟨rfl,O⟩)
   go_ret2;exact ⟨rfl,f.trans (O.mono f.size)⟩
theorem cZ (v:Value)(l:List Lg)(w:World)(hv:Sl eLg 3 w v l)(hn:l.length≤100000)(h64:∀x∈l,In64 x.amt∧x.amt≠-9223372036854775808):Calls Tryz.prog 344 #[v] w fun e w'=>∃u,e=.returned (.tuple #[u,.int .i64 0])∧w'.ownsRow w.heap.size 120 3 u (l.filterMap nclaimF).length (flat eLg (l.filterMap nclaimF))∧Bw w w':=by
 have B:=aa h64;have T:=aa hv;obtain ⟨V,I,rfl,_⟩:=hv;obtain ⟨i0,hi,hz0,hz1,hz2⟩:=info_parts bt;have D:Bw w w:=zZ _ _;clear h64;go_enter Tryz.func344,Tryz.ntmps344;go_wp2_with fail;go_loopw [4,11] (fun vo vi wr=>∃k:Nat,k≤l.length∧vi=.int .i64 k∧wr.ownsRow w.heap.size 120 3 vo ((l.take k).filterMap nclaimF).length (flat eLg ((l.take k).filterMap nclaimF))∧Bw w wr) (fun _ vi _=>l.length - (intOf vi).toNat)
 case atStart=>exact ⟨0,Af _,rfl,⟨by simp [flat],Or.inl ⟨rfl,rfl⟩⟩,zZ _ _⟩
 case round=>
  obtain ⟨k,Z,rfl,d,a⟩:=hrel;have A:=aa d;obtain ⟨no,ko,rfl⟩:=ag d;clear d;by_cases hlt:k<l.length
  ·obtain ⟨Q,r,t,_,U,E,y⟩:=T.o;obtain ⟨e1,e2⟩:V=Q∧I=r:=by simpa using t
   subst e1 e2;obtain ⟨b,m,rfl,j,z⟩:=y (by omega);obtain ⟨q0,q1,q2⟩:=ch (z k hlt);have r0:=(a.c (p:=⟨b,m+k * 3,none⟩) j).trans q0;have X:=(a.c (p:=⟨b,m+k * 3+1,none⟩) j).trans q1;have r2:=(a.c (p:=⟨b,m+k * 3+2,none⟩) j).trans q2;have J:(0:Int)≤(k:Int):=by omega
   have O:(k:Int)<(l.length:Int):=by omega
   unfold maxLen at E;have g:=aa (bC nclaimF l k hlt);have N:((l.take k).filterMap nclaimF).length≤k:=z5 (Ak _ _) (by rw [Aa];omega);have h:=B.o l[k] (Ag hlt);clear z q0 q1 q2 y t;generalize (l.take k).filterMap nclaimF=L at *;generalize l[k]=x at *;have R:=a.alloc a.size (.cells (cLg x) 120);have W:=aa (Blk.new wr 120 (cLg x));have C:=aa (A.o.alloc (.cells (cLg x) 120));have f:=a.alloc a.size (.cells #[.int .i64 x.mem,.int .i64 x.ass,.int .i64 (-x.amt)] 120);have i:=aa (A.o.alloc (.cells #[.int .i64 x.mem,.int .i64 x.ass,.int .i64 (-x.amt)] 120));have s:=aa h;clear h;by_cases hst:x.amt<0
   rotate_left
   ·have M:=dT (show 0≤x.amt by omega);have n:=aa hst;clear hst;have G:Hid ((l.take (k+1)).filterMap nclaimF=L):=aa (by rw [g.o,show nclaimF x=none from (by unfold nclaimF;rw [if_neg n.o])];simp);clear g;go_wp2_with (fail)
    go_roundw
    case rel=>exact ⟨k+1,by omega,by go_num,by rw [G.o];exact C.o,R⟩
    case measure=>simp [intOf];omega
   ·have M:=dF (show ¬ 0≤x.amt by omega);have n:=aa hst;have F:Hid (fitM (-x.amt)=(-x.amt,0)):=aa (by unfold fitM;rw [if_pos (by have:=s.o;unfold In64 at *;omega)]);have K:=W.o.set 2 (.int .i64 (-x.amt));clear hst;have G:Hid (L++[⟨x.mem,x.ass,-x.amt⟩]=(l.take (k+1)).filterMap nclaimF):=aa (by rw [g.o,show nclaimF x=some ⟨x.mem,x.ass,-x.amt⟩ from (by unfold nclaimF;rw [if_pos n.o])];rfl);clear g;go_wp2_with (first | (go_at_call 312;refine (bW x.amt s.o.1 _).mono ?_;rintro e Y ⟨rfl,rfl⟩;rw [F.o]) | (at_builtin;refine aq kLg (by decide) bL _ rfl _ _ 66 rfl w.heap.size 120 i0 (.agg #[.int .i64 0,.int .i64 0,.int .i64 0]) 24 Tryz.underlying66 hi hz0 hz1 hz2 (by rfl) (.slice no L.length ko) L rfl (i.o.alloc _) (some ⟨wr.heap.size+1,0,none⟩) 1 [⟨x.mem,x.ass,-x.amt⟩] rfl (Sl.one1b eLg kLg _ 120 _ (by rfl) _ (by simp)) (by show L.length+1≤maxLen;unfold maxLen;omega) (by show (L.length+1) * 24≤_;omega) (f.alloc f.size (.cells #[.int .i64 (x.mem),.int .i64 (x.ass),.int .i64 (-x.amt)] 120)).size ?_;intro v' w2 d hgrow hat;have S:=(f.alloc f.size (.cells #[.int .i64 (x.mem),.int .i64 (x.ass),.int .i64 (-x.amt)] 120)).grown hgrow (f.alloc f.size _).size (fun q hq=>(i.o.lt q hq).1);rw [G.o] at d;obtain ⟨n2,k2,rfl⟩:=ag d;clear hgrow hat))
    go_roundw
    case rel=>exact ⟨k+1,by omega,by go_num,d,S⟩
    case measure=>simp [intOf];omega
  ·obtain rfl:k=l.length:=by omega
   have P:¬ ((l.length:Int)<(l.length:Int)):=by omega
   have H:l.take l.length=l:=Ae (zY _);rw [H] at A;go_wp2_with fail;go_ret2;exact ⟨_,rfl,aw A.o D.size,D.trans (a.mono D.size)⟩
def nsidesM (l:List Lg)(a:Int):Int×Int×Int:=
 let mine:=l.filterMap (nmineF a)
 let d:=sumM ((mine.filterMap ndebtF).filterMap (ntotF a))
 let c:=sumM ((mine.filterMap nclaimF).filterMap (ntotF a))
 if d.2≠0 then (0,0,d.2) else if c.2≠0 then (0,0,c.2) else (d.1,c.1,0)
theorem sV {l:List Lg}{a:Int}{x:Lg}(h:x∈l.filterMap (nmineF a)):x∈l:=by
 obtain ⟨y,c,b⟩:=AN.1 h;unfold nmineF at b;split at b
 ·cases b;exact c
 ·cases b
theorem sW {l:List Lg}{x:Lg}(h:x∈l.filterMap ndebtF):x∈l:=by
 obtain ⟨y,b,a⟩:=AN.1 h;unfold ndebtF at a;split at a
 ·cases a;exact b
 ·cases a
theorem sX {l:List Lg}(h64:∀x∈l,In64 x.amt∧x.amt≠-9223372036854775808):∀x∈l.filterMap nclaimF,In64 x.amt:=by
 intro x h;obtain ⟨y,hy,he⟩:=AN.1 h;unfold nclaimF at he;split at he
 ·cases he
  have:=h64 y hy
  unfold In64 at *;dsimp only;omega
 ·cases he
theorem mN (v:Value)(l:List Lg)(a:Int)(w:World)(hv:Sl eLg 3 w v l)(hn:l.length≤100000)(h64:∀x∈l,In64 x.amt∧x.amt≠-9223372036854775808):Calls Tryz.prog 301 #[v,.int .i64 a] w fun e w'=>e=.returned (.tuple #[.int .i64 (nsidesM l a).1,.int .i64 (nsidesM l a).2.1,.int .i64 (nsidesM l a).2.2])∧Bw w w':=by
 have ac:=aa h64;have HS:=aa hv;obtain ⟨n1,k1,rfl,_⟩:=hv;obtain ⟨i0,hi,hz0,hz1,hz2⟩:=info_parts bt;have c1:Bw w w:=zZ _ _;clear h64;go_enter Tryz.func301,Tryz.ntmps301;go_wp2_with fail;go_loopw [7,13] (fun vo vi wr=>∃k:Nat,k≤l.length∧vi=.int .i64 k∧wr.ownsRow w.heap.size 120 3 vo ((l.take k).filterMap (nmineF a)).length (flat eLg ((l.take k).filterMap (nmineF a)))∧Bw w wr) (fun _ vi _=>l.length - (intOf vi).toNat)
 case atStart=>exact ⟨0,Af _,rfl,⟨by simp [flat],Or.inl ⟨rfl,rfl⟩⟩,zZ _ _⟩
 case round=>
  obtain ⟨k,hk,rfl,f,d⟩:=hrel;have HO:=aa f;obtain ⟨no,ko,rfl⟩:=ag f;clear f;by_cases hlt:k<l.length
  ·obtain ⟨a',S,T,_,aj,Z,U⟩:=HS.o;obtain ⟨e1,e2⟩:n1=a'∧k1=S:=by simpa using T
   subst e1 e2;obtain ⟨b,G,rfl,C,W⟩:=U (by omega);obtain ⟨q0,q1,q2⟩:=ch (W k hlt);have r0:=(d.c (p:=⟨b,G+k * 3,none⟩) C).trans q0;have r1:=(d.c (p:=⟨b,G+k * 3+1,none⟩) C).trans q1;have r2:=(d.c (p:=⟨b,G+k * 3+2,none⟩) C).trans q2;have ah:(0:Int)≤(k:Int):=by omega
   have af:(k:Int)<(l.length:Int):=by omega
   unfold maxLen at Z;have A:=aa (bC (nmineF a) l k hlt);have ae:((l.take k).filterMap (nmineF a)).length≤k:=z5 (Ak _ _) (by rw [Aa];omega);clear W q0 q1 q2 U T;generalize (l.take k).filterMap (nmineF a)=L at *;generalize l[k]=x at *;have H:=d.alloc d.size (.cells (cLg x) 120);have HX:=aa (Blk.new wr 120 (cLg x));have F:=aa (HO.o.alloc (.cells (cLg x) 120));by_cases hst:x.ass=a
   rotate_left
   ·have hb:=beq_eq_false_iff_ne.2 hst;have K:=aa hst;clear hst;have HN:Hid ((l.take (k+1)).filterMap (nmineF a)=L):=aa (by rw [A.o,show nmineF a x=none from (by unfold nmineF;rw [if_neg K.o])];simp);clear A;go_wp2_with (fail)
    go_roundw
    case rel=>exact ⟨k+1,by omega,by go_num,by rw [HN.o];exact F.o,H⟩
    case measure=>simp [intOf];omega
   ·have hb:=beq_iff_eq.2 hst;have K:=aa hst;clear hst;have HN:Hid (L++[x]=(l.take (k+1)).filterMap (nmineF a)):=aa (by rw [A.o,show nmineF a x=some x from (by unfold nmineF;rw [if_pos K.o])];rfl);clear A;go_wp2_with (first | (at_builtin;refine aq kLg (by decide) bL _ rfl _ _ 66 rfl w.heap.size 120 i0 (.agg #[.int .i64 0,.int .i64 0,.int .i64 0]) 24 Tryz.underlying66 hi hz0 hz1 hz2 (by rfl) (.slice no L.length ko) L rfl (F.o.alloc _) (some ⟨wr.heap.size+1,0,none⟩) 1 [x] rfl (Sl.one1b eLg kLg _ 120 _ (by rfl) _ (by simp)) (by show L.length+1≤maxLen;unfold maxLen;omega) (by show (L.length+1) * 24≤_;omega) (H.alloc H.size (.cells #[.int .i64 x.mem,.int .i64 x.ass,.int .i64 x.amt] 120)).size ?_;intro v' w2 f y ab;have b4:=(H.alloc H.size (.cells #[.int .i64 x.mem,.int .i64 x.ass,.int .i64 x.amt] 120)).grown y (H.alloc H.size _).size (fun q hq=>(F.o.lt q hq).1);rw [HN.o] at f;obtain ⟨n2,k2,rfl⟩:=ag f;clear y ab))
    go_roundw
    case rel=>exact ⟨k+1,by omega,by go_num,f,b4⟩
    case measure=>simp [intOf];omega
  ·obtain rfl:k=l.length:=by omega
   have ai:¬ ((l.length:Int)<(l.length:Int)):=by omega
   have ad:l.take l.length=l:=Ae (zY _);rw [ad] at HO;have n:(l.filterMap (nmineF a)).length≤100000:=z5 (Ak _ _) hn;have E:((l.filterMap (nmineF a)).filterMap ndebtF).length≤100000:=z5 (Ak _ _) n;have I:((l.filterMap (nmineF a)).filterMap nclaimF).length≤100000:=z5 (Ak _ _) n;have O:∀x∈l.filterMap (nmineF a),In64 x.amt∧x.amt≠-9223372036854775808:=fun x hx=>ac.o x (sV hx)
   have h1:∀x∈(l.filterMap (nmineF a)).filterMap ndebtF,In64 x.amt:=fun x hx=>(O x (sW hx)).1
   have h3:=sX O;obtain ⟨⟨d1,N⟩,B⟩:∃r,sumM (((l.filterMap (nmineF a)).filterMap ndebtF).filterMap (ntotF a))=r:=⟨_,rfl⟩;obtain ⟨⟨s1,s2⟩,hcs⟩:∃r,sumM (((l.filterMap (nmineF a)).filterMap nclaimF).filterMap (ntotF a))=r:=⟨_,rfl⟩;have M:Hid (nsidesM l a=if N≠0 then (0,0,N) else if s2≠0 then (0,0,s2) else (d1,s1,0)):=aa (by unfold nsidesM;dsimp only;rw [B,hcs]);have J:=aa B;have D:=aa hcs;have X:=aa (Sl.own kLg HO.o);have HD:=aa (mJ _ _ wr X.o n);have h:True:=trivial;clear B hcs;by_cases e1:N=0
   ·subst e1;by_cases e2:s2=0
    ·subst e2;have s:Hid (nsidesM l a=(d1,s1,0)):=aa (by rw [M.o];rfl);clear M;go_wp2_with (first | (go_at_call 343;refine HD.o.mono ?_;rintro e x1 ⟨v1,rfl,t,g⟩;have V:=aa (Sl.own kLg t);have P:=aa (X.o.keep g);have j:=d.trans (g.mono d.size);obtain ⟨a1,z1,rfl⟩:=ag t;clear t g) | (go_at_call 342;have _t:=h;refine (bG _ _ a _ V.o E h1).mono ?_;rintro e x2 ⟨rfl,c2⟩;rw [J.o];have Q:=aa (P.o.keep c2);have i:=j.trans (c2.mono j.size);clear c2 h) | (go_at_call 344;refine (cZ _ _ _ Q.o n O).mono ?_;rintro e x3 ⟨u,rfl,o3,c3⟩;have R:=aa (Sl.own kLg o3);have m:=i.trans (c3.mono i.size);obtain ⟨a3,z3,rfl⟩:=ag o3;clear o3 c3) | (go_at_call 342;refine (bG _ _ a _ R.o I h3).mono ?_;rintro e x4 ⟨rfl,c4⟩;rw [D.o];have z:=m.trans (c4.mono m.size);clear c4))
     go_ret3
     exact ⟨by rw [s.o];rfl,z⟩
    ·have Y:(s2 != 0)=true:=by simpa using e2
     have s:Hid (nsidesM l a=(0,0,s2)):=aa (by rw [M.o,if_neg (by simp),if_pos e2]);clear M e2;go_wp2_with (first | (go_at_call 343;refine HD.o.mono ?_;rintro e x1 ⟨v1,rfl,t,g⟩;have V:=aa (Sl.own kLg t);have P:=aa (X.o.keep g);have j:=d.trans (g.mono d.size);obtain ⟨a1,z1,rfl⟩:=ag t;clear t g) | (go_at_call 342;have _t:=h;refine (bG _ _ a _ V.o E h1).mono ?_;rintro e x2 ⟨rfl,c2⟩;rw [J.o];have Q:=aa (P.o.keep c2);have i:=j.trans (c2.mono j.size);clear c2 h) | (go_at_call 344;refine (cZ _ _ _ Q.o n O).mono ?_;rintro e x3 ⟨u,rfl,o3,c3⟩;have R:=aa (Sl.own kLg o3);have m:=i.trans (c3.mono i.size);obtain ⟨a3,z3,rfl⟩:=ag o3;clear o3 c3) | (go_at_call 342;refine (bG _ _ a _ R.o I h3).mono ?_;rintro e x4 ⟨rfl,c4⟩;rw [D.o];have z:=m.trans (c4.mono m.size);clear c4))
     go_ret3
     exact ⟨by rw [s.o];rfl,z⟩
   ·have Y:(N != 0)=true:=by simpa using e1
    have s:Hid (nsidesM l a=(0,0,N)):=aa (by rw [M.o,if_pos e1]);clear M e1;go_wp2_with (first | (go_at_call 343;refine HD.o.mono ?_;rintro e x1 ⟨v1,rfl,t,g⟩;have V:=aa (Sl.own kLg t);have P:=aa (X.o.keep g);have j:=d.trans (g.mono d.size);obtain ⟨a1,z1,rfl⟩:=ag t;clear t g) | (go_at_call 342;have _t:=h;refine (bG _ _ a _ V.o E h1).mono ?_;rintro e x2 ⟨rfl,c2⟩;rw [J.o];have Q:=aa (P.o.keep c2);have i:=j.trans (c2.mono j.size);clear c2 h) | (go_at_call 344;refine (cZ _ _ _ Q.o n O).mono ?_;rintro e x3 ⟨u,rfl,o3,c3⟩;have R:=aa (Sl.own kLg o3);have m:=i.trans (c3.mono i.size);obtain ⟨a3,z3,rfl⟩:=ag o3;clear o3 c3) | (go_at_call 342;refine (bG _ _ a _ R.o I h3).mono ?_;rintro e x4 ⟨rfl,c4⟩;rw [D.o];have z:=m.trans (c4.mono m.size);clear c4))
    go_ret3
    exact ⟨by rw [s.o];rfl,i⟩
end
end Go.Proofs.YtmhohaanddglbaaGreatDoor
namespace Go.Proofs.YtmhohaanddglbaaGreatDoor
open Go.RowKit
open Go.ChangeMaps (setBlock)
variable {κ:Type}{enc:κ→Value}
def MIter (w:World)(r M N:Nat)(S:List Nat):Prop:=w.heap[r]?=some (.mapIter (some M) N S.toArray N)
theorem MIter.lt {w:World}{r M N:Nat}{S:List Nat}(h:MIter w r M N S):r<w.heap.size:=by
 unfold MIter at h;rw [Array.getElem?_eq_some_iff] at h;exact h.1
theorem MIter.keep {w w':World}{r M N:Nat}{S:List Nat}(h:MIter w r M N S)(hb:Bw w w'):MIter w' r M N S:=(hb.block r h.lt).trans h
theorem MIter.heap {w w':World}{r M N:Nat}{S:List Nat}(h:MIter w r M N S)(hb:w'.heap[r]?=w.heap[r]?):MIter w' r M N S:=hb.trans h
theorem pK {w:World}{M:Nat}{D:List (κ×Value)}{t k e:TypeId}(ht:Tryz.prog.underlying t=some (.map k e))(h:MapB w M enc D):(Instr.range t (.map (some M))).run Tryz.prog w=.ok (ptr w.heap.size) (w.alloc (.mapIter (some M) D.length #[] D.length)):=run_range_map w t k e M _ _ ht h
theorem MIter.new (w:World)(M N:Nat):MIter (w.alloc (.mapIter (some M) N #[] N)) w.heap.size M N []:=heap_alloc_new w _
theorem iP (enc:κ→Value)(D:List (κ×Value)):(ents enc D).map (·.born)=List.range D.length:=by
 unfold ents;apply AY
 intro i;by_cases hi:i<D.length
 ·simp [hi,List.getElem?_range]
 ·simp [hi,List.getElem?_eq_none (by simp;omega:(List.range D.length).length≤i)]
theorem xg (enc:κ→Value)(D:List (κ×Value)):∀x∈(ents enc D).toArray.toList,x.born<D.length:=by
 intro x a;have h:x.born∈(ents enc D).map (·.born):=AD.2 ⟨x,by simpa using a,rfl⟩;rw [iP] at h;simpa using h
theorem sY {D:List (κ×Value)}{x:MapEntry}(hx:x∈ents enc D):∃h:x.born<D.length,x.key=enc D[x.born].1∧x.val=D[x.born].2:=by
 obtain ⟨n,b,f⟩:=Ao hx;have a:=aY enc D n;rw [Ab b,f] at a;have c:n<D.length:=by rw [cp] at b;exact b
 rw [Ab c] at a;have d:x=⟨enc D[n].1,D[n].2,n⟩:=by simpa using a
 subst d;exact ⟨c,rfl,rfl⟩
theorem pL {w:World}{r M:Nat}{D:List (κ×Value)}{S:List Nat}(ty:TypeId)(hM:MapB w M enc D)(hI:MIter w r M D.length S)(hn:S.Nodup)(hS:∀i∈S,i<D.length) :
  (S.Perm (List.range D.length)∧(Instr.next (ptr r) false ty).run Tryz.prog w=.ok (.tuple #[.bool false]) w)∨
  ∃n,∃h:n<D.length,n∉S∧∃w1:World,(w1=w∨w1=w.drew)∧(Instr.next (ptr r) false ty).run Tryz.prog w=.ok (.tuple #[.bool true,enc D[n].1,D[n].2]) (setBlock w1 r (.mapIter (some M) D.length (S++[n]).toArray D.length)):=by
 rcases run_next_at (P:=Tryz.prog) w ty r M D.length D.length S.toArray (ents enc D).toArray D.length hI hM (xg enc D) (zY _) with ⟨h0,hr⟩ | ⟨e,he,w1,hw,hr⟩
 ·refine Or.inl ⟨(List.perm_ext_iff_of_nodup hn List.nodup_range).2 fun a=>⟨fun ha=>by simpa using hS a ha,fun ha=>?_⟩,hr⟩;have c:a<D.length:=by simpa using ha
  by_cases hc:a∈S
  ·exact hc
  ·exfalso;have b:(⟨enc D[a].1,D[a].2,a⟩:MapEntry)∈ents enc D:=by
    refine List.mem_of_getElem? (i:=a) ?_;rw [aY,Ab c];rfl
   have d:(⟨enc D[a].1,D[a].2,a⟩:MapEntry)∈leftOf (ents enc D).toArray S.toArray:=by
    unfold leftOf;simp [b,hc]
   have g:=Array.eq_empty_of_size_eq_zero h0;rw [g] at d;simp at d
 ·have b:e∈ents enc D∧e.born∉S:=by
   unfold leftOf at he;simpa using he
  obtain ⟨c,j,f⟩:=sY b.1;refine Or.inr ⟨e.born,c,b.2,w1,hw,?_⟩;rw [hr];rw [j,f];simp
theorem mO {w:World}{r M n:Nat}{D:List (κ×Value)}{S:List Nat}(hl:n<D.length)(hM:MapB w M enc D)(hI:MIter w r M D.length (S++[n])):(Instr.entry (ptr r)).run Tryz.prog w=.ok (.tuple #[enc D[n].1,D[n].2]) w:=by
 have h:=run_entry_at (P:=Tryz.prog) w r M D.length S.toArray (ents enc D).toArray D.length ⟨enc D[n].1,D[n].2,n⟩ (by unfold MIter at hI;rw [hI];simp) hM (by
  show _∈(ents enc D).toArray.toList
  simp only
  refine List.mem_of_getElem? (i:=n) ?_;rw [aY,Ab hl];rfl) (by
  show ((ents enc D).toArray.toList.map (·.born)).Nodup
  simp only
  rw [iP];exact List.nodup_range)
 exact h
end Go.Proofs.YtmhohaanddglbaaGreatDoor
namespace Go.Proofs.YtmhohaanddglbaaGreatDoor
open Go.RowKit Go.Sort Go.Proofs
variable {N0:Nat}
abbrev enI {N0:Nat}(i:Fin (N0+1)):Value:=Value.int .i64 (i.val:Int)
theorem br (w:World)(blk off:Nat)(d d':Array (Fin (N0+1)))(m n:Nat)(h:d'.size=d.size):(putRow enI ((putRow enI w blk off d).drewN m) blk off d').drewN n=(putRow enI w blk off d').drewN (m+n):=by
 have e:putRow enI ((putRow enI w blk off d).drewN m) blk off d'=(putRow enI (putRow enI w blk off d) blk off d').drewN m:=rfl;rw [e,putRow_putRow enI w blk off d d' h,AT]
theorem bY {g:Nat}{cb:Array Value}{cf:Fin (N0+1)→Fin (N0+1)→Int}{blk off:Nat}{w:World}{d:Array (Fin (N0+1))}(h:CmpReads Tryz.prog g cb enI cf blk off d.size w)(dk:Array (Fin (N0+1)))(hs:dk.size=d.size)(m:Nat):CmpReads Tryz.prog g cb enI cf blk off dk.size ((putRow enI w blk off dk).drewN m):=fun k os dj hj x y=>by
 have e:sortWorld enI ((putRow enI w blk off dk).drewN m) blk off k dj os=sortWorld enI w blk off (m+k) dj os:=by
  unfold sortWorld;congr 1
  have a:putRow enI (Sort.ahead ((putRow enI w blk off dk).drewN m) k) blk off dj=(putRow enI ((putRow enI w blk off dk).drewN m) blk off dj).drewN k:=rfl;rw [a,br w blk off dk dj m k hj];rfl
 rw [e];exact h (m+k) os dj (hj.trans hs) x y
theorem bf {w:World}{blk off:Nat}{d:Array (Fin (N0+1))}(h:Holds enI w blk off d)(dk:Array (Fin (N0+1)))(hs:dk.size=d.size)(m:Nat):Holds enI ((putRow enI w blk off dk).drewN m) blk off dk:=holds_putRow enI w blk off d dk h hs
theorem ia (fv:Value)(blk off cap a b n:Nat)(d:Array (Fin (N0+1)))(w:World)(hH:Holds enI w blk off d)(hab:a+n≤b)(hb:b+n≤d.size)(hsz:d.size<4611686018427387904) :
  Calls Tryz.prog 397 #[.slice (some ⟨blk,off,none⟩) d.size cap,.int .i64 a,.int .i64 b,.int .i64 n,fv] w fun e w'=>
   e=.returned (.tuple #[])∧∃k d',d'.size=d.size∧PermIn a (b+n) d d'∧w'=(putRow enI w blk off d').drewN k:=by
 have t:Hid (w=(putRow enI w blk off d).drewN 0):=aa (putRow_self enI w blk off d hH).symm;have B:=aa hH;clear hH;go_enter Tryz.func397,Tryz.ntmps397;go_wp2;go_loopw [10] (fun vi wr=>∃(i m:Nat) (c:Array (Fin (N0+1))),vi=.int .i64 i∧i≤n∧c.size=d.size∧wr=(putRow enI w blk off c).drewN m∧PermIn a (b+n) d c) (fun vi _=>n - (intOf vi).toNat)
 case atStart=>exact ⟨0,0,d,rfl,Af _,rfl,t.o,permIn_refl d a (b+n)⟩
 case round=>
  obtain ⟨i,m,c,rfl,z,g,l,u⟩:=hrel;have v:=aa u;clear u;by_cases hlt:i<n
  ·have f:=bf B.o c g m;rw [←l] at f;obtain ⟨y,C⟩:=f (a+i) (by omega);obtain ⟨c2,f2⟩:=f (b+i) (by omega);obtain ⟨x1,hx1⟩:∃x,c[a+i]! =x:=⟨_,rfl⟩;obtain ⟨x2,hx2⟩:∃x,c[b+i]! =x:=⟨_,rfl⟩;rw [hx1] at y;rw [hx2] at c2;have A:=aa l;have s:=aa hx1;have r:=aa hx2;obtain ⟨p,hp⟩:∃p,a+i=p:=⟨_,rfl⟩;obtain ⟨q,hq⟩:∃q,b+i=q:=⟨_,rfl⟩;rw [hp] at y C;rw [hq] at c2 f2;have D:(a:Int)+(i:Int)=(p:Nat):=by omega
   have G:(b:Int)+(i:Int)=(q:Nat):=by omega
   have j:=aa hp;have h:=aa hq;have H:p<d.size:=by omega
   have F:q<d.size:=by omega
   have E:p≠q:=by omega
   clear f l hx1 hx2 hp hq;go_wp2_with fail;go_region
   all_goals go_wp2
   go_roundw
   case rel=>
    refine ⟨i+1,m+1,swp c p q,by go_num,by omega,by rw [size_swp];exact g,?_,permIn_trans d c _ a (b+n) v.o (swp_permIn c a (b+n) p q (by have:=j.o;omega) (by have:=j.o;omega) (by have:=h.o;omega) (by have:=h.o;omega) (by omega))⟩;rw [A.o,←s.o,←r.o];have:=j.o
    have:=h.o
    subst p q;exact swap_worldC enI w blk off c m (a+i) (b+i) (by omega) (by omega)
   case measure=>simp [intOf];omega
  ·go_wp2_with fail;go_end0;have:=v.o
   exact ⟨rfl,m,c,g,this,rfl⟩
theorem gm (fv:Value)(blk off cap a m b:Nat)(d:Array (Fin (N0+1)))(w:World)(hH:Holds enI w blk off d)(ham:a<m)(hmb:m<b)(hb:b≤d.size)(hsz:d.size<4611686018427387904) :
  Calls Tryz.prog 379 #[.slice (some ⟨blk,off,none⟩) d.size cap,.int .i64 a,.int .i64 m,.int .i64 b,fv] w fun e w'=>
   e=.returned (.tuple #[])∧∃k d',d'.size=d.size∧PermIn a b d d'∧w'=(putRow enI w blk off d').drewN k:=by
 have D:Hid (w=(putRow enI w blk off d).drewN 0):=aa (putRow_self enI w blk off d hH).symm;have N:=aa hH;clear hH;have r:∀(x y n:Nat) (c:Array (Fin (N0+1))) (k:Nat),a≤x→x+n≤y→y+n≤b→c.size=d.size→PermIn a b d c→Calls Tryz.prog 397 #[.slice (some ⟨blk,off,none⟩) d.size cap,.int .i64 x,.int .i64 y,.int .i64 n,fv] ((putRow enI w blk off c).drewN k) fun e w'=>e=.returned (.tuple #[])∧∃k d',d'.size=d.size∧PermIn a b d d'∧w'=(putRow enI w blk off d').drewN k:=by
  intro x y n c k K I L H v;have:=ia fv blk off cap x y n c _ (bf N.o c H k) I (by omega) (by omega)
  rw [H] at this;refine this.mono ?_;rintro e w' ⟨rfl,l,h,g,f,rfl⟩;exact ⟨rfl,k+l,h,g,permIn_trans d c h a b v (permIn_mono c h x (y+n) a b K L (by omega) f),br w blk off c h k l (by omega)⟩
 have E:=aa r;clear r;go_enter Tryz.func379,Tryz.ntmps379;have R:wrap64 ((m:Int) - (a:Int))=((m - a:Nat):Int):=by unfold wrap64;omega
 have P:wrap64 ((b:Int) - (m:Int))=((b - m:Nat):Int):=by unfold wrap64;omega
 go_wp2;go_loopw [10,11] (fun vi vj wr=>∃(i j k:Nat) (c:Array (Fin (N0+1))),vi=.int .i64 i∧vj=.int .i64 j∧0<i∧0<j∧a+i≤m∧m+j≤b∧c.size=d.size∧wr=(putRow enI w blk off c).drewN k∧PermIn a b d c) (fun vi vj _=>(intOf vi).toNat+(intOf vj).toNat)
 case atStart=>exact ⟨m - a,b - m,0,d,by first | rfl | (congr 1;omega),by first | rfl | (congr 1;omega),by omega,by omega,by omega,by omega,rfl,D.o,permIn_refl d a b⟩
 case round=>
  obtain ⟨i,j,k,c,rfl,rfl,Q,S,M,J,p,u,v⟩:=hrel;have A:=aa v;have B:=aa u;clear v u;rcases Nat.lt_trichotomy i j with hlt | heq | hgt
  ·have z:((i:Int)==(j:Int))=false:=by simp;omega
   have G:(m:Int) - (i:Int)=((m - i:Nat):Int):=by omega
   have O:(m:Int)+(j:Int) - (i:Int)=((m+j - i:Nat):Int):=by omega
   have C:=E.o (m - i) (m+j - i) i c k (by omega) (by omega) (by omega) p A.o;rw [←B.o] at C;have s:=aa C;clear C;have t:¬ ((j:Int)<(i:Int)):=by omega
   go_wp2_with (go_at_call 397;refine s.o.mono ?_;rintro e F ⟨rfl,l,h,g,f,q⟩)
   go_roundw
   case rel=>exact ⟨i,j - i,l,h,rfl,by first | go_num | (congr 1;omega),by omega,by omega,by omega,by omega,g,rfl,f⟩
   case measure=>simp [intOf];omega
  ·subst heq;have G:(m:Int) - (i:Int)=((m - i:Nat):Int):=by omega
   have C:=E.o (m - i) m i c k (by omega) (by omega) (by omega) p A.o;rw [←B.o] at C;have s:=aa C;clear C;go_wp2_with (go_at_call 397;refine s.o.mono ?_;rintro e F ⟨rfl,l,h,g,f,q⟩)
   go_end0;exact ⟨rfl,l,h,g,f,by first | rfl | exact q⟩
  ·have z:((i:Int)==(j:Int))=false:=by simp;omega
   have G:(m:Int) - (i:Int)=((m - i:Nat):Int):=by omega
   have C:=E.o (m - i) m j c k (by omega) (by omega) (by omega) p A.o;rw [←B.o] at C;have s:=aa C;clear C;have t:((j:Int)<(i:Int)):=by omega
   go_wp2_with (go_at_call 397;refine s.o.mono ?_;rintro e F ⟨rfl,l,h,g,f,q⟩)
   go_roundw
   case rel=>exact ⟨i - j,j,l,h,by first | go_num | (congr 1;omega),rfl,by omega,by omega,by omega,by omega,g,rfl,f⟩
   case measure=>simp [intOf];omega
def PermW (blk off a b:Nat)(d:Array (Fin (N0+1)))(w:World)(e:Ending)(w':World):Prop:=e=.returned (.tuple #[])∧∃k d',d'.size=d.size∧PermIn a b d d'∧w'=(putRow enI w blk off d').drewN k
theorem jC (cf:Fin (N0+1)→Fin (N0+1)→Int)(g:Nat)(cb:Array Value)(eg:∀args w,(callFunc g args).run Tryz.prog w=.ok (.enter g args) w)(blk off cap a m b:Nat)(d:Array (Fin (N0+1)))(w:World)(hcmp:CmpReads Tryz.prog g cb enI cf blk off d.size w)(hH:Holds enI w blk off d)(ham:a<m)(hmb:m<b)(hb:b≤d.size)(hsz:d.size<1000000)(hm1:m - a=1) :
  Calls Tryz.prog 366 #[.slice (some ⟨blk,off,none⟩) d.size cap,.int .i64 a,.int .i64 m,.int .i64 b,.func (.func g) #[] cb] w (PermW blk off a b d w):=by
 have V:Hid (w=(putRow enI w blk off d).drewN 0):=aa (putRow_self enI w blk off d hH).symm;have E:=aa hH;have U:=aa hcmp;have v:∀q x y,Calls Tryz.prog g (#[enI x,enI y]++cb) (w.drewN q) fun e w'=>e=.returned (.int .i64 (cf x y))∧∃q',w'=(w.drewN q).drewN q':=fun q x y=>by
  have:=hcmp q #[] d rfl x y
  rw [sortWorld_none,putRow_self enI w blk off d hH] at this;exact this
 have Q:=aa v;have l:∀j,j<d.size→∀q,(w.drewN q).cell? ⟨blk,off+j,none⟩=some (enI d[j]!):=fun j hj q=>(hH j hj).1
 have A:=aa l;clear hH hcmp v l;have Z:((m:Int) - (a:Int)==1)=true:=by simp;omega
 go_enter Tryz.func366,Tryz.ntmps366;go_wp2_with fail;go_loopw [10,11] (fun vi vj wr=>∃i j q:Nat,vi=.int .i64 i∧vj=.int .i64 j∧m≤i∧i≤j∧j≤b∧wr=w.drewN q) (fun vi vj _=>(intOf vj).toNat - (intOf vi).toNat)
 case atStart=>exact ⟨m,b,0,by first | rfl | (congr 1;omega),by first | rfl | (congr 1;omega),by omega,by omega,by omega,rfl⟩
 case round=>
  obtain ⟨i,j,q,rfl,rfl,Y,W,h3,r⟩:=hrel;have D:=aa r;by_cases hlt:i<j
  ·have G:=A.o ((i+j) / 2) (by omega) q;have K:=A.o (a) (by omega) q;rw [←r] at G K;have T:((i+j) / 2)<d.size:=by omega
   have R:(a)<d.size:=by omega
   obtain ⟨x,J⟩:∃x,d[(i+j) / 2]! =x:=⟨_,rfl⟩;obtain ⟨y,hy⟩:∃y,d[a]! =y:=⟨_,rfl⟩;rw [J] at G;rw [hy] at K;have s:∀n,Calls Tryz.prog g (#[enI x,enI y]++cb) (wr.drewN n) fun e w'=>e=.returned (.int .i64 (cf x y))∧∃q',w'=(wr.drewN n).drewN q':=fun n=>by
    have:=Q.o (q+n) x y
    rw [←AT,←r] at this;exact this
   have z:=aa s;clear r s J hy;by_cases hv:cf x y<0
   ·go_wp2_with fail;go_quiet (first | (go_at_fn g;refine Calls.quiet_of (z.o _)))
    go_wp2_with fail;go_roundw
    case rel=>exact ⟨(i+j) / 2+1,j,q+nq,by go_num,rfl,by omega,by omega,by omega,by rw [D.o,AT]⟩
    case measure=>simp [intOf];omega
   ·go_wp2_with fail;go_quiet (first | (go_at_fn g;refine Calls.quiet_of (z.o _)))
    go_wp2_with fail;go_roundw
    case rel=>exact ⟨i,(i+j) / 2,q+nq,rfl,by go_num,by omega,by omega,by omega,by rw [D.o,AT]⟩
    case measure=>simp [intOf];omega
  ·obtain rfl:i=j:=by omega
   go_wp2_with fail;go_loopw [13] (fun vk wr2=>∃(k n:Nat) (h:Array (Fin (N0+1))),vk=.int .i64 k∧a≤k∧k+1≤i∧h.size=d.size∧wr2=(putRow enI w blk off h).drewN n∧PermIn a b d h) (fun vk _=>i - (intOf vk).toNat)
   case atStart=>exact ⟨a,q,d,rfl,by omega,by omega,rfl,by first | rfl | (rw [putRow_self enI w blk off d E.o]) | (rw [D.o,putRow_self enI w blk off d E.o]),permIn_refl d a b⟩
   case round=>
    obtain ⟨k,n,h,rfl,O,N,t,c,L⟩:=hrel;have M:=aa L;clear L;by_cases hlk:k+1<i
    ·have u:=bf E.o h t n;obtain ⟨p,I⟩:∃p,k+1=p:=⟨_,rfl⟩;have S:p<d.size:=by omega
     obtain ⟨H,P⟩:=u k (by omega);obtain ⟨c2,f2⟩:=u p (by omega);rw [←c] at H P c2 f2;obtain ⟨x1,hx1⟩:∃x,h[k]! =x:=⟨_,rfl⟩;obtain ⟨x2,hx2⟩:∃x,h[p]! =x:=⟨_,rfl⟩;rw [hx1] at H;rw [hx2] at c2;have C:=aa c;have F:=aa hx1;have B:=aa hx2;have s1:(k:Int)+1=(p:Nat):=by omega
     have X:k<d.size:=by omega
     have z3:p≠k:=by omega
     have f:=aa I;clear u c hx1 hx2 I;go_wp2_with fail;go_region
     all_goals go_wp2
     go_roundw
     case rel=>
      refine ⟨k+1,n+1,swp h k p,by first | go_num | (congr 1;have:=f.o;omega),by have:=f.o;omega,by have:=f.o;omega,by rw [size_swp];exact t,?_,permIn_trans d h _ a b M.o (swp_permIn h a b k p (by omega) (by omega) (by have:=f.o;omega) (by have:=f.o;omega) (by omega))⟩;rw [C.o,←F.o,←B.o];exact swap_worldC enI w blk off h n k p (by omega) (by omega)
     case measure=>have:=f.o;simp [intOf];omega
    ·go_wp2_with fail;go_end0;exact ⟨rfl,n,h,t,M.o,by first | rfl | exact c⟩
theorem ib (cf:Fin (N0+1)→Fin (N0+1)→Int)(g:Nat)(cb:Array Value)(eg:∀args w,(callFunc g args).run Tryz.prog w=.ok (.enter g args) w)(blk off cap a m b:Nat)(d:Array (Fin (N0+1)))(w:World)(hcmp:CmpReads Tryz.prog g cb enI cf blk off d.size w)(hH:Holds enI w blk off d)(ham:a<m)(hmb:m<b)(hb:b≤d.size)(hsz:d.size<1000000)(hm1:¬ m - a=1)(hm2:b - m=1) :
  Calls Tryz.prog 366 #[.slice (some ⟨blk,off,none⟩) d.size cap,.int .i64 a,.int .i64 m,.int .i64 b,.func (.func g) #[] cb] w (PermW blk off a b d w):=by
 have X:Hid (w=(putRow enI w blk off d).drewN 0):=aa (putRow_self enI w blk off d hH).symm;have E:=aa hH;have W:=aa hcmp;have v:∀q x y,Calls Tryz.prog g (#[enI x,enI y]++cb) (w.drewN q) fun e w'=>e=.returned (.int .i64 (cf x y))∧∃q',w'=(w.drewN q).drewN q':=fun q x y=>by
  have:=hcmp q #[] d rfl x y
  rw [sortWorld_none,putRow_self enI w blk off d hH] at this;exact this
 have R:=aa v;have l:∀j,j<d.size→∀q,(w.drewN q).cell? ⟨blk,off+j,none⟩=some (enI d[j]!):=fun j hj q=>(hH j hj).1
 have A:=aa l;clear hH hcmp v l;have hz:((m:Int) - (a:Int)==1)=false:=by simp;omega
 have S:((b:Int) - (m:Int)==1)=true:=by simp;omega
 go_enter Tryz.func366,Tryz.ntmps366;go_wp2_with fail;go_loopw [14,15] (fun vi vj wr=>∃i j q:Nat,vi=.int .i64 i∧vj=.int .i64 j∧a≤i∧i≤j∧j≤m∧wr=w.drewN q) (fun vi vj _=>(intOf vj).toNat - (intOf vi).toNat)
 case atStart=>exact ⟨a,m,0,by first | rfl | (congr 1;omega),by first | rfl | (congr 1;omega),by omega,by omega,by omega,rfl⟩
 case round=>
  obtain ⟨i,j,q,rfl,rfl,h1,Y,h3,r⟩:=hrel;have D:=aa r;by_cases hlt:i<j
  ·have G:=A.o (m) (by omega) q;have K:=A.o ((i+j) / 2) (by omega) q;rw [←r] at G K;have V:(m)<d.size:=by omega
   have T:((i+j) / 2)<d.size:=by omega
   obtain ⟨x,J⟩:∃x,d[m]! =x:=⟨_,rfl⟩;obtain ⟨y,hy⟩:∃y,d[(i+j) / 2]! =y:=⟨_,rfl⟩;rw [J] at G;rw [hy] at K;have s:∀n,Calls Tryz.prog g (#[enI x,enI y]++cb) (wr.drewN n) fun e w'=>e=.returned (.int .i64 (cf x y))∧∃q',w'=(wr.drewN n).drewN q':=fun n=>by
    have:=R.o (q+n) x y
    rw [←AT,←r] at this;exact this
   have z:=aa s;clear r s J hy;by_cases hv:cf x y<0
   ·have N:=dT hv;go_wp2_with fail;go_quiet (first | (go_at_fn g;refine Calls.quiet_of (z.o _)))
    go_wp2_with fail;go_roundw
    case rel=>exact ⟨i,(i+j) / 2,q+nq,rfl,by go_num,by omega,by omega,by omega,by rw [D.o,AT]⟩
    case measure=>simp [intOf];omega
   ·have N:=dF hv;go_wp2_with fail;go_quiet (first | (go_at_fn g;refine Calls.quiet_of (z.o _)))
    go_wp2_with fail;go_roundw
    case rel=>exact ⟨(i+j) / 2+1,j,q+nq,by go_num,rfl,by omega,by omega,by omega,by rw [D.o,AT]⟩
    case measure=>simp [intOf];omega
  ·obtain rfl:i=j:=by omega
   go_wp2_with fail;go_loopw [17] (fun vk wr2=>∃(k n:Nat) (h:Array (Fin (N0+1))),vk=.int .i64 k∧i≤k∧k≤m∧h.size=d.size∧wr2=(putRow enI w blk off h).drewN n∧PermIn a b d h) (fun vk _=>(intOf vk).toNat)
   case atStart=>exact ⟨m,q,d,rfl,by omega,by omega,rfl,by first | rfl | (rw [putRow_self enI w blk off d E.o]) | (rw [D.o,putRow_self enI w blk off d E.o]),permIn_refl d a b⟩
   case round=>
    obtain ⟨k,n,h,rfl,P,O,t,c,L⟩:=hrel;have M:=aa L;clear L;by_cases hlk:i<k
    ·have u:=bf E.o h t n;obtain ⟨p,I⟩:∃p,k - 1=p:=⟨_,rfl⟩;have U:p<d.size:=by omega
     obtain ⟨H,Q⟩:=u k (by omega);obtain ⟨c2,f2⟩:=u p (by omega);rw [←c] at H Q c2 f2;obtain ⟨x1,hx1⟩:∃x,h[k]! =x:=⟨_,rfl⟩;obtain ⟨x2,hx2⟩:∃x,h[p]! =x:=⟨_,rfl⟩;rw [hx1] at H;rw [hx2] at c2;have C:=aa c;have F:=aa hx1;have B:=aa hx2;have s1:(k:Int) - 1=(p:Nat):=by omega
     have Z:k<d.size:=by omega
     have z3:p≠k:=by omega
     have f:=aa I;clear u c hx1 hx2 I;go_wp2_with fail;go_region
     all_goals go_wp2
     go_roundw
     case rel=>
      refine ⟨p,n+1,swp h k p,by first | go_num | (congr 1;have:=f.o;omega),by have:=f.o;omega,by have:=f.o;omega,by rw [size_swp];exact t,?_,permIn_trans d h _ a b M.o (swp_permIn h a b k p (by omega) (by omega) (by have:=f.o;omega) (by have:=f.o;omega) (by omega))⟩;rw [C.o,←F.o,←B.o];exact swap_worldC enI w blk off h n k p (by omega) (by omega)
     case measure=>have:=f.o;simp [intOf];omega
    ·go_wp2_with fail;go_end0;exact ⟨rfl,n,h,t,M.o,by first | rfl | exact c⟩
variable {N0:Nat}
theorem kz (cf:Fin (N0+1)→Fin (N0+1)→Int)(g:Nat)(cb:Array Value)(eg:∀args w,(callFunc g args).run Tryz.prog w=.ok (.enter g args) w)(blk off cap a m b:Nat)(d:Array (Fin (N0+1)))(w:World)(hcmp:CmpReads Tryz.prog g cb enI cf blk off d.size w)(hH:Holds enI w blk off d)(ham:a<m)(hmb:m<b)(hb:b≤d.size)(hsz:d.size<1000000)(hm1:¬ m - a=1)(hm2:¬ b - m=1)(hmm:(a+b) / 2<m)(N:Nat)(hN:b - a≤N+1)(ih:∀(a m b:Nat)(d:Array (Fin (N0+1)))(w:World),b - a≤N→CmpReads Tryz.prog g cb enI cf blk off d.size w→Holds enI w blk off d→a<m→m<b→b≤d.size→d.size<1000000→Calls Tryz.prog 366 #[.slice (some ⟨blk,off,none⟩) d.size cap,.int .i64 a,.int .i64 m,.int .i64 b,.func (.func g) #[] cb] w (PermW blk off a b d w)) :
  Calls Tryz.prog 366 #[.slice (some ⟨blk,off,none⟩) d.size cap,.int .i64 a,.int .i64 m,.int .i64 b,.func (.func g) #[] cb] w (PermW blk off a b d w):=by
 have aj:Hid (w=(putRow enI w blk off d).drewN 0):=aa (putRow_self enI w blk off d hH).symm;have HH:=aa hH;have IH:=aa ih;clear ih;have ad:=aa hcmp;have K:∀q x y,Calls Tryz.prog g (#[enI x,enI y]++cb) (w.drewN q) fun e C=>e=.returned (.int .i64 (cf x y))∧∃q',C=(w.drewN q).drewN q':=fun q x y=>by
  have:=hcmp q #[] d rfl x y
  rw [sortWorld_none,putRow_self enI w blk off d hH] at this;exact this
 have HC:=aa K;have A:∀j,j<d.size→∀q,(w.drewN q).cell? ⟨blk,off+j,none⟩=some (enI d[j]!):=fun j hj q=>(hH j hj).1
 have S:=aa A;clear hH hcmp K A;have hz:((m:Int) - (a:Int)==1)=false:=by simp;omega
 have ag:((b:Int) - (m:Int)==1)=false:=by simp;omega
 obtain ⟨f,Q⟩:∃f,(a+b) / 2=f:=⟨_,rfl⟩;have s0:((a:Int)+(b:Int)) / 2=(f:Int):=by omega
 have ac:Hid (∀(W:World) (u:Array (Fin (N0+1))) (k:Nat),W=(putRow enI w blk off u).drewN k→u.size=d.size→PermIn a b d u→∀x c y:Nat,a≤x→x<c→c<y→y≤b→
   Calls Tryz.prog 379 #[.slice (some ⟨blk,off,none⟩) d.size cap,.int .i64 x,.int .i64 c,.int .i64 y,.func (.func g) #[] cb] W fun e C=>e=.returned (.tuple #[])∧∃k d',d'.size=d.size∧PermIn a b d d'∧C=(putRow enI w blk off d').drewN k):=aa (by
  intro W u k hW J hP x c y X T U Z;subst hW;have:=gm (.func (.func g) #[] cb) blk off cap x c y u _ (bf HH.o u J k) T U (by omega) (by omega)
  rw [J] at this;refine this.mono ?_;rintro e C ⟨rfl,P,B,H,I,rfl⟩;exact ⟨rfl,k+P,B,H,permIn_trans d u B a b hP (permIn_mono u B x y a b X Z (by omega) I),br w blk off u B k P (by omega)⟩)
 have L:Hid (∀(W:World) (u:Array (Fin (N0+1))) (k:Nat),W=(putRow enI w blk off u).drewN k→u.size=d.size→PermIn a b d u→∀x c y:Nat,a≤x→x<c→c<y→y≤b→y - x≤N→
   Calls Tryz.prog 366 #[.slice (some ⟨blk,off,none⟩) d.size cap,.int .i64 x,.int .i64 c,.int .i64 y,.func (.func g) #[] cb] W fun e C=>e=.returned (.tuple #[])∧∃k d',d'.size=d.size∧PermIn a b d d'∧C=(putRow enI w blk off d').drewN k):=aa (by
  intro W u k hW J hP x c y X T U Z h5;subst hW;have:=IH.o x c y u _ h5 (bY ad.o u J k) (bf HH.o u J k) T U (by omega) (by omega)
  rw [J] at this;refine this.mono ?_;rintro e C ⟨rfl,P,B,H,I,rfl⟩;exact ⟨rfl,k+P,B,H.trans J,permIn_trans d u B a b hP (permIn_mono u B x y a b X Z (by omega) I),br w blk off u B k P (by omega)⟩)
 rw [Q] at hmm;have s1:(f:Int)+(m:Int) - (b:Int)=((f+m - b:Nat):Int):=by omega
 obtain ⟨V,ab⟩:∃V,f+m - b=V:=⟨_,rfl⟩;rw [ab] at s1;have ae:(f:Int)<(m:Int):=by omega
 go_enter Tryz.func366,Tryz.ntmps366;go_wp2_with fail;go_loopw [20,21] (fun vi vj wr=>∃i j q:Nat,vi=.int .i64 i∧vj=.int .i64 j∧V≤i∧i≤j∧j≤f∧wr=w.drewN q) (fun vi vj _=>(intOf vj).toNat - (intOf vi).toNat)
 case atStart=>exact ⟨V,f,0,by first | rfl | (congr 1;omega),by first | rfl | (congr 1;omega),by omega,by omega,by omega,rfl⟩
 case round=>
  obtain ⟨i,j,q,rfl,rfl,X,T,U,z⟩:=hrel;have Y:=aa z;by_cases hlt:i<j
  ·obtain ⟨p,hp⟩:∃p,f+m - 1 - (i+j) / 2=p:=⟨_,rfl⟩;have af:p<d.size:=by omega
   have s2:(f:Int)+(m:Int) - 1 - ((i:Int)+(j:Int)) / 2=(p:Int):=by omega
   have r1:=S.o p (by omega) q;have r2:=S.o ((i+j) / 2) (by omega) q;rw [←z] at r1 r2;have ai:(i+j) / 2<d.size:=by omega
   obtain ⟨x,hx⟩:∃x,d[p]! =x:=⟨_,rfl⟩;obtain ⟨y,hy⟩:∃y,d[(i+j) / 2]! =y:=⟨_,rfl⟩;rw [hx] at r1;rw [hy] at r2;have F:∀n,Calls Tryz.prog g (#[enI x,enI y]++cb) (wr.drewN n) fun e C=>e=.returned (.int .i64 (cf x y))∧∃q',C=(wr.drewN n).drewN q':=fun n=>by
    have:=HC.o (q+n) x y
    rw [←AT,←z] at this;exact this
   have R:=aa F;clear z F hx hy hp;by_cases hv:cf x y<0
   ·have hd:=dT hv;go_wp2_with fail;go_quiet (first | (go_at_fn g;refine Calls.quiet_of (R.o _)))
    go_wp2_with fail;go_roundw
    case rel=>exact ⟨i,(i+j) / 2,q+nq,rfl,by go_num,by omega,by omega,by omega,by rw [Y.o,AT]⟩
    case measure=>simp [intOf];omega
   ·have hd:=dF hv;go_wp2_with fail;go_quiet (first | (go_at_fn g;refine Calls.quiet_of (R.o _)))
    go_wp2_with fail;go_roundw
    case rel=>exact ⟨(i+j) / 2+1,j,q+nq,by go_num,rfl,by omega,by omega,by omega,by rw [Y.o,AT]⟩
    case measure=>simp [intOf];omega
  ·obtain rfl:i=j:=by omega
   have O:Hid (w.drewN q=(putRow enI w blk off d).drewN q):=aa (by rw [putRow_self enI w blk off d HH.o]);obtain ⟨M,ah⟩:∃M:Nat,f+m - i=M:=⟨_,rfl⟩;have s3:(f:Int)+(m:Int) - (i:Int)=(M:Int):=by omega
   obtain ⟨v,D,s,l,h⟩:∃(v:Array (Fin (N0+1))) (D:Nat),v.size=d.size∧PermIn a b d v∧wr=(putRow enI w blk off v).drewN D:=⟨d,q,rfl,permIn_refl d a b,by rw [Y.o];exact O.o⟩;have r:=aa l;have t:=aa h;clear l h Y O z;have E:True:=trivial;have G:True:=trivial;go_wp2_with (first
    | (go_at_call 379;have _t:=E;refine (ac.o _ v D t.o s r.o i m M (by omega) (by omega) (by omega) (by omega)).mono ?_;clear t r s;rintro e w1 ⟨rfl,D,v,s,l,h⟩;have t:=aa h;have r:=aa l;clear h l E)
    | (go_at_call 366;have _t:=G;have _c:a<i∧i<f:=(by omega);refine (L.o _ v D t.o s r.o a i f (by omega) (by omega) (by omega) (by omega) (by omega)).mono ?_;clear t r s _c;rintro e w1 ⟨rfl,D,v,s,l,h⟩;have t:=aa h;have r:=aa l;clear h l G)
    | (go_at_call 366;refine (L.o _ v D t.o s r.o f M b (by omega) (by omega) (by omega) (by omega) (by omega)).mono ?_;clear t r s;rintro e w1 ⟨rfl,D,v,s,l,h⟩;have t:=aa h;have r:=aa l;clear h l))
   all_goals
    go_end0;exact ⟨rfl,D,v,s,r.o,by first | rfl | exact t.o⟩
theorem kA (cf:Fin (N0+1)→Fin (N0+1)→Int)(g:Nat)(cb:Array Value)(eg:∀args w,(callFunc g args).run Tryz.prog w=.ok (.enter g args) w)(blk off cap a m b:Nat)(d:Array (Fin (N0+1)))(w:World)(hcmp:CmpReads Tryz.prog g cb enI cf blk off d.size w)(hH:Holds enI w blk off d)(ham:a<m)(hmb:m<b)(hb:b≤d.size)(hsz:d.size<1000000)(hm1:¬ m - a=1)(hm2:¬ b - m=1)(hmm:¬ (a+b) / 2<m)(N:Nat)(hN:b - a≤N+1)(ih:∀(a m b:Nat)(d:Array (Fin (N0+1)))(w:World),b - a≤N→CmpReads Tryz.prog g cb enI cf blk off d.size w→Holds enI w blk off d→a<m→m<b→b≤d.size→d.size<1000000→Calls Tryz.prog 366 #[.slice (some ⟨blk,off,none⟩) d.size cap,.int .i64 a,.int .i64 m,.int .i64 b,.func (.func g) #[] cb] w (PermW blk off a b d w)) :
  Calls Tryz.prog 366 #[.slice (some ⟨blk,off,none⟩) d.size cap,.int .i64 a,.int .i64 m,.int .i64 b,.func (.func g) #[] cb] w (PermW blk off a b d w):=by
 have ai:Hid (w=(putRow enI w blk off d).drewN 0):=aa (putRow_self enI w blk off d hH).symm;have HH:=aa hH;have IH:=aa ih;clear ih;have ac:=aa hcmp;have K:∀q x y,Calls Tryz.prog g (#[enI x,enI y]++cb) (w.drewN q) fun e C=>e=.returned (.int .i64 (cf x y))∧∃q',C=(w.drewN q).drewN q':=fun q x y=>by
  have:=hcmp q #[] d rfl x y
  rw [sortWorld_none,putRow_self enI w blk off d hH] at this;exact this
 have HC:=aa K;have A:∀j,j<d.size→∀q,(w.drewN q).cell? ⟨blk,off+j,none⟩=some (enI d[j]!):=fun j hj q=>(hH j hj).1
 have S:=aa A;clear hH hcmp K A;have hz:((m:Int) - (a:Int)==1)=false:=by simp;omega
 have af:((b:Int) - (m:Int)==1)=false:=by simp;omega
 obtain ⟨f,Q⟩:∃f,(a+b) / 2=f:=⟨_,rfl⟩;have s0:((a:Int)+(b:Int)) / 2=(f:Int):=by omega
 have ab:Hid (∀(W:World) (u:Array (Fin (N0+1))) (k:Nat),W=(putRow enI w blk off u).drewN k→u.size=d.size→PermIn a b d u→∀x c y:Nat,a≤x→x<c→c<y→y≤b→
   Calls Tryz.prog 379 #[.slice (some ⟨blk,off,none⟩) d.size cap,.int .i64 x,.int .i64 c,.int .i64 y,.func (.func g) #[] cb] W fun e C=>e=.returned (.tuple #[])∧∃k d',d'.size=d.size∧PermIn a b d d'∧C=(putRow enI w blk off d').drewN k):=aa (by
  intro W u k hW J Z x c y V T U Y;subst hW;have:=gm (.func (.func g) #[] cb) blk off cap x c y u _ (bf HH.o u J k) T U (by omega) (by omega)
  rw [J] at this;refine this.mono ?_;rintro e C ⟨rfl,P,B,H,I,rfl⟩;exact ⟨rfl,k+P,B,H,permIn_trans d u B a b Z (permIn_mono u B x y a b V Y (by omega) I),br w blk off u B k P (by omega)⟩)
 have L:Hid (∀(W:World) (u:Array (Fin (N0+1))) (k:Nat),W=(putRow enI w blk off u).drewN k→u.size=d.size→PermIn a b d u→∀x c y:Nat,a≤x→x<c→c<y→y≤b→y - x≤N→
   Calls Tryz.prog 366 #[.slice (some ⟨blk,off,none⟩) d.size cap,.int .i64 x,.int .i64 c,.int .i64 y,.func (.func g) #[] cb] W fun e C=>e=.returned (.tuple #[])∧∃k d',d'.size=d.size∧PermIn a b d d'∧C=(putRow enI w blk off d').drewN k):=aa (by
  intro W u k hW J Z x c y V T U Y h5;subst hW;have:=IH.o x c y u _ h5 (bY ac.o u J k) (bf HH.o u J k) T U (by omega) (by omega)
  rw [J] at this;refine this.mono ?_;rintro e C ⟨rfl,P,B,H,I,rfl⟩;exact ⟨rfl,k+P,B,H.trans J,permIn_trans d u B a b Z (permIn_mono u B x y a b V Y (by omega) I),br w blk off u B k P (by omega)⟩)
 rw [Q] at hmm;have ad:¬ ((f:Int)<(m:Int)):=by omega
 go_enter Tryz.func366,Tryz.ntmps366;go_wp2_with fail;go_loopw [20,21] (fun vi vj wr=>∃i j q:Nat,vi=.int .i64 i∧vj=.int .i64 j∧a≤i∧i≤j∧j≤m∧wr=w.drewN q) (fun vi vj _=>(intOf vj).toNat - (intOf vi).toNat)
 case atStart=>exact ⟨a,m,0,by first | rfl | (congr 1;omega),by first | rfl | (congr 1;omega),by omega,by omega,by omega,rfl⟩
 case round=>
  obtain ⟨i,j,q,rfl,rfl,V,T,U,z⟩:=hrel;have X:=aa z;by_cases hlt:i<j
  ·obtain ⟨p,hp⟩:∃p,f+m - 1 - (i+j) / 2=p:=⟨_,rfl⟩;have ae:p<d.size:=by omega
   have s2:(f:Int)+(m:Int) - 1 - ((i:Int)+(j:Int)) / 2=(p:Int):=by omega
   have r1:=S.o p (by omega) q;have r2:=S.o ((i+j) / 2) (by omega) q;rw [←z] at r1 r2;have ah:(i+j) / 2<d.size:=by omega
   obtain ⟨x,hx⟩:∃x,d[p]! =x:=⟨_,rfl⟩;obtain ⟨y,hy⟩:∃y,d[(i+j) / 2]! =y:=⟨_,rfl⟩;rw [hx] at r1;rw [hy] at r2;have F:∀n,Calls Tryz.prog g (#[enI x,enI y]++cb) (wr.drewN n) fun e C=>e=.returned (.int .i64 (cf x y))∧∃q',C=(wr.drewN n).drewN q':=fun n=>by
    have:=HC.o (q+n) x y
    rw [←AT,←z] at this;exact this
   have R:=aa F;clear z F hx hy hp;by_cases hv:cf x y<0
   ·have hd:=dT hv;go_wp2_with fail;go_quiet (first | (go_at_fn g;refine Calls.quiet_of (R.o _)))
    go_wp2_with fail;go_roundw
    case rel=>exact ⟨i,(i+j) / 2,q+nq,rfl,by go_num,by omega,by omega,by omega,by rw [X.o,AT]⟩
    case measure=>simp [intOf];omega
   ·have hd:=dF hv;go_wp2_with fail;go_quiet (first | (go_at_fn g;refine Calls.quiet_of (R.o _)))
    go_wp2_with fail;go_roundw
    case rel=>exact ⟨(i+j) / 2+1,j,q+nq,by go_num,rfl,by omega,by omega,by omega,by rw [X.o,AT]⟩
    case measure=>simp [intOf];omega
  ·obtain rfl:i=j:=by omega
   have O:Hid (w.drewN q=(putRow enI w blk off d).drewN q):=aa (by rw [putRow_self enI w blk off d HH.o]);obtain ⟨M,ag⟩:∃M:Nat,f+m - i=M:=⟨_,rfl⟩;have s3:(f:Int)+(m:Int) - (i:Int)=(M:Int):=by omega
   obtain ⟨v,D,s,l,h⟩:∃(v:Array (Fin (N0+1))) (D:Nat),v.size=d.size∧PermIn a b d v∧wr=(putRow enI w blk off v).drewN D:=⟨d,q,rfl,permIn_refl d a b,by rw [X.o];exact O.o⟩;have r:=aa l;have t:=aa h;clear l h X O z;have E:True:=trivial;have G:True:=trivial;go_wp2_with (first
    | (go_at_call 379;have _t:=E;refine (ab.o _ v D t.o s r.o i m M (by omega) (by omega) (by omega) (by omega)).mono ?_;clear t r s;rintro e w1 ⟨rfl,D,v,s,l,h⟩;have t:=aa h;have r:=aa l;clear h l E)
    | (go_at_call 366;have _t:=G;have _c:a<i∧i<f:=(by omega);refine (L.o _ v D t.o s r.o a i f (by omega) (by omega) (by omega) (by omega) (by omega)).mono ?_;clear t r s _c;rintro e w1 ⟨rfl,D,v,s,l,h⟩;have t:=aa h;have r:=aa l;clear h l G)
    | (go_at_call 366;refine (L.o _ v D t.o s r.o f M b (by omega) (by omega) (by omega) (by omega) (by omega)).mono ?_;clear t r s;rintro e w1 ⟨rfl,D,v,s,l,h⟩;have t:=aa h;have r:=aa l;clear h l))
   all_goals
    go_end0;exact ⟨rfl,D,v,s,r.o,by first | rfl | exact t.o⟩
variable {N0:Nat}
theorem jD (cf:Fin (N0+1)→Fin (N0+1)→Int)(g:Nat)(cb:Array Value)(eg:∀args w,(callFunc g args).run Tryz.prog w=.ok (.enter g args) w)(blk off cap:Nat):∀(N a m b:Nat)(d:Array (Fin (N0+1)))(w:World),b - a≤N→CmpReads Tryz.prog g cb enI cf blk off d.size w→Holds enI w blk off d→a<m→m<b→b≤d.size→d.size<1000000→
  Calls Tryz.prog 366 #[.slice (some ⟨blk,off,none⟩) d.size cap,.int .i64 a,.int .i64 m,.int .i64 b,.func (.func g) #[] cb] w (PermW blk off a b d w):=by
 intro N;induction N with
 | zero=>intro a m b d w h _ _ k l;omega
 | succ N ih=>
  intro a m b d w p c n i f o j;by_cases k:m - a=1
  ·exact jC cf g cb eg blk off cap a m b d w c n i f o j k
  ·by_cases l:b - m=1
   ·exact ib cf g cb eg blk off cap a m b d w c n i f o j k l
   ·by_cases h3:(a+b) / 2<m
    ·exact kz cf g cb eg blk off cap a m b d w c n i f o j k l h3 N p ih
    ·exact kA cf g cb eg blk off cap a m b d w c n i f o j k l h3 N p ih
theorem dN (cf:Fin (N0+1)→Fin (N0+1)→Int)(g:Nat)(cb:Array Value)(eg:∀args w,(callFunc g args).run Tryz.prog w=.ok (.enter g args) w)(blk off cap a b:Nat)(d:Array (Fin (N0+1)))(w:World)(hcmp:CmpReads Tryz.prog g cb enI cf blk off d.size w)(hH:Holds enI w blk off d)(hab:a≤b)(hb:b≤d.size)(hsz:d.size<1000000) :
  Calls Tryz.prog 365 #[.slice (some ⟨blk,off,none⟩) d.size cap,.int .i64 a,.int .i64 b,.func (.func g) #[] cb] w fun e w'=>e=.returned (.tuple #[])∧∃n,w'=(putRow enI w blk off (Sort.insertionSort (ltOf cf) d a b)).drewN n:=
 Any.insertionSortCmpFunc_one Tryz.l365 enI (fun _=>rfl) cf g cb blk off cap a b d w eg hcmp hH hab hb (by omega)
theorem jE (cf:Fin (N0+1)→Fin (N0+1)→Int)(g:Nat)(cb:Array Value)(eg:∀args w,(callFunc g args).run Tryz.prog w=.ok (.enter g args) w)(blk off cap:Nat)(d:Array (Fin (N0+1)))(w:World)(hcmp:CmpReads Tryz.prog g cb enI cf blk off d.size w)(hH:Holds enI w blk off d)(hsz:d.size<20) :
  Calls Tryz.prog 338 #[.slice (some ⟨blk,off,none⟩) d.size cap,.int .i64 d.size,.func (.func g) #[] cb] w fun e w'=>e=.returned (.tuple #[])∧∃n,w'=(putRow enI w blk off (Sort.insertionSort (ltOf cf) d 0 d.size)).drewN n:=by
 have a:=aa (dN cf g cb eg blk off cap 0 d.size d w hcmp hH (Af _) (zY _) (by omega));clear hcmp hH;go_enter Tryz.func338,Tryz.ntmps338;go_wp2_with fail;go_loopw [7,8] (fun va vb wr=>va=.int .i64 0∧vb=.int .i64 20∧wr=w) (fun _ _ _=>0)
 case atStart=>exact ⟨rfl,rfl,rfl⟩
 case round=>
  obtain ⟨rfl,rfl,rfl⟩:=hrel;go_wp2_with (go_at_call 365;refine a.o.mono ?_;rintro e w1 ⟨rfl,n,hw⟩;have b:=aa hw;clear hw)
  go_loopw [6] (fun vs wr2=>vs=.int .i64 20∧wr2=w1) (fun _ _=>0)
  case atStart=>exact ⟨rfl,rfl⟩
  case round=>
   obtain ⟨rfl,rfl⟩:=hrel;go_wp2_with fail;go_end0;exact ⟨rfl,n,b.o⟩
theorem eL (cf:Fin (N0+1)→Fin (N0+1)→Int)(g:Nat)(cb:Array Value)(eg:∀args w,(callFunc g args).run Tryz.prog w=.ok (.enter g args) w)(blk off cap:Nat)(d:Array (Fin (N0+1)))(w:World)(hcmp:CmpReads Tryz.prog g cb enI cf blk off d.size w)(hH:Holds enI w blk off d)(hsz:d.size<20) :
  Calls Tryz.prog 292 #[.slice (some ⟨blk,off,none⟩) d.size cap,.func (.func g) #[] cb] w fun e w'=>e=.returned (.tuple #[])∧∃n,w'=(putRow enI w blk off (Sort.insertionSort (ltOf cf) d 0 d.size)).drewN n:=by
 have b:=aa (jE cf g cb eg blk off cap d w hcmp hH hsz);clear hcmp hH;go_enter Tryz.func292,Tryz.ntmps292;go_wp2_with (go_at_call 338;refine b.o.mono ?_;rintro e c ⟨rfl,n,a⟩)
 go_end0;exact ⟨rfl,n,by first | rfl | exact a⟩
variable {N0:Nat}
theorem ic (lt:Fin (N0+1)→Fin (N0+1)→Bool)(a b:Nat):∀(j:Nat)(d:Array (Fin (N0+1))),j<b→b≤d.size→(insInner lt a j d).size=d.size∧PermIn a b d (insInner lt a j d):=by
 intro j;induction j with
 | zero=>intro d _ _;exact ⟨rfl,permIn_refl d a b⟩
 | succ j ih=>
  intro d f g;rw [insInner];split
  ·rename_i h
   simp only [gt_iff_lt,Bool.and_eq_true,decide_eq_true_eq] at h;have i:=size_swp d (j+1) j;have c:=ih (swp d (j+1) j) (by omega) (by omega);refine ⟨c.1.trans i,permIn_trans d (swp d (j+1) j) _ a b (swp_permIn d a b (j+1) j (by omega) f (by omega) (by omega) g) c.2⟩
  ·exact ⟨rfl,permIn_refl d a b⟩
theorem ie (lt:Fin (N0+1)→Fin (N0+1)→Bool)(a b:Nat):∀(n i:Nat)(d:Array (Fin (N0+1))),b - i=n→b≤d.size→(insOuter lt a b i d).size=d.size∧PermIn a b d (insOuter lt a b i d):=by
 intro n;induction n with
 | zero=>intro i d h g;rw [insOuter_stop lt a b i d (by omega)];exact ⟨rfl,permIn_refl d a b⟩
 | succ n ih=>
  intro i d h g;rw [insOuter_go lt a b i d (by omega)];have f:=ic lt a b i d (by omega) g;have c:=ih (i+1) (insInner lt a i d) (by omega) (by omega);exact ⟨c.1.trans f.1,permIn_trans d _ _ a b f.2 c.2⟩
theorem de (lt:Fin (N0+1)→Fin (N0+1)→Bool)(a b:Nat)(d:Array (Fin (N0+1)))(hb:b≤d.size):(Sort.insertionSort lt d a b).size=d.size∧PermIn a b d (Sort.insertionSort lt d a b):=ie lt a b (b - (a+1)) (a+1) d rfl hb
theorem kB (cf:Fin (N0+1)→Fin (N0+1)→Int)(g:Nat)(cb:Array Value)(eg:∀args w,(callFunc g args).run Tryz.prog w=.ok (.enter g args) w)(blk off cap:Nat)(d:Array (Fin (N0+1)))(w:World)(hcmp:CmpReads Tryz.prog g cb enI cf blk off d.size w)(hH:Holds enI w blk off d)(hsz:d.size<100000) :
  Calls Tryz.prog 338 #[.slice (some ⟨blk,off,none⟩) d.size cap,.int .i64 d.size,.func (.func g) #[] cb] w (PermW blk off 0 d.size d w):=by
 have X:Hid (w=(putRow enI w blk off d).drewN 0):=aa (putRow_self enI w blk off d hH).symm;have K:Hid (∀(W:World) (a:Array (Fin (N0+1))) (k:Nat),W=(putRow enI w blk off a).drewN k→a.size=d.size→PermIn 0 d.size d a→∀x y:Nat,x≤y→y≤d.size→
   Calls Tryz.prog 365 #[.slice (some ⟨blk,off,none⟩) d.size cap,.int .i64 x,.int .i64 y,.func (.func g) #[] cb] W fun e B=>e=.returned (.tuple #[])∧∃k d',d'.size=d.size∧PermIn 0 d.size d d'∧B=(putRow enI w blk off d').drewN k):=aa (by
  intro W a k O h A x y P N;subst O;have:=dN cf g cb eg blk off cap x y a _ (bY hcmp a h k) (bf hH a h k) P (by omega) (by omega)
  rw [h] at this;refine this.mono ?_;rintro e B ⟨rfl,m,rfl⟩;have S:=de (ltOf cf) x y a (by omega);exact ⟨rfl,k+m,_,S.1.trans h,permIn_trans d a _ 0 d.size A (permIn_mono a _ x y 0 d.size (Af _) N (by omega) S.2),br w blk off a _ k m S.1⟩)
 have H:Hid (∀(W:World) (a:Array (Fin (N0+1))) (k:Nat),W=(putRow enI w blk off a).drewN k→a.size=d.size→PermIn 0 d.size d a→∀x c y:Nat,x<c→c<y→y≤d.size→
   Calls Tryz.prog 366 #[.slice (some ⟨blk,off,none⟩) d.size cap,.int .i64 x,.int .i64 c,.int .i64 y,.func (.func g) #[] cb] W fun e B=>e=.returned (.tuple #[])∧∃k d',d'.size=d.size∧PermIn 0 d.size d d'∧B=(putRow enI w blk off d').drewN k):=aa (by
  intro W a k O h A x c y P N h3;subst O;have:=jD cf g cb eg blk off cap (y - x) x c y a _ (zY _) (bY hcmp a h k) (bf hH a h k) P N (by omega) (by omega)
  rw [h] at this;refine this.mono ?_;rintro e B ⟨rfl,m,n,f,j,rfl⟩;exact ⟨rfl,k+m,n,f.trans h,permIn_trans d a n 0 d.size A (permIn_mono a n x y 0 d.size (Af _) h3 (by omega) j),br w blk off a n k m f⟩)
 clear hcmp hH;go_enter Tryz.func338,Tryz.ntmps338;go_wp2_with fail;go_loopw [7,8] (fun va vb wr=>∃(x k:Nat) (a:Array (Fin (N0+1))),va=.int .i64 x∧vb=.int .i64 ((x:Int)+20)∧x≤d.size∧a.size=d.size∧PermIn 0 d.size d a∧wr=(putRow enI w blk off a).drewN k) (fun va _ _=>d.size - (intOf va).toNat)
 case atStart=>exact ⟨0,0,d,rfl,rfl,Af _,rfl,permIn_refl d 0 d.size,X.o⟩
 case round=>
  obtain ⟨x,k,a,rfl,rfl,hx,h,A,M⟩:=hrel;have HW:=aa M;have HP:=aa A;clear M A;by_cases hlt:x+20≤d.size
  ·have C:=K.o _ a k HW.o h HP.o x (x+20) (by omega) hlt;rw [show (((x+20:Nat):Int))=(x:Int)+20 by omega] at C;have R:=aa C;clear C;go_wp2_with (go_at_call 365;refine R.o.mono ?_;rintro e w1 ⟨rfl,m,n,f,j,i⟩;have t:=aa i;clear i)
   go_roundw
   case rel=>exact ⟨x+20,m,n,by go_num,by first | go_num | (congr 1;omega),hlt,f,j,t.o⟩
   case measure=>simp [intOf];omega
  ·have R:=aa (K.o _ a k HW.o h HP.o x d.size hx (zY _));go_wp2_with (go_at_call 365;refine R.o.mono ?_;rintro e w1 ⟨rfl,m,n,f,j,i⟩;have t:=aa i;clear i)
   go_loopw [6] (fun vs wr2=>∃(b k:Nat) (a:Array (Fin (N0+1))),vs=.int .i64 b∧20≤b∧b≤200000∧a.size=d.size∧PermIn 0 d.size d a∧wr2=(putRow enI w blk off a).drewN k) (fun vs _=>d.size - (intOf vs).toNat)
   case atStart=>exact ⟨20,m,n,rfl,by omega,by omega,f,j,t.o⟩
   case round=>
    obtain ⟨b,Z,Y,rfl,ac,ab,D,G,F⟩:=hrel;have J:=aa F;have I:=aa G;clear F G;by_cases hlt2:b<d.size
    ·go_wp2_with fail;go_loopw [7,8] (fun va vb wr=>∃(x k:Nat) (a:Array (Fin (N0+1))),va=.int .i64 x∧vb=.int .i64 ((x:Int)+2 * (b:Int))∧x≤d.size∧a.size=d.size∧PermIn 0 d.size d a∧wr=(putRow enI w blk off a).drewN k) (fun va _ _=>d.size - (intOf va).toNat)
     case atStart=>exact ⟨0,Z,Y,rfl,by first | rfl | go_num | (congr 1;omega),Af _,D,I.o,J.o⟩
     case round=>
      obtain ⟨y,V,U,rfl,rfl,hy,r,L,E⟩:=hrel;have v:=aa E;have s:=aa L;clear E L;by_cases hl4:y+2 * b≤d.size
      ·have C:=H.o _ U V v.o r s.o y (y+b) (y+2 * b) (by omega) (by omega) hl4;rw [show (((y+b:Nat):Int))=(y:Int)+(b:Int) by omega,show (((y+2 * b:Nat):Int))=(y:Int)+2 * (b:Int) by omega] at C;have z:=aa C;clear C;go_wp2_with (go_at_call 366;refine z.o.mono ?_;rintro e w5 ⟨rfl,Q,T,q,u,l⟩;have p:=aa l;clear l)
       go_roundw
       case rel=>exact ⟨y+2 * b,Q,T,by first | go_num | (congr 1;omega),by first | go_num | (congr 1;omega),hl4,q,u,p.o⟩
       case measure=>simp [intOf];omega
      ·by_cases hl5:y+b<d.size
       ·have C:=H.o _ U V v.o r s.o y (y+b) d.size (by omega) hl5 (zY _);rw [show (((y+b:Nat):Int))=(y:Int)+(b:Int) by omega] at C;have z:=aa C;clear C;go_wp2_with (go_at_call 366;refine z.o.mono ?_;rintro e w5 ⟨rfl,Q,T,q,u,l⟩;have p:=aa l;clear l)
        go_roundw
        case rel=>exact ⟨2 * b,Q,T,by first | go_num | (congr 1;omega),by omega,by omega,q,u,p.o⟩
        case measure=>simp [intOf];omega
       ·go_wp2_with fail;go_roundw
        case rel=>exact ⟨2 * b,V,U,by first | go_num | (congr 1;omega),by omega,by omega,r,s.o,v.o⟩
        case measure=>simp [intOf];omega
    ·go_wp2_with fail;go_end0;exact ⟨rfl,Z,Y,D,I.o,J.o⟩
theorem fu (cf:Fin (N0+1)→Fin (N0+1)→Int)(g:Nat)(cb:Array Value)(eg:∀args w,(callFunc g args).run Tryz.prog w=.ok (.enter g args) w)(blk off cap:Nat)(d:Array (Fin (N0+1)))(w:World)(hcmp:CmpReads Tryz.prog g cb enI cf blk off d.size w)(hH:Holds enI w blk off d)(hsz:d.size<100000) :
  Calls Tryz.prog 292 #[.slice (some ⟨blk,off,none⟩) d.size cap,.func (.func g) #[] cb] w (PermW blk off 0 d.size d w):=by
 have c:=aa (kB cf g cb eg blk off cap d w hcmp hH hsz);clear hcmp hH;go_enter Tryz.func292,Tryz.ntmps292;go_wp2_with (go_at_call 338;refine c.o.mono ?_;rintro e f ⟨rfl,a⟩;have b:=aa a;clear a)
 go_end0;exact ⟨rfl,b.o⟩
def cmpL:List Int→List Int→Int
 | [],[]=>0
 | [],_ :: _=>-1
 | _ :: _,[]=>1
 | a :: l,b :: m=>if cmpM a b=0 then cmpL l m else cmpM a b
theorem pM (l m:List Int)(k:Nat)(h1:k<l.length)(h2:k<m.length):cmpL (l.drop k) (m.drop k)=if cmpM l[k] m[k]=0 then cmpL (l.drop (k+1)) (m.drop (k+1)) else cmpM l[k] m[k]:=by
 rw [Bi h1,Bi h2,cmpL]
theorem pN (l m:List Int)(k:Nat)(h1:k<l.length)(h2:m.length≤k):cmpL (l.drop k) (m.drop k)=1:=by
 rw [Bi h1,List.drop_of_length_le h2,cmpL]
theorem sZ (l m:List Int)(k:Nat)(h1:l.length≤k):cmpL (l.drop k) (m.drop k)=if k<m.length then -1 else 0:=by
 rw [List.drop_of_length_le h1];by_cases h:k<m.length
 ·rw [Bi h,cmpL,if_pos h]
 ·rw [List.drop_of_length_le (by omega),cmpL,if_neg h]
theorem jF (v u:Value)(l m:List Int)(w:World)(hv:Sl eI 1 w v l)(hu:Sl eI 1 w u m):Calls Tryz.prog 339 #[v,u] w fun e w'=>e=.returned (.int .i64 (cmpL l m))∧w'=w:=by
 obtain ⟨a,I,rfl,K,r,f⟩:=hv.ints;obtain ⟨a2,cap2,rfl,hd1,hd2,hdell⟩:=hu.ints;unfold maxLen at r hd2;have j:=aa f;have i:=aa hdell;clear f hdell hv hu;go_enter Tryz.func339,Tryz.ntmps339;go_wp2_with fail;go_loopw [11] (fun vi wr=>∃k:Nat,k≤l.length∧k≤m.length∧vi=.int .i64 k∧wr=w∧cmpL (l.drop k) (m.drop k)=cmpL l m) (fun vi _=>l.length - (intOf vi).toNat)
 case atStart=>exact ⟨0,Af _,Af _,rfl,rfl,rfl⟩
 case round=>
  obtain ⟨k,M,E,rfl,rfl,t⟩:=hrel;have p:=aa t;clear t;by_cases hlt:k<l.length
  ·obtain ⟨b,F,rfl,D,g⟩:=j.o (by omega);have N:=g k hlt;have B:(0:Int)≤(k:Int):=by omega
   have H:(k:Int)<(l.length:Int):=by omega
   by_cases hlt2:k<m.length
   ·obtain ⟨L,z,rfl,A,n⟩:=i.o (by omega);have O:=n k hlt2;have J:(k:Int)<(m.length:Int):=by omega
    have d:=aa (pM l m k hlt hlt2);clear g n;generalize l[k]=x at *;generalize m[k]=y at *;obtain ⟨c,s⟩:∃c,cmpM x y=c:=⟨_,rfl⟩;rw [s] at d;have q:=aa s;clear s;by_cases h0:c=0
    ·subst h0;rw [if_pos rfl] at d;go_wp2_with (go_at_call 233;refine (bN _ _ _).mono ?_;rintro e C ⟨rfl,rfl⟩;rw [q.o])
     go_roundw
     case rel=>exact ⟨k+1,by omega,by omega,by go_num,by first | rfl | trivial,by rw [←d.o];exact p.o⟩
     case measure=>simp [intOf];omega
    ·rw [if_neg h0] at d;have G:(c != 0)=true:=by simpa using h0
     clear h0;go_wp2_with (go_at_call 233;refine (bN _ _ _).mono ?_;rintro e C ⟨rfl,rfl⟩;rw [q.o])
     go_ret;exact ⟨by rw [←p.o,d.o];rfl,rfl⟩
   ·have d:=aa (pN l m k hlt (by omega));clear g;go_wp2_with fail;go_ret;exact ⟨by rw [←p.o,d.o];rfl,rfl⟩
  ·have d:=aa (sZ l m k (by omega));by_cases h:k<m.length
   ·rw [if_pos h] at d;go_wp2_with fail;go_ret;exact ⟨by rw [←p.o,d.o];rfl,rfl⟩
   ·rw [if_neg h] at d;go_wp2_with fail;go_ret;exact ⟨by rw [←p.o,d.o];rfl,rfl⟩
theorem te (v u:Value)(l m:List Int)(w:World)(hv:Sl eI 1 w v l)(hu:Sl eI 1 w u m):Calls Tryz.prog 294 #[v,u] w fun e w'=>e=.returned (.int .i64 (cmpL l m))∧w'=w:=by
 have c:=aa (jF v u l m w hv hu);obtain ⟨a,b,rfl,_⟩:=hv.ints;obtain ⟨a2,cap2,rfl,_⟩:=hu.ints;clear hv hu;go_enter Tryz.func294,Tryz.ntmps294;go_wp2_with (go_at_call 339;refine c.o.mono ?_;rintro e w1 ⟨rfl,rfl⟩)
 go_ret;exact ⟨rfl,rfl⟩
def eV (v:Value):List Value:=[v]
structure KeysAt (w:World)(v:Value)(K:List (List Int))(vs:List Value):Prop where
 len:vs.length=K.length
 sl:Sl eV 1 w v vs
 row:∀i (h:i<vs.length) (h2:i<K.length),Sl eI 1 w vs[i] K[i]
theorem mP (bx:Nat)(v:Value)(K:List (List Int))(vs:List Value)(x y:Nat)(hx:x<K.length)(hy:y<K.length)(w:World)(hb:w.cell? ⟨bx,0,none⟩=some v)(hk:KeysAt w v K vs) :
  Calls Tryz.prog 293 #[.int .i64 x,.int .i64 y,.pointer (some ⟨bx,0,none⟩)] w fun e w'=>e=.returned (.int .i64 (cmpL K[x] K[y]))∧∃q,w'=w.drewN q:=by
 have A:=hk.len;obtain ⟨a,t,rfl,_,z,i,c⟩:=hk.sl;obtain ⟨b,off,rfl,hbl,hcl⟩:=c (by omega);have l:=hcl x (by omega) 0 _ rfl;have k:=hcl y (by omega) 0 _ rfl;rw [A0,AU] at l k;have j:=aa (hk.row x (by omega) hx);have g:=aa (hk.row y (by omega) hy);unfold maxLen at i;have m:(0:Int)≤(x:Int):=by omega
 have r:(x:Int)<(vs.length:Int):=by omega
 have p:(0:Int)≤(y:Int):=by omega
 have u:(y:Int)<(vs.length:Int):=by omega
 have n:=j.o;have s:=g.o;obtain ⟨B,C,f,_⟩:=n;obtain ⟨ay,cy,hvy,_⟩:=s;rw [f] at l j;rw [hvy] at k g;clear f hvy hcl c hk;go_enter Tryz.func293,Tryz.ntmps293;go_wp2_with fail;go_quiet (first | (go_at_call 294;refine Calls.quiet_of ((te _ _ _ _ _ j.o.d g.o.d).mono (fun _ _ h=>⟨h.1,0,h.2⟩))))
 go_wp2_with fail;go_ret;exact ⟨rfl,_,rfl⟩
theorem ins0 (a:Option Addr)(cap:Nat)(f:Value)(w:World):Calls Tryz.prog 365 #[.slice a 0 cap,.int .i64 0,.int .i64 0,f] w fun e w'=>e=.returned (.tuple #[])∧w'=w:=by
 go_enter Tryz.func365,Tryz.ntmps365;go_wp2_with fail;go_loopw [8] (fun vi wr=>vi=.int .i64 1∧wr=w) (fun _ _=>0)
 case atStart=>exact ⟨rfl,rfl⟩
 case round=>
  obtain ⟨rfl,rfl⟩:=hrel;go_wp2_with fail;go_end0;exact ⟨rfl,rfl⟩
theorem xh (a:Option Addr)(cap:Nat)(f:Value)(w:World):Calls Tryz.prog 338 #[.slice a 0 cap,.int .i64 0,f] w fun e w'=>e=.returned (.tuple #[])∧w'=w:=by
 go_enter Tryz.func338,Tryz.ntmps338;go_wp2_with fail;go_loopw [7,8] (fun va vb wr=>va=.int .i64 0∧vb=.int .i64 20∧wr=w) (fun _ _ _=>0)
 case atStart=>exact ⟨rfl,rfl,rfl⟩
 case round=>
  obtain ⟨rfl,rfl,rfl⟩:=hrel;go_wp2_with (go_at_call 365;refine (ins0 _ _ _ _).mono ?_;rintro e w1 ⟨rfl,rfl⟩)
  go_loopw [6] (fun vs wr2=>vs=.int .i64 20∧wr2=w1) (fun _ _=>0)
  case atStart=>exact ⟨rfl,rfl⟩
  case round=>
   obtain ⟨rfl,rfl⟩:=hrel;go_wp2_with fail;go_end0;exact ⟨rfl,rfl⟩
theorem sort0 (a:Option Addr)(cap:Nat)(f:Value)(w:World):Calls Tryz.prog 292 #[.slice a 0 cap,f] w fun e w'=>e=.returned (.tuple #[])∧w'=w:=by
 go_enter Tryz.func292,Tryz.ntmps292;go_wp2_with (go_at_call 338;refine (xh _ _ _ _).mono ?_;rintro e b ⟨rfl,rfl⟩)
 go_end0;exact ⟨rfl,rfl⟩
theorem Sl.old {α:Type}{enc:α→List Value}{k N:Nat}{w w':World}{v:Value}{l:List α}(h:Sl enc k w v l)(hw:N=w.heap.size)(hs:N≤w'.heap.size)(hc:∀a:Addr,a.block<N→w'.cell? a=w.cell? a):Sl enc k w' v l:=by
 obtain ⟨a,c,g,n,f,m,d⟩:=h;refine ⟨a,c,g,n,f,m,fun h0=>?_⟩;obtain ⟨b,off,ha,hlt,hx⟩:=d h0;exact ⟨b,off,ha,by omega,fun i hi j x hj=>(hc ⟨b,off+i * k+j,none⟩ (by show b<N;omega)).trans (hx i hi j x hj)⟩
theorem KeysAt.old {w w':World}{v:Value}{K:List (List Int)}{vs:List Value}{N:Nat}(h:KeysAt w v K vs)(hw:N=w.heap.size)(hs:N≤w'.heap.size)(hc:∀a:Addr,a.block<N→w'.cell? a=w.cell? a):KeysAt w' v K vs:=
 ⟨h.len,h.sl.old hw hs hc,fun i h1 h2=>(h.row i h1 h2).old hw hs hc⟩
def keyCmp (K:List (List Int)){N0:Nat}(x y:Fin (N0+1)):Int:=cmpL (K.getD x.val []) (K.getD y.val [])
theorem kC (v:Value)(K:List (List Int))(vs:List Value)(N0:Nat)(hK:K.length=N0+1)(w wr:World)(hk:KeysAt w v K vs)(blk bx:Nat)(hbl:w.heap.size≤blk)(hbx:w.heap.size≤bx)(hne:bx≠blk)(hlow:Bw w wr)(hbb:bx<wr.heap.size)(hb:wr.cell? ⟨bx,0,none⟩=some v)(n:Nat) :
  CmpReads Tryz.prog 293 #[.pointer (some ⟨bx,0,none⟩)] (enI (N0:=N0)) (keyCmp K) blk 0 n wr:=by
 intro m g f l x y;have k:x.val<K.length:=by have:=x.isLt;omega
 have j:y.val<K.length:=by have:=y.isLt;omega
 have i:(sortWorld enI wr blk 0 m f g).heap.size=wr.heap.size+g.size:=by unfold sortWorld putRow mapBlock Sort.ahead;simp [grow]
 have d:(putRow enI (Sort.ahead wr m) blk 0 f).heap.size=wr.heap.size:=by unfold putRow mapBlock Sort.ahead;simp
 have b:∀a:Addr,a.block<wr.heap.size→a.block≠blk→(sortWorld enI wr blk 0 m f g).cell? a=wr.cell? a:=fun a h1 h2=>by
  unfold sortWorld;rw [cell?_grow _ _ _ (by rw [d];exact h1),cell?_putRow_other enI _ blk 0 f a (Or.inl h2)];rfl
 have h:=mP bx v K vs x.val y.val k j (sortWorld enI wr blk 0 m f g) ((b ⟨bx,0,none⟩ hbb hne).trans hb) (hk.old rfl (by rw [i];have:=hlow.size;omega) (fun a ha=>(b a (AR ha hlow.size) (by omega)).trans (hlow.c ha)));have e:keyCmp K x y=cmpL K[x.val] K[y.val]:=by unfold keyCmp;rw [Ah,Ab k,Ah,Ab j];rfl
 rw [e];exact h
def fillL (n k:Nat):List Value:=(List.range k).map (fun i=>Value.int .i64 (i:Nat))++List.replicate (n - k) (.int .i64 0)
theorem gn (n k:Nat)(h:k≤n):(fillL n k).length=n:=by simp [fillL];omega
theorem tg (n k:Nat)(h:k<n):(fillL n k).set k (.int .i64 (k:Nat))=fillL n (k+1):=by
 unfold fillL;rw [List.set_append_right _ _ (by simp),List.range_succ,AI];obtain ⟨r,a⟩:∃r,n - k=r+1:=⟨n - k - 1,by omega⟩;rw [a,show n - (k+1)=r by omega];simp [List.replicate_succ]
theorem mQ (v:Value)(K:List (List Int))(vs:List Value)(w:World)(hk:KeysAt w v K vs)(hn:K.length≤10000)(R:Ending→World→Prop)
  (H:∀wr,Bw w wr→Blk wr w.heap.size 313 #[v]→Blk wr (w.heap.size+1) 3 (fillL K.length K.length).toArray→Calls Tryz.prog 292 #[.slice (some ⟨w.heap.size+1,0,none⟩) K.length K.length,.func (.func 293) #[] #[.pointer (some ⟨w.heap.size,0,none⟩)]] wr fun e w'=>e=.returned (.tuple #[])∧R (.returned (.slice (some ⟨w.heap.size+1,0,none⟩) K.length K.length)) w') :
  Calls Tryz.prog 244 #[v] w R:=by
 have x:=hk.len;obtain ⟨a,d,rfl,_,J,l,i⟩:=hk.sl;unfold maxLen at l;rw [x] at *;have m:=run_make_row' (P:=Tryz.prog) 74 3 (.int .i64 0) 8 Tryz.underlying74 im rfl .i64 .i64 K.length (by omega) (by omega);have F:=aa H;have j:madeCells #[.int .i64 0] K.length=(fillL K.length 0).toArray:=by
  have h:=iq K.length;rw [A0] at h;apply Array.toList_inj.1
  refine h.trans ?_;rw [ee,List.map_replicate];simp [fillL]
 rw [j] at m;clear i hk H j x;go_enter Tryz.func244,Tryz.ntmps244;go_wp2_with fail;have z:Bw w (w.alloc (.cells #[.slice a K.length d] 313)):=Bn;have E:∃wr:World,wr=(w.alloc (.cells #[.slice a K.length d] 313)).alloc (.cells (fillL K.length 0).toArray 3):=⟨_,rfl⟩;have A:Bw w ((w.alloc (.cells #[.slice a K.length d] 313)).alloc (.cells (fillL K.length 0).toArray 3))∧Blk ((w.alloc (.cells #[.slice a K.length d] 313)).alloc (.cells (fillL K.length 0).toArray 3)) w.heap.size 313 #[.slice a K.length d]∧Blk ((w.alloc (.cells #[.slice a K.length d] 313)).alloc (.cells (fillL K.length 0).toArray 3)) (w.heap.size+1) 3 (fillL K.length 0).toArray:=by
  refine ⟨z.alloc z.size _,(Blk.new w 313 _).alloc _,?_⟩;have h:=Blk.new (w.alloc (.cells #[.slice a K.length d] 313)) 3 (fillL K.length 0).toArray;simpa using h
 have r:=aa A;clear E A;go_loopw [10] (fun vi wr=>∃k:Nat,k≤K.length∧vi=.int .i64 k∧Bw w wr∧Blk wr w.heap.size 313 #[.slice a K.length d]∧Blk wr (w.heap.size+1) 3 (fillL K.length k).toArray) (fun vi _=>K.length - (intOf vi).toNat)
 case atStart=>exact ⟨0,Af _,rfl,r.o⟩
 case round=>
  obtain ⟨k,hk,rfl,b,g,f⟩:=hrel;have n:=aa g;have p:=aa f;by_cases hlt:k<K.length
  ·have s:=f.c k;have N:=f.free k;rw [AM,Ab (by rw [gn _ _ hk];exact hlt)] at s;have D:(0:Int)≤(k:Int):=by omega
   have I:(k:Int)<(K.length:Int):=by omega
   have y:=g.far (k:=w.heap.size+1) k (.int .i64 (k:Nat)) (by omega);have B:Blk (wr.setCell ⟨w.heap.size+1,k,none⟩ (.int .i64 (k:Nat))) (w.heap.size+1) 3 (fillL K.length (k+1)).toArray:=by
    have h:=f.set k (.int .i64 (k:Nat));rw [←tg K.length k hlt];simpa using h
   have t:Bw w (wr.setCell ⟨w.heap.size+1,k,none⟩ (.int .i64 (k:Nat))):=⟨b.os,b.tape,b.output,by simpa [World.setCell] using b.size,fun k' hk'=>(An wr ⟨w.heap.size+1,k,none⟩ _ k' (by show k'≠w.heap.size+1;omega)).trans (b.block k' hk')⟩;have L:=aa (And.intro t (And.intro y B));clear y B t g f;generalize (fillL K.length k)[k]'(by rw [gn _ _ hk];exact hlt)=u at s;go_wp2_with fail;go_roundw
   case rel=>exact ⟨k+1,by omega,by go_num,L.o⟩
   case measure=>simp [intOf];omega
  ·obtain rfl:k=K.length:=by omega
   clear g f;have G:=aa (F.o wr b n.o p.o);go_wp2_with (go_at_call 292;refine G.o.mono ?_;rintro e M ⟨rfl,C⟩;have q:=aa C;clear C)
   exact q.o
def idA (N0:Nat):Array (Fin (N0+1)):=Array.ofFn (fun i=>i)
theorem dg (N0:Nat):(idA N0).size=N0+1:=by simp [idA]
theorem pO (N0 L:Nat)(w:World)(hb:Blk w L 3 (fillL (N0+1) (N0+1)).toArray):Holds enI w L 0 (idA N0):=by
 intro j a;rw [dg] at a;refine ⟨?_,hb.free (0+j)⟩;rw [hb.c (0+j),Av,AM];simp [fillL,a,idA,enI]
def orderM (K:List (List Int)):List Nat:=match K.length with
 | 0=>[]
 | N0+1=>(Sort.insertionSort (ltOf (keyCmp K)) (idA N0) 0 (N0+1)).toList.map (·.val)
variable {N0:Nat}
theorem xi {w:World}{L:Nat}{cs:Array Value}(h:Blk w L 3 cs)(d:Array (Fin (N0+1)))(hs:d.size=cs.size):Blk (putRow enI w L 0 d) L 3 (d.toList.map enI).toArray:=by
 unfold Blk at h ⊢;have a:L<w.heap.size:=Blk.lt h;have e:putCells enI 0 d cs=(d.toList.map enI).toArray:=by
  apply Array.ext_getElem?
  intro k;unfold putCells;by_cases hk:k<d.size
  ·simp [hk,show k<cs.size by omega]
  ·simp [hk,show ¬ k<cs.size by omega]
 unfold putRow mapBlock;rw [Array.getElem?_modify,if_pos rfl,h];simp [onCells,e]
theorem xj {w:World}{L k:Nat}(d:Array (Fin (N0+1)))(hk:k≠L):(putRow enI w L 0 d).heap[k]?=w.heap[k]?:=by
 unfold putRow mapBlock;rw [Array.getElem?_modify];simp [Ne.symm hk]
def OrdPost (K:List (List Int))(w:World)(e:Ending)(w':World):Prop:=∃(v:Value)(P:List Nat),e=.returned v∧w'.ownsRow w.heap.size 3 1 v K.length (flat eI (P.map fun i:Nat=>(i:Int)))∧P.Perm (List.range K.length)∧(K.length<20→P=orderM K)∧Bw w w'
theorem oA {K:List (List Int)}{w wr w':World}(hK:K.length=N0+1)(hn:K.length≤10000)(hlow:Bw w wr)(hb:Blk wr (w.heap.size+1) 3 (fillL K.length K.length).toArray)(d:Array (Fin (N0+1)))(k:Nat)(hs:d.size=N0+1)(hp:PermIn 0 (N0+1) (idA N0) d)(hx:K.length<20→d.toList.map (·.val)=orderM K)(hw:w'=(putRow enI wr (w.heap.size+1) 0 d).drewN k) :
  OrdPost K w (.returned (.slice (some ⟨w.heap.size+1,0,none⟩) K.length K.length)) w':=by
 subst hw;have a:=gn K.length K.length (zY _);have c:=xi hb d (by rw [hs,←hK];simp [a]);refine ⟨_,d.toList.map (·.val),rfl,?_,?_,hx,?_⟩
 ·refine ⟨by rw [aC eI 1 kI];simp [hs,hK],Or.inr ⟨w.heap.size+1,K.length,(d.toList.map enI).toArray,rfl,by omega,c,zY _,by unfold maxLen;omega,by simp [hs,hK],?_⟩⟩;rw [ee];simp only [List.map_map];rw [Ae (by simp [hs,hK])];rfl
 ·have h:=hp.2.2;have g:d.extract 0 (N0+1)=d:=by
   have b:d.extract 0 d.size=d:=by simp
   rwa [hs] at b
  have l:(idA N0).extract 0 (N0+1)=idA N0:=by
   have b:(idA N0).extract 0 (idA N0).size=idA N0:=by simp
   rwa [dg] at b
  rw [g,l] at h;have f:=h.map (fun i:Fin (N0+1)=>i.val);rw [hK];refine f.trans ?_;have j:(idA N0).toList.map (fun i=>i.val)=List.range (N0+1):=by
   unfold idA;rw [Array.toList_ofFn];apply List.ext_getElem
   ·simp
   ·intro i m f;rw [AW,List.getElem_ofFn,List.getElem_range]
  rw [j]
 ·refine ⟨hlow.os,hlow.tape,hlow.output,by simpa using hlow.size,fun k' hk'=>(xj d (by omega)).trans (hlow.block k' hk')⟩
theorem yM:∀args w,(callFunc 293 args).run Tryz.prog w=.ok (.enter 293 args) w:=enters_of Tryz.func293 (by kernel_rfl) rfl
theorem iQ (v:Value)(K:List (List Int))(vs:List Value)(w:World)(hk:KeysAt w v K vs)(hn:K.length≤10000):Calls Tryz.prog 244 #[v] w (OrdPost K w):=by
 refine mQ v K vs w hk hn _ fun wr hlow hb1 hb2=>?_
 obtain ⟨n,a⟩:∃n,K.length=n:=⟨_,rfl⟩;cases n with
 | zero=>
  have h:=sort0 (some ⟨w.heap.size+1,0,none⟩) 0 (.func (.func 293) #[] #[.pointer (some ⟨w.heap.size,0,none⟩)]) wr;rw [a];refine h.mono ?_;rintro e j ⟨rfl,rfl⟩;rw [a] at hb2;refine ⟨rfl,_,[],rfl,?_,by rw [a];exact List.Perm.refl _,fun _=>by unfold orderM;rw [a],hlow⟩;rw [a];exact ⟨rfl,Or.inr ⟨w.heap.size+1,0,_,rfl,by omega,hb2,zY _,by unfold maxLen;omega,by simp [fillL],rfl⟩⟩
 | succ N0=>
  have f:=hb2;rw [a] at f;have l:=pO N0 (w.heap.size+1) wr f;have m:=kC v K vs N0 a w wr hk (w.heap.size+1) w.heap.size (by omega) (zY _) (by omega) hlow hb1.lt (hb1.c 0) (idA N0).size;have i:=dg N0;by_cases h20:K.length<20
  ·have h:=eL (keyCmp K) 293 _ yM (w.heap.size+1) 0 K.length (idA N0) wr m l (by omega);rw [show (idA N0).size=K.length by omega] at h;refine h.mono ?_;rintro e j ⟨rfl,k,g⟩;have b:=de (ltOf (keyCmp K)) 0 (N0+1) (idA N0) (by omega);refine ⟨rfl,oA a hn hlow hb2 _ k (b.1.trans i) b.2 (fun _=>?_) (by rw [g,a])⟩;unfold orderM;split
   ·omega
   ·rename_i o p
    obtain rfl:o=N0:=by omega
    rfl
  ·have h:=fu (keyCmp K) 293 _ yM (w.heap.size+1) 0 K.length (idA N0) wr m l (by omega);rw [show (idA N0).size=K.length by omega] at h;refine h.mono ?_;rintro e j ⟨rfl,k,d,q,b,g⟩;exact ⟨rfl,oA a hn hlow hb2 d k (by omega) (by rw [a] at b;exact b) (fun hh=>absurd hh h20) g⟩
end Go.Proofs.YtmhohaanddglbaaGreatDoor
namespace Go.Proofs.YtmhohaanddglbaaGreatDoor
open Go.RowKit
def keyT (t:Tm):List Int:=[t.due,t.kind,t.mem,t.level]
theorem yN:(Tryz.prog.info? 45).map (fun i=>(i.zero,i.size,i.bytes))=some (some (.slice none 0 0),1,24):=by kernel_rfl
theorem kV (x:Value):(eV x).length=1:=rfl
theorem xo (t:Tm)(w:World):Calls Tryz.prog 243 #[vTm t] w fun e w'=>∃v,e=.returned v∧w'.ownsRow w.heap.size 2 1 v (keyT t).length (flat eI (keyT t))∧Bw w w':=by
 have a:Bw w (w.alloc (.cells (cTm t) 197)):=Bn;go_enter Tryz.func243,Tryz.ntmps243;go_wp2_with fail;go_ret;refine ⟨_,rfl,?_,a.alloc a.size _⟩;have h:=Blk.new (w.alloc (.cells (cTm t) 197)) 2 #[.int .i64 t.due,.int .i64 t.kind,.int .i64 t.mem,.int .i64 t.level];have b:(w.alloc (.cells (cTm t) 197)).heap.size=w.heap.size+1:=by simp
 rw [b] at h;exact ⟨rfl,Or.inr ⟨w.heap.size+1,4,_,by first | rfl | simp [keyT],by omega,h,zY _,by unfold maxLen;omega,rfl,rfl⟩⟩
structure KeysOwn (B:Nat)(w:World)(v:Value)(K:List (List Int))(vs:List Value):Prop where
 len:vs.length=K.length
 own:w.ownsRow B 45 1 v K.length (flat eV vs)
 row:∀i (h:i<vs.length) (h2:i<K.length),w.ownsRow B 2 1 vs[i] K[i].length (flat eI K[i])
theorem KeysOwn.at {B:Nat}{w:World}{v:Value}{K:List (List Int)}{vs:List Value}(h:KeysOwn B w v K vs):KeysAt w v K vs:=
 ⟨h.len,Sl.own kV (by rw [h.len];exact h.own),fun i h1 h2=>Sl.own kI (h.row i h1 h2)⟩
theorem KeysOwn.keep {B:Nat}{w w':World}{v:Value}{K:List (List Int)}{vs:List Value}(h:KeysOwn B w v K vs)(hb:Bw w w'):KeysOwn B w' v K vs:=
 ⟨h.len,ah h.own hb,fun i h1 h2=>ah (h.row i h1 h2) hb⟩
theorem KeysOwn.grow {B:Nat}{w w':World}{v v' u:Value}{K:List (List Int)}{vs:List Value}{z:List Int}(h:KeysOwn B w v K vs)(hu:w.ownsRow B 2 1 u z.length (flat eI z))(hg:w.grownBy w' v.ownBlock)(ho:w'.ownsRow B 45 1 v' (K.length+1) (flat eV vs++[u])):KeysOwn B w' v' (K++[z]) (vs++[u]):=by
 have a:∀{x:Value} {n:Nat} {xs:List Value},w.ownsRow B 2 1 x n xs→w'.ownsRow B 2 1 x n xs:=fun {x n xs} hx=>au hx fun k hk=>Mod.grown hg k (hx.lt k hk).2 (fun e=>aR hx h.own (by decide) k hk k e rfl)
 refine ⟨by simp [h.len],by rw [z8,aI];exact ho,fun i h1 h2=>?_⟩;by_cases hi:i<vs.length
 ·rw [List.getElem_append_left hi];have b:i<K.length:=by rw [←h.len];exact hi
  simp only [List.getElem_append_left b];exact a (h.row i hi b)
 ·have e:i=vs.length:=by simp at h1;omega
  subst e;have c:(vs++[u])[vs.length]'h1=u:=by simp
  have d:(K++[z])[vs.length]'h2=z:=by rw [List.getElem_append_right (by rw [h.len];exact zY _)];simp [h.len]
  rw [c,d];exact a hu
end Go.Proofs.YtmhohaanddglbaaGreatDoor
namespace Go.Proofs.YtmhohaanddglbaaGreatDoor
open Go.RowKit
open Go.ChangeMaps (setBlock)
section
attribute [local go_sem ↓] Go.wp_at_zero Go.wp_at_succ
def eSd (x:Sd):List Value:=[.int .i64 x.mem,.int .i64 x.ass]
abbrev cSd (x:Sd):Array Value:=#[.int .i64 x.mem,.int .i64 x.ass]
theorem kSd (x:Sd):(eSd x).length=2:=rfl
theorem yO (x:Sd):∀u∈eSd x,u.oneCell'=true:=by intro u a;simp [eSd] at a;rcases a with rfl | rfl <;> rfl
theorem zp:(Tryz.prog.info? 382).map (fun i=>(i.zero,i.size,i.bytes))=some (some (.agg #[.int .i64 0,.int .i64 0]),2,16):=by kernel_rfl
theorem atSd {W:World}{b o:Nat}{x:Sd}(h:∀j u,(eSd x)[j]?=some u→W.cell? ⟨b,o+j,none⟩=some u):W.cell? ⟨b,o,none⟩=some (.int .i64 x.mem)∧W.cell? ⟨b,o+1,none⟩=some (.int .i64 x.ass):=⟨h 0 _ rfl,h 1 _ rfl⟩
theorem eM {w w':World}{base:Nat}{e:TypeId}{size:Nat}{v:Value}{n:Nat}{xs:List Value}(h:w.ownsRow base e size v n xs)(hw:∀(g:Nat)(cs:Array Value)(T:TypeId)(fr:Nat×Nat),w.heap[g]?=some (Obj.cells cs T fr)→w'.heap[g]?=w.heap[g]?):w'.ownsRow base e size v n xs:=by
 obtain ⟨b,a⟩:=h;rcases a with a | ⟨g,cap,cur,rfl,hg,hh,r⟩
 ·exact ⟨b,Or.inl a⟩
 ·exact ⟨b,Or.inr ⟨g,cap,cur,rfl,hg,(hw g _ _ _ hh).trans hh,r⟩⟩
theorem KeysOwn.cells {B:Nat}{w w':World}{v:Value}{K:List (List Int)}{vs:List Value}(h:KeysOwn B w v K vs)(hw:∀(g:Nat)(cs:Array Value)(T:TypeId)(fr:Nat×Nat),w.heap[g]?=some (Obj.cells cs T fr)→w'.heap[g]?=w.heap[g]?):KeysOwn B w' v K vs:=
 ⟨h.len,eM h.own hw,fun i h1 h2=>eM (h.row i h1 h2) hw⟩
def keyAt (D:List (Sd×Value))(i:Nat):Sd:=((D[i]?).map (·.1)).getD ⟨0,0⟩
def keyL (x:Sd):List Int:=[x.mem,x.ass]
structure NO (w wr:World)(M:Nat)(D:List (Sd×Value))(S:List Nat)(va vk:Value)(vs:List Value):Prop where
 map:MapB wr M vSd D
 it:MIter wr w.heap.size M D.length S
 nd:S.Nodup
 lt:∀i∈S,i<D.length
 sides:wr.ownsRow w.heap.size 382 2 va S.length (flat eSd (S.map (keyAt D)))
 keys:KeysOwn w.heap.size wr vk (S.map fun i=>keyL (keyAt D i)) vs
 low:Bw w wr
theorem iR {w w1:World}{r M N:Nat}{S:List Nat}{o:Obj}(hI:MIter w r M N S)(hw:w1=w∨w1=w.drew):∀(g:Nat)(cs:Array Value)(T:TypeId)(fr:Nat×Nat),w.heap[g]?=some (Obj.cells cs T fr)→(setBlock w1 r o).heap[g]?=w.heap[g]?:=by
 intro g cs T fr b;have a:r≠g:=fun e=>by
  subst e;unfold MIter at hI;rw [hI] at b;cases b
 have e:w1.heap=w.heap:=by rcases hw with rfl | rfl <;> rfl
 show (w1.heap.setIfInBounds r o)[g]?=_
 rw [Bk,if_neg a,e]
theorem xq {w wr w1:World}{M n:Nat}{D:List (Sd×Value)}{S:List Nat}{va vk:Value}{vs:List Value}(h:NO w wr M D S va vk vs)(hM:M<w.heap.size)(hw:w1=wr∨w1=wr.drew) :
  let W:=setBlock w1 w.heap.size (.mapIter (some M) D.length (S++[n]).toArray D.length)
  MapB W M vSd D∧MIter W w.heap.size M D.length (S++[n])∧W.ownsRow w.heap.size 382 2 va S.length (flat eSd (S.map (keyAt D)))∧KeysOwn w.heap.size W vk (S.map fun i=>keyL (keyAt D i)) vs∧Bw w W:=by
 have e:w1.heap=wr.heap:=by rcases hw with rfl | rfl <;> rfl
 have b:w1.os=wr.os∧w1.tape=wr.tape∧w1.output=wr.output:=by rcases hw with rfl | rfl <;> exact ⟨rfl,rfl,rfl⟩
 have c:=h.it.lt;have a:w.heap.size≤wr.heap.size:=h.low.size;refine ⟨?_,?_,eM h.sides (iR h.it hw),h.keys.cells (iR h.it hw),?_⟩
 ·refine h.map.heap ?_;show (w1.heap.setIfInBounds _ _)[M]?=_
  rw [Bk,if_neg (by omega),e]
 ·show (w1.heap.setIfInBounds _ _)[w.heap.size]?=_
  rw [Bk,if_pos rfl,if_pos (by rw [e];exact c)]
 ·refine ⟨b.1.trans h.low.os,b.2.1.trans h.low.tape,b.2.2.trans h.low.output,?_,fun k hk=>?_⟩
  ·show _≤(w1.heap.setIfInBounds _ _).size
   rw [Array.size_setIfInBounds,e];exact a
  ·show (w1.heap.setIfInBounds _ _)[k]?=_
   rw [Bk,if_neg (by omega),e];exact h.low.block k hk
theorem dw {S:List Nat}{N:Nat}(h:S.Nodup)(hl:∀i∈S,i<N):S.length≤N:=by
 have b:S.Perm ((List.range N).filter fun i=>decide (i∈S)):=(List.perm_ext_iff_of_nodup h (List.nodup_range.filter _)).2 fun a=>by
  simp only [AS,List.mem_range,decide_eq_true_eq];exact ⟨fun ha=>⟨hl a ha,ha⟩,fun ha=>ha.2⟩
 have:=AV (fun i=>decide (i∈S)) (List.range N)
 rw [b.length_eq];simpa using this
structure NM (w W:World)(M:Nat)(D:List (Sd×Value))(S:List Nat)(A:List Sd)(K:List (List Int))(va vk:Value)(vs:List Value):Prop where
 map:MapB W M vSd D
 it:MIter W w.heap.size M D.length S
 sides:W.ownsRow w.heap.size 382 2 va A.length (flat eSd A)
 keys:KeysOwn w.heap.size W vk K vs
 low:Bw w W
 hM:M<w.heap.size
theorem fa {w:World}{r M N:Nat}{S:List Nat}{base:Nat}{e:TypeId}{sz:Nat}{x:Value}{n:Nat}{xs:List Value}(h:MIter w r M N S)(ho:w.ownsRow base e sz x n xs):x.ownBlock≠some r:=by
 intro a;obtain ⟨_,ho2⟩:=ho;rcases ho2 with ⟨rfl,_⟩ | ⟨j,cap,cur,rfl,_,hh,_⟩
 ·simp [Value.ownBlock] at a
 ·simp [Value.ownBlock] at a
  subst a;unfold MIter at h;rw [h] at hh;cases hh
section
variable {w W W':World}{M:Nat}{D:List (Sd×Value)}{S:List Nat}{A A':List Sd}{K:List (List Int)}{va vk va' vk':Value}{vs:List Value}
theorem NM.alloc (h:NM w W M D S A K va vk vs)(o:Obj):NM w (W.alloc o) M D S A K va vk vs:=by
 have b:Bw W (W.alloc o):=Bn;exact ⟨h.map.keep b,h.it.keep b,ah h.sides b,h.keys.keep b,h.low.trans (b.mono h.low.size),h.hM⟩
theorem NM.growA (h:NM w W M D S A K va vk vs)(hg:W.grownBy W' va.ownBlock)(ho:W'.ownsRow w.heap.size 382 2 va' A'.length (flat eSd A')):NM w W' M D S A' K va' vk vs:=by
 have b:=h.hM;have a:=h.low.size;refine ⟨h.map.heap (hg.block M (by omega) fun e=>?_),h.it.heap (hg.block _ h.it.lt fun e=>fa h.it h.sides e.symm),ho,⟨h.keys.len,?_,fun i h1 h2=>?_⟩,h.low.grown hg a (fun q hq=>(h.sides.lt q hq).1),h.hM⟩
 ·have:=(h.sides.lt M e.symm).1
  omega
 ·exact au h.keys.own fun k hk=>Mod.grown hg k (h.keys.own.lt k hk).2 (fun e=>aR h.keys.own h.sides (by decide) k hk k e rfl)
 ·exact au (h.keys.row i h1 h2) fun k hk=>Mod.grown hg k ((h.keys.row i h1 h2).lt k hk).2 (fun e=>aR (h.keys.row i h1 h2) h.sides (by decide) k hk k e rfl)
theorem NM.growK (h:NM w W M D S A K va vk vs){u:Value}{z:List Int}(hu:W.ownsRow w.heap.size 2 1 u z.length (flat eI z))(hg:W.grownBy W' vk.ownBlock)(ho:W'.ownsRow w.heap.size 45 1 vk' (K.length+1) (flat eV vs++[u])):NM w W' M D S A (K++[z]) va vk' (vs++[u]):=by
 have b:=h.hM;have a:=h.low.size;refine ⟨h.map.heap (hg.block M (by omega) fun e=>?_),h.it.heap (hg.block _ h.it.lt fun e=>fa h.it h.keys.own e.symm),au h.sides fun k hk=>Mod.grown hg k (h.sides.lt k hk).2 (fun e=>aR h.sides h.keys.own (by decide) k hk k e rfl),h.keys.grow hu hg ho,h.low.grown hg a (fun q hq=>(h.keys.own.lt q hq).1),h.hM⟩;have:=(h.keys.own.lt M e.symm).1
 omega
end
theorem row2 (x:Sd)(W:World){B:Nat}(hB:B≤W.heap.size):((W.alloc (.cells (cSd x) 2)).alloc (.cells #[.slice (some ⟨W.heap.size,0,none⟩) 2 2] 45)).ownsRow B 2 1 (.slice (some ⟨W.heap.size,0,none⟩) 2 2) (keyL x).length (flat eI (keyL x)):=by
 have h:=(Blk.new W 2 (cSd x)).alloc (.cells #[.slice (some ⟨W.heap.size,0,none⟩) 2 2] 45);exact ⟨rfl,Or.inr ⟨W.heap.size,2,_,rfl,hB,h,zY _,by unfold maxLen;omega,rfl,rfl⟩⟩
theorem new45 (W:World)(u:Value)(b:Nat)(hb:W.heap.size=b):∀j v,([u]:List Value)[j]?=some v→(W.alloc (.cells #[u] 45)).cell? ((⟨b,0,none⟩:Addr).add j)=some v:=by
 intro j v a;subst hb;rw [Aj,Av,(Blk.new W 45 #[u]).c j];simpa using a
def nOut (D:List (Sd×Value))(S P:List Nat)(k:Nat):List Sd:=(P.take k).map fun i=>keyAt D (S.getD i 0)
theorem th (S:List Nat):(List.range S.length).map (fun i=>S.getD i 0)=S:=by
 apply List.ext_getElem
 ·simp
 ·intro i b a;simp [a]
def NOPost (D:List (Sd×Value))(w:World)(e:Ending)(w':World):Prop:=∃(v:Value)(Q:List Nat),e=.returned v∧Q.Perm (List.range D.length)∧w'.ownsRow w.heap.size 382 2 v Q.length (flat eSd (Q.map (keyAt D)))∧Bw w w'
theorem mR (M:Nat)(D:List (Sd×Value))(w:World)(hM:MapB w M vSd D)(hn:D.length≤2000):Calls Tryz.prog 300 #[.map (some M)] w (NOPost D w):=by
 have ao:=hM.lt;obtain ⟨i0,B,ae,ak,Y⟩:=info_parts zp;obtain ⟨j0,hj,hy0,hy1,hy2⟩:=info_parts yN;have aH:=pK Tryz.underlying379 hM;have h0:Hid (NO w (w.alloc (.mapIter (some M) D.length #[] D.length)) M D [] (.slice none 0 0) (.slice none 0 0) []):=aa (by
  have b1:Bw w (w.alloc (.mapIter (some M) D.length #[] D.length)):=Bn;refine ⟨hM.keep b1,MIter.new _ _ _,by simp,fun i B=>absurd B (by simp),⟨by simp [flat],Or.inl ⟨rfl,rfl⟩⟩,⟨rfl,⟨by simp [flat],Or.inl ⟨rfl,rfl⟩⟩,fun i B=>absurd B (by simp)⟩,b1⟩)
 clear hM;go_enter Tryz.func300,Tryz.ntmps300;go_wp2_with fail;go_loopw [3,4] (fun x3 x4 wr=>∃(S:List Nat) (V:List Value) (va vk:Value),va=x3∧vk=x4∧NO w wr M D S va vk V) (fun _ _ wr=>match wr.heap[w.heap.size]? with | some (.mapIter _ _ S _)=>D.length - S.size | _=>0)
 case atStart=>exact ⟨[],[],_,_,rfl,rfl,h0.o⟩
 case round=>
  obtain ⟨S,V,va,vk,rfl,rfl,hN⟩:=hrel;have j:=aa hN;clear hN;rcases pL (enc:=vSd) 0 j.o.map j.o.it j.o.nd j.o.lt with ⟨hp,hnx⟩ | ⟨n,hnl,hnn,w1,hw1,hnx⟩
  ·have ac:=aa (Sl.own kSd (l:=S.map (keyAt D)) (by rw [Ad];exact j.o.sides));obtain ⟨na,ka,rfl⟩:=ag j.o.sides;have ad:(S.map fun i=>keyL (keyAt D i)).length≤10000:=by
    rw [Ad];have:=dw j.o.nd j.o.lt
    omega
   have an:=iQ vk _ V wr j.o.keys.at ad;have hf:=ag j.o.keys.own;rw [Ad] at hf;obtain ⟨nk,kk,rfl⟩:=hf;have aG:=aa an;have F:=j.o.low;have HP:=aa hp;have aQ:S.length≤2000:=z5 (dw j.o.nd j.o.lt) hn;have W:=F.size;clear an hp ad h0 aH j;go_wp2_with (go_at_call 244;refine aG.o.mono ?_;rintro e w5 ⟨v5,P,rfl,hown5,hperm,_,c5⟩;rw [Ad] at hown5 hperm;have al:=aa hown5;obtain ⟨n5,k5,rfl⟩:=ag hown5;have Q:=aa hperm;clear hown5 hperm)
   have K:P.length=S.length:=by simpa using Q.o.length_eq
   have aL:=aa (Sl.own kI (l:=P.map fun i:Nat=>(i:Int)) (by rw [Ad,K];exact al.o));have aC:=aa (ac.o.keep c5);have ap:=F.trans (c5.mono W);have H:=ap.size;have ay:Hid (∀i∈P,i<S.length):=aa fun i B=>by simpa using Q.o.mem_iff.1 B
   have s:=aa K;clear K ac al c5 hnx;go_loopw [6,30] (fun vo vi wr2=>∃k:Nat,k≤S.length∧vi=.int .i64 k∧wr2.ownsRow w5.heap.size 382 2 vo (nOut D S P k).length (flat eSd (nOut D S P k))∧Bw w5 wr2) (fun _ vi _=>S.length - (intOf vi).toNat)
   case atStart=>exact ⟨0,Af _,rfl,⟨by simp [flat,nOut],Or.inl ⟨rfl,rfl⟩⟩,zZ _ _⟩
   case round=>
    obtain ⟨k,hk,rfl,f,m⟩:=hrel;have HO:=aa f;obtain ⟨no,ko,rfl⟩:=ag f;clear f;by_cases hlt:k<S.length
    ·obtain ⟨a',af,R,_,aW,aB,ai⟩:=aL.o;rw [Ad,s.o] at R;have N:k<P.length:=by rw [s.o];exact hlt
     have aD:k<(P.map fun i:Nat=>(i:Int)).length:=by rw [Ad];exact N
     obtain ⟨T,e2⟩:n5=a'∧k5=af:=by simpa using R
     subst T e2;obtain ⟨b,aK,rfl,aA,av⟩:=ai (by omega);have q0:=av k aD 0 _ rfl;rw [A0,AU,AW] at q0;have r0:=(m.c (p:=⟨b,aK+k,none⟩) aA).trans q0;have am:P[k]<S.length:=ay.o _ (Ag N);obtain ⟨a'',cap'',hu',_,g1',g2',gc'⟩:=aC.o;rw [Ad] at hu';have aF:P[k]<(S.map (keyAt D)).length:=by rw [Ad];exact am
     obtain ⟨T,e2⟩:na=a''∧ka=cap'':=by simpa using hu'
     subst T e2;obtain ⟨d,I,rfl,U,au⟩:=gc' (by omega);obtain ⟨p0,p1⟩:=atSd (au P[k] aF);rw [AW] at p0 p1;have r1:=(m.c (p:=⟨d,I+P[k] * 2,none⟩) U).trans p0;have r2:=(m.c (p:=⟨d,I+P[k] * 2+1,none⟩) U).trans p1;have aR:(0:Int)≤(k:Int):=by omega
     have aP:(k:Int)<(S.length:Int):=by omega
     have aX:(0:Int)≤(P[k]:Int):=by omega
     have aV:(P[k]:Int)<(S.length:Int):=by omega
     unfold maxLen at aB g2';have az:Hid (nOut D S P (k+1)=nOut D S P k++[keyAt D S[P[k]]]):=aa (by
      unfold nOut;rw [z9 N,AI];simp only [Am,List.map_nil];rw [Ah,Ab am];rfl)
     have aO:(nOut D S P k).length≤k:=by unfold nOut;rw [Ad,Aa];omega
     clear av au q0 p0 p1 ai gc' R hu';generalize nOut D S P k=L at *;generalize keyAt D S[P[k]]=y at *;generalize P[k]=pk at *;have aN:=m.size;go_wp2_with (at_builtin;refine aq kSd (by decide) yO _ rfl _ _ 383 rfl w5.heap.size 382 i0 (.agg #[.int .i64 0,.int .i64 0]) 16 Tryz.underlying383 B ae ak Y (by rfl) (.slice no L.length ko) L rfl (HO.o.alloc _) (some ⟨wr.heap.size,0,none⟩) 1 [y] rfl (Sl.one1b eSd kSd _ 382 _ (by rfl) _ rfl) (by show L.length+1≤maxLen;unfold maxLen;omega) (by show (L.length+1) * 16≤_;omega) (m.alloc m.size (.cells (cSd y) 382)).size ?_;intro v' w2 f g A;have b4:=(m.alloc m.size (.cells (cSd y) 382)).grown g (m.alloc m.size _).size (fun q hq=>(HO.o.lt q hq).1);rw [←az.o] at f;obtain ⟨n2,k2,rfl⟩:=ag f;clear g A)
     go_roundw
     case rel=>exact ⟨k+1,by omega,by go_num,f,b4⟩
     case measure=>simp [intOf];omega
    ·obtain rfl:k=S.length:=by omega
     have aS:¬ ((S.length:Int)<(S.length:Int)):=by omega
     go_wp2_with fail;go_ret;have T:nOut D S P S.length=(P.map fun i=>S.getD i 0).map (keyAt D):=by
      unfold nOut;rw [Ae (by rw [s.o];exact zY _),List.map_map];rfl
     refine ⟨_,P.map fun i=>S.getD i 0,rfl,?_,?_,ap.trans (m.mono H)⟩
     ·refine (Q.o.map _).trans ?_;refine List.Perm.trans ?_ HP.o;rw [th]
     ·have h:=aw HO.o H;rw [T] at h;rw [T,show (P.map fun i=>S.getD i 0).length=((P.map fun i=>S.getD i 0).map (keyAt D)).length from (Ad ..).symm];exact h
  ·have t:=xq (n:=n) j.o ao hw1;dsimp only at t;generalize setBlock w1 w.heap.size (Obj.mapIter (some M) D.length (S++[n]).toArray D.length)=W2 at hnx t;obtain ⟨mM,mI,mS,mK,mL⟩:=t;have aI:=mO hnl mM mI;obtain ⟨x,hx⟩:∃x,D[n].1=x:=⟨_,rfl⟩;have X:keyAt D n=x:=by unfold keyAt;rw [Ab hnl,←hx];rfl
   rw [hx] at aI hnx;have ax:=aa X;have Z:=aa (show NM w W2 M D (S++[n]) (S.map (keyAt D)) (S.map fun i=>keyL (keyAt D i)) va vk V from ⟨mM,mI,by rw [Ad];exact mS,mK,mL,ao⟩);have aj:Hid ((S++[n]).Nodup):=aa (by
    rw [List.nodup_append];exact ⟨j.o.nd,by simp,fun a ha b hb=>by
     have:b=n:=by simpa using hb
     subst this;rintro rfl;exact hnn ha⟩)
   have ah:Hid (∀i∈S++[n],i<D.length):=aa (by
    intro i B;rcases AJ.1 B with h | h
    ·exact j.o.lt i h
    ·have:i=n:=by simpa using h
     omega)
   have aM:S.length≤D.length:=dw j.o.nd j.o.lt;have W:=mL.size;clear mM mI mS mK mL hx X hw1 hnn;obtain ⟨na,ka,rfl⟩:=ag j.o.sides;obtain ⟨nk,kk,rfl⟩:=ag j.o.keys.own;have aU:=aa j.o.keys.len;obtain ⟨KL,hKL⟩:∃KL,(S.map fun i=>keyL (keyAt D i)).length=KL:=⟨_,rfl⟩;have O:=aa hKL;have ab:Hid (KL=S.length):=aa (by rw [←hKL,Ad]);rw [hKL];have aJ:=aa j.o.it;clear hKL j;have E:=aa ((Z.o.alloc (.cells (cSd x) 382)).alloc (.cells (cSd x) 382));have ar:=aa ((Blk.new W2 382 (cSd x)).alloc (.cells (cSd x) 382))
   go_wp2_with (first | (at_builtin;refine aq kSd (by decide) yO _ rfl _ _ 383 rfl w.heap.size 382 i0 (.agg #[.int .i64 0,.int .i64 0]) 16 Tryz.underlying383 B ae ak Y (by rfl) (.slice na S.length ka) (S.map (keyAt D)) rfl (by exact E.o.sides) (some ⟨W2.heap.size+1,0,none⟩) 1 [x] rfl (Sl.one1b eSd kSd _ 382 _ (by rfl) _ (by simp)) (by rw [Ad];unfold maxLen;simp;omega) (by rw [Ad];simp;omega) (by simp;omega) ?_;intro aT C f g A;have J:=aa (E.o.growA g f);have G:=aa (show Blk C W2.heap.size 382 (cSd x) from (g.block _ ar.o.lt (fun e=>by have:=(Z.o.sides.lt _ e.symm).2;omega)).trans ar.o);rw [z8,Ad,Ai] at f;obtain ⟨na',ka',rfl⟩:=ag f;clear f g A;have x0:=G.o.c 0;have x1:=G.o.c 1;have v:=aa ((J.o.alloc (.cells (cSd x) 2)).alloc (.cells #[.slice (some ⟨C.heap.size,0,none⟩) 2 2] 45));have aE:=aa (row2 x C J.o.low.size);have a1:=aa (new45 (C.alloc (.cells (cSd x) 2)) (.slice (some ⟨C.heap.size,0,none⟩) 2 2) (C.heap.size+1) (by simp))) | (at_builtin;refine wpList_append_own_at _ rfl _ _ 313 rfl w.heap.size 45 j0 (.slice none 0 0) 1 24 Tryz.underlying313 hj hy0 hy1 hy2 rfl (by decide) (.slice nk KL kk) KL (flat eV V) rfl (by have:=v.o.keys.own;rw [O.o] at this;exact this) ⟨C.heap.size+1,0,none⟩ 1 1 [.slice (some ⟨C.heap.size,0,none⟩) 2 2] rfl rfl (by exact a1.o) (by intro u hu;simp at hu;subst hu;rfl) (by unfold maxLen;have:=ab.o;omega) (by have:=ab.o;omega) (by have:=v.o.low.size;simpa using this) ?_;intro vk' W6 f g _ A;have r:=aa (v.o.growK (u:=.slice (some ⟨C.heap.size,0,none⟩) 2 2) (z:=keyL x) aE.o (by rw [O.o];exact g) (by rw [O.o];exact f));obtain ⟨nk',kk',rfl⟩:=ag f;clear f g A))
   go_roundw
   case rel=>exact ⟨S++[n],_,_,_,rfl,rfl,r.o.map,r.o.it,aj.o,ah.o,by simpa [ax.o] using r.o.sides,by simpa [ax.o] using r.o.keys,r.o.low⟩
   case measure=>
    have h6:=r.o.it;have h0:=aJ.o;have hl:=dw aj.o ah.o;rw [z8,Ai] at hl;unfold MIter at h6 h0;rw [h6,h0];simp
    omega
end
end Go.Proofs.YtmhohaanddglbaaGreatDoor
namespace Go.Proofs.YtmhohaanddglbaaGreatDoor
open Go.RowKit
section
attribute [local go_sem ↓] Go.wp_at_zero Go.wp_at_succ
def legM (C:Cfg)(m a:Int):Int:=if okM C m then (if a=0 then 0 else if okS C a then 0 else 10) else 9
theorem mT (vm vs vc:Value)(C:Cfg)(w:World)(hc:CSl w vm vs vc C)(x:Lg) :
  Calls Tryz.prog 299 #[cfgV vm vs vc C,.agg #[.int .i64 x.mem,.int .i64 x.ass,.int .i64 x.amt]] w fun e w'=>e=.returned (.int .i64 (legM C x.mem x.ass))∧Bw w w':=by
 have b:Bw w ((w.alloc (.cells (cfgC vm vs vc C) 26)).alloc (.cells (cLg x) 120)):=Bn.alloc (by simp) _;have g:=aa (hc.keep b);have s:=aa ((Blk.new w 26 (cfgC vm vs vc C)).alloc (.cells (cLg x) 120));have h:=aa (show Blk ((w.alloc (.cells (cfgC vm vs vc C) 26)).alloc (.cells (cLg x) 120)) (w.heap.size+1) 120 (cLg x) from heap_alloc2_new _ _ _);have k:=hc;clear hc;by_cases ok:okM C x.mem
 ·have f:=aa ok;by_cases hz:x.ass=0
  ·have r:(x.ass==0)=true:=by simpa using hz
   have d:Hid (legM C x.mem x.ass=0):=aa (by unfold legM;rw [if_pos ok,if_pos hz]);clear ok hz k;go_enter Tryz.func299,Tryz.ntmps299;go_wp2_with (go_at_call 112;refine (aG vm vs vc C _ g.o _).mono ?_;rintro e l ⟨m,rfl,a⟩;rw [if_pos f.o];have R:=aa ((b.trans (a.mono b.size)).alloc (z5 b.size a.size) (.cells (cMb m) 125));have n:=((h.o.keep a).alloc (.cells (cMb m) 125)).c 1;have t:=((h.o.keep a).alloc (.cells (cMb m) 125)).c 0)
   go_ret;exact ⟨by rw [d.o];rfl,R.o⟩
  ·have r:(x.ass==0)=false:=by simpa using hz
   obtain ⟨y,i⟩:∃y:Int,(if okS C x.ass then (0:Int) else 10)=y:=⟨_,rfl⟩;have p:=aa i;have d:Hid (legM C x.mem x.ass=y):=aa (by unfold legM;rw [if_pos ok,if_neg hz,i]);clear i;clear ok hz k;go_enter Tryz.func299,Tryz.ntmps299;go_wp2_with (first | (go_at_call 112;refine (aG vm vs vc C _ g.o _).mono ?_;rintro e l ⟨m,rfl,a⟩;rw [if_pos f.o];have R:=aa ((b.trans (a.mono b.size)).alloc (z5 b.size a.size) (.cells (cMb m) 125));have n:=((h.o.keep a).alloc (.cells (cMb m) 125)).c 1;have t:=((h.o.keep a).alloc (.cells (cMb m) 125)).c 0;have j:=aa (g.o.keep a);obtain ⟨p0,p1,p2,p3,p4,p5,p6,p7⟩:=s8 ((s.o.keep a).alloc (.cells (cMb m) 125))) | (go_at_call 144;refine (ct vm vs vc C _ (j.o.keep Bn) _).mono ?_;rintro e x2 ⟨m2,rfl,c2⟩;rw [p.o];have q:=aa ((R.o.trans (c2.mono R.o.size)).alloc (z5 R.o.size c2.size) (.cells (cSc m2) 127))))
   go_ret;exact ⟨by rw [d.o];rfl,q.o⟩
 ·have f:=aa ok;have d:Hid (legM C x.mem x.ass=9):=aa (by unfold legM;rw [if_neg ok]);clear ok k;go_enter Tryz.func299,Tryz.ntmps299;go_wp2_with (go_at_call 112;refine (aG vm vs vc C _ g.o _).mono ?_;rintro e l ⟨m,rfl,a⟩;rw [if_neg f.o];have R:=aa ((b.trans (a.mono b.size)).alloc (z5 b.size a.size) (.cells (cMb m) 125)))
  go_ret;exact ⟨by rw [d.o];rfl,R.o⟩
end
variable {κ:Type}{enc:κ→Value}
structure GMid (w:World)(B M:Nat)(enc:κ→Value)(D:List (κ×Value))(R:List Value)(Z:List (List Int)):Prop where
 map:MapB w M enc D
 rows:Rws w B R Z
theorem dh {w:World}{B M:Nat}{D:List (κ×Value)}{R:List Value}{Z:List (List Int)}(h:GMid w B M enc D R Z):∀v∈R,∀g,v.ownBlock=some g→g≠M:=by
 intro v a g b;obtain ⟨i,hi,rfl⟩:=Ao a;exact bE h.map (h.rows.own i hi (by rw [←h.rows.len];exact hi)) g b
section
variable {w w':World}{B M:Nat}{D D':List (κ×Value)}{R:List Value}{Z:List (List Int)}
theorem GMid.keep (h:GMid w B M enc D R Z)(hb:Bw w w'):GMid w' B M enc D R Z:=⟨h.map.keep hb,h.rows.keep hb⟩
theorem GMid.alloc (h:GMid w B M enc D R Z)(o:Obj):GMid (w.alloc o) B M enc D R Z:=h.keep Bn
theorem GMid.d {wd:World}(h:GMid w B M enc D R Z)(e:wd.heap=w.heap:=by rfl):GMid wd B M enc D R Z:=⟨h.map.heap (by rw [e]),h.rows.heap fun v hv g hg=>by rw [e]⟩
theorem GMid.put (h:GMid w B M enc D R Z)(D':List (κ×Value)):GMid (pOb w M (mkMap enc D')) B M enc D' R Z:=
 ⟨h.map.put,h.rows.heap fun v hv g hg=>bj w M g _ (dh h v hv g hg)⟩
theorem GMid.push (h:GMid w B M enc D R Z):GMid w B M enc D (R++[.slice none 0 0]) (Z++[[]]):=⟨h.map,h.rows.push⟩
theorem GMid.grow (h:GMid w B M enc D R Z)(i:Nat)(hi:i<R.length)(hz:i<Z.length){v':Value}{zs':List Int}(hg:w.grownBy w' R[i].ownBlock)(ho:w'.ownsRow B 2 1 v' zs'.length (flat eI zs'))(hat:v'.ownBlock=R[i].ownBlock∨v'.ownBlock=some w.heap.size):GMid w' B M enc D (R.set i v') (Z.set i zs'):=by
 refine ⟨h.map.heap (hg.block M h.map.lt fun e=>?_),h.rows.set i hi hz v' zs' hg ho hat⟩;exact dh h _ (Ag hi) M e.symm rfl
end
structure Grp (w:World)(B M:Nat)(enc:κ→Value)(G:List (κ×List Int))(bv:List Value):Prop where
 blen:bv.length=G.length
 mid:GMid w B M enc (List.zipWith (fun g v=>(g.1,v)) G bv) bv (G.map (·.2))
theorem Grp.keep {w w':World}{B M:Nat}{G:List (κ×List Int)}{bv:List Value}(h:Grp w B M enc G bv)(hb:Bw w w'):Grp w' B M enc G bv:=⟨h.blen,h.mid.keep hb⟩
theorem Grp.alloc {w:World}{B M:Nat}{G:List (κ×List Int)}{bv:List Value}(h:Grp w B M enc G bv)(o:Obj):Grp (w.alloc o) B M enc G bv:=⟨h.blen,h.mid.alloc o⟩
theorem Grp.d {w wd:World}{B M:Nat}{G:List (κ×List Int)}{bv:List Value}(h:Grp w B M enc G bv)(e:wd.heap=w.heap:=by rfl):Grp wd B M enc G bv:=⟨h.blen,h.mid.d e⟩
theorem Grp.new (w:World)(enc:κ→Value):Grp (w.alloc (.map #[] 0)) w.heap.size w.heap.size enc [] []:=by
 refine ⟨rfl,⟨?_,⟨rfl,fun i h=>absurd h (by simp),fun i j h=>absurd h (by simp)⟩⟩⟩;unfold MapB;rw [heap_alloc_new];rfl
theorem eu {G:List (κ×List Int)}{bv:List Value}(h:bv.length=G.length):(List.zipWith (fun g v=>(g.1,v)) G bv).length=G.length:=by rw [List.length_zipWith,h,Nat.min_self]
theorem Grp.new_key [DecidableEq κ]{w:World}{B M:Nat}{G:List (κ×List Int)}{bv:List Value}{k:κ}{x:Int}{u:Value}(hb:bv.length=G.length)(hadd:addG k x G=G++[(k,[x])])(h:GMid w B M enc (List.zipWith (fun g v=>(g.1,v)) G bv++[(k,Value.slice none 0 0)]) ((bv++[Value.slice none 0 0]).set bv.length u) ((G.map (fun p:κ×List Int=>p.2)++[[]]).set bv.length [x])) :
  Grp (pOb w M (mkMap enc ((List.zipWith (fun g v=>(g.1,v)) G bv++[(k,Value.slice none 0 0)]).set G.length (k,u)))) B M enc (addG k x G) (bv++[u]):=by
 have a:=h.put ((List.zipWith (fun g v=>(g.1,v)) G bv++[(k,Value.slice none 0 0)]).set G.length (k,u));have d:(List.zipWith (fun g v=>(g.1,v)) G bv++[(k,Value.slice none 0 0)]).set G.length (k,u)=List.zipWith (fun g v=>(g.1,v)) (addG k x G) (bv++[u]):=by
  rw [hadd,List.zipWith_append hb.symm];have:=eu hb
  rw [←this];simp
 have c:(bv++[Value.slice none 0 0]).set bv.length u=bv++[u]:=by simp
 have b:(G.map (fun p:κ×List Int=>p.2)++[[]]).set bv.length [x]=(addG k x G).map (fun p:κ×List Int=>p.2):=by
  rw [hadd,hb];have:G.length=(G.map (fun p:κ×List Int=>p.2)).length:=by simp
  rw [this];simp
 rw [c,b] at a;rw [d] at a ⊢;exact ⟨by rw [hadd];simp [hb],a⟩
theorem Grp.old_key [DecidableEq κ]{w:World}{B M n:Nat}{G:List (κ×List Int)}{bv:List Value}{k:κ}{x:Int}{u:Value}(hb:bv.length=G.length)(hn:n<G.length)(hn2:n<bv.length)(hkey:(G[n]).1=k)(hadd:addG k x G=G.set n (k,G[n].2++[x]))(h:GMid w B M enc (List.zipWith (fun g v=>(g.1,v)) G bv) (bv.set n u) ((G.map (fun p:κ×List Int=>p.2)).set n (G[n].2++[x]))) :
  Grp (pOb w M (mkMap enc ((List.zipWith (fun g v=>(g.1,v)) G bv).set n (k,u)))) B M enc (addG k x G) (bv.set n u):=by
 have a:=h.put ((List.zipWith (fun g v=>(g.1,v)) G bv).set n (k,u));have b:(List.zipWith (fun g v=>(g.1,v)) G bv).set n (k,u)=List.zipWith (fun g v=>(g.1,v)) (addG k x G) (bv.set n u):=by
  rw [hadd];apply List.ext_getElem
  ·simp
  ·intro i d a;simp only [List.getElem_zipWith,List.getElem_set];by_cases hi:n=i
   ·subst hi;simp
   ·simp [hi]
 have c:(G.map (·.2)).set n (G[n].2++[x])=(addG k x G).map (fun p:κ×List Int=>p.2):=by rw [hadd];simp [List.map_set]
 rw [c] at a;rw [b] at a ⊢;exact ⟨by rw [hadd];simp [hb],a⟩
end Go.Proofs.YtmhohaanddglbaaGreatDoor
