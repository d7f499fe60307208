/- Texts of the proof of TopNets, joined: Sheet, Sheet2, Fm, Sheet3, Sheet4, Out, Out2, Out3, Out4, Out5, Once, Alloc. -/
import Derived.Test.YtmhohaanddglbaaGreatDoorM03
import Derived.Deep.RegionHeld3
import Derived.Deep.RegionHeldLaw
import Derived.Lib.RowBridge
set_option linter.all false
set_option maxRecDepth 100000
set_option maxHeartbeats 16000000
namespace Go.Proofs.YtmhohaanddglbaaGreatDoor
open Go.RowKit
section
attribute [local go_sem ↓] Go.wp_at_zero Go.wp_at_succ
instance:Inhabited Ob:=⟨⟨0,0,0,0,0,0⟩⟩
instance:Inhabited Lg:=⟨⟨0,0,0⟩⟩
instance:Inhabited Bd:=⟨⟨0,0,0,0,0⟩⟩
def fnd {α:Type} [Inhabited α](p:α→Bool)(l:List α):Int:=Lib.idxBy (fun _ y=>p y) l default
theorem bang {α:Type} [Inhabited α](l:List α)(i:Nat)(h:i<l.length):l[i]! =l[i]:=by simp [h]
theorem cz {α:Type} [Inhabited α](p:α→Bool)(l:List α):(fnd p l=-1∧∀i (h:i<l.length),p l[i]=false)∨∃i,∃h:i<l.length,fnd p l=(i:Nat)∧p l[i]=true∧∀j (hj:j<i),p (l[j]'(by omega))=false:=by
 have a:∀n,n≤l.length→(∀i (h:i<l.length),i<n→p l[i]=false)∨∃i,∃h:i<l.length,i<n∧p l[i]=true∧∀j (hj:j<i),p (l[j]'(by omega))=false:=by
  intro n;induction n with
  | zero=>intro _;exact Or.inl fun i h h2=>by omega
  | succ n ih=>
   intro b;rcases ih (by omega) with h | ⟨i,h,h1,h2,h3⟩
   ·cases hp:p (l[n]'(by omega)) with
    | true=>exact Or.inr ⟨n,by omega,by omega,hp,fun j hj=>h j (by omega) hj⟩
    | false=>
     refine Or.inl fun i hi h2=>?_
     rcases Az i n with h4 | h4
     ·exact h i hi h4
     ·obtain rfl:i=n:=by omega
      exact hp
   ·exact Or.inr ⟨i,h,by omega,h2,h3⟩
 rcases a l.length (zY _) with h | ⟨i,h,_,h2,h3⟩
 ·refine Or.inl ⟨?_,fun i hi=>h i hi hi⟩;have:=Lib.idxBy_miss (fun _ y=>p y) l l.length default (fun j hj=>by simp only [bang l j hj];exact h j hj hj)
  rwa [Ap] at this
 ·refine Or.inr ⟨i,h,?_,h2,h3⟩;have:=Lib.idxBy_hit (fun _ y=>p y) l l.length i default h (zY _) (by simp only [bang l i h];exact h2) (fun j hj=>by simp only [bang l j (by omega)];exact h3 j hj)
  rwa [Ap] at this
theorem wN {α:Type} [Inhabited α](p:α→Bool)(l:List α):l.any p=decide (0≤fnd p l):=(Lib.idxBy_nonneg_iff (fun _ y=>p y) l default).symm
section
variable {α:Type} [Inhabited α]{enc:α→List Value}{k:Nat}
theorem Sl.bang {w:World}{b off n cap:Nat}{l:List α}(hc:∀i (h:i<l.length) j x,(enc l[i])[j]?=some x→w.cell? ⟨b,off+i * k+j,none⟩=some x):∀j,j<l.length→∀i v,(enc l[j]!)[i]?=some v→w.cell? ⟨b,off+j * k+i,none⟩=some v:=fun j hj i v h=>by
 rw [YtmhohaanddglbaaGreatDoor.bang l j hj] at h;exact hc j hj i v h
end
theorem ou (a:Option Addr)(c:Nat)(fv:Value)(w:World):Calls Tryz.prog 290 #[.slice a 0 c,fv] w fun e w'=>e=.returned (.int .i64 (-1))∧w'=w:=by
 go_enter Tryz.func290,Tryz.ntmps290;go_wp2;go_loopw [8] (fun vi wr=>vi=.int .i64 0∧wr=w) (fun _ _=>0)
 case atStart=>exact ⟨rfl,rfl⟩
 case round=>
  obtain ⟨rfl,rfl⟩:=hrel;go_wp2;go_ret;exact ⟨rfl,rfl⟩
theorem iK:∀w,(Go.sizeOf 71).run Tryz.prog w=.ok 6 w:=Tryz.sizeOf71
theorem ov:∀w,(isAgg 71).run Tryz.prog w=.ok true w:=fun w=>by kernel_rfl
theorem sA (p:Ob→Bool)(g:Nat)(lb:Array Value)(eg:∀args w,(callFunc g args).run Tryz.prog w=.ok (.enter g args) w)(v:Value)(l:List Ob)(w:World)(hv:Sl eOb 6 w v l)(hp:Go.Proofs.PredBelow Tryz.prog g lb (fun x=>.agg (eOb x).toArray) p w) :
  Calls Tryz.prog 290 #[v,.func (.func g) #[] lb] w fun e w'=>e=.returned (.int .i64 (fnd p l))∧Bw w w':=by
 obtain ⟨a,cap,rfl,m,k,f,j⟩:=hv;unfold maxLen at f;by_cases hl:l.length=0
 ·obtain rfl:=Ar hl;exact (ou a cap _ w).mono fun e w' ⟨he,hw⟩=>⟨by rw [he];rfl,by rw [hw];exact zZ _ _⟩
 ·obtain ⟨b,c,rfl,i,d⟩:=j (by omega);have h:=Go.Proofs.AnyQ.slices_IndexFunc Tryz.l290 6 ov iK eOb kOb p g lb eg b c l.length cap l w hp (zY _) (by omega) i (Sl.bang (n:=0) (cap:=0) d);rw [Ap] at h;exact h
structure ShA (w:World)(B gs:Nat)(vo:Value)(l:List Ob):Prop where
 blk:Blk w gs 186 #[vo]
 own:w.ownsRow B 71 6 vo l.length (flat eOb l)
 l1:B≤gs
theorem ShA.keep {w w':World}{B gs:Nat}{vo:Value}{l:List Ob}(h:ShA w B gs vo l)(hb:Bw w w'):ShA w' B gs vo l:=⟨h.blk.keep hb,ah h.own hb,h.l1⟩
theorem ShA.d {w wd:World}{B gs:Nat}{vo:Value}{l:List Ob}(h:ShA w B gs vo l)(e:wd.heap=w.heap:=by rfl):ShA wd B gs vo l:=⟨h.blk.d e,be h.own e,h.l1⟩
def openM (m a:Int)(x:Ob):Bool:=decide (x.stt=1)&&decide (x.mem=m)&&decide (x.ass=a)
theorem pz (g1 g2:Nat)(m a:Int)(x:Ob)(w:World)(h1:Blk w g1 3 #[.int .i64 m])(h2:Blk w g2 3 #[.int .i64 a]):Calls Tryz.prog 291 #[.agg (eOb x).toArray,ptr g1,ptr g2] w fun e w'=>e=.returned (.bool (openM m a x))∧Bw w w':=by
 obtain ⟨l,b,d,j,k,g⟩:=x;have h:Bw w (w.alloc (.cells #[.int .i64 l,.int .i64 b,.int .i64 d,.int .i64 j,.int .i64 k,.int .i64 g] 71)):=Bn;have p:=(h1.keep h).c 0;have q:=(h2.keep h).c 0;have i:Hid (openM m a ⟨l,b,d,j,k,g⟩=(decide (g=1)&&decide (b=m)&&decide (d=a))):=aa rfl;clear h1 h2;show Calls Tryz.prog 291 #[.agg #[.int .i64 l,.int .i64 b,.int .i64 d,.int .i64 j,.int .i64 k,.int .i64 g],ptr g1,ptr g2] w _
 by_cases e1:g=1
 ·by_cases e2:b=m
  ·by_cases e3:d=a
   ·subst e1 e2 e3;have f:Hid ((decide ((1:Int)=1)&&decide (b=b)&&decide (d=d))=true):=aa (by simp);go_enter Tryz.func291,Tryz.ntmps291;go_wp2;go_ret;exact ⟨by rw [i.o,f.o];rfl,h⟩
   ·subst e1 e2;have n:=beq_eq_false_iff_ne.2 e3;have f:Hid ((decide ((1:Int)=1)&&decide (b=b)&&decide (d=a))=false):=aa (by simp [e3]);clear e3;go_enter Tryz.func291,Tryz.ntmps291;go_wp2;go_ret;exact ⟨by rw [i.o,f.o];rfl,h⟩
  ·subst e1;have n:=beq_eq_false_iff_ne.2 e2;have f:Hid ((decide ((1:Int)=1)&&decide (b=m)&&decide (d=a))=false):=aa (by simp [e2]);clear e2;go_enter Tryz.func291,Tryz.ntmps291;go_wp2;go_ret;exact ⟨by rw [i.o,f.o];rfl,h⟩
 ·have n:=beq_eq_false_iff_ne.2 e1;have f:Hid ((decide (g=1)&&decide (b=m)&&decide (d=a))=false):=aa (by simp [e1]);clear e1;go_enter Tryz.func291,Tryz.ntmps291;go_wp2;go_ret;exact ⟨by rw [i.o,f.o];rfl,h⟩
theorem eg291:∀args w,(callFunc 291 args).run Tryz.prog w=.ok (.enter 291 args) w:=enters_of Tryz.func291 (by kernel_rfl) rfl
theorem fZ (B gs:Nat)(vo:Value)(l:List Ob)(m a:Int)(w:World)(hs:ShA w B gs vo l):Calls Tryz.prog 241 #[ptr gs,.int .i64 m,.int .i64 a] w fun e w'=>e=.returned (.int .i64 (fnd (openM m a) l))∧Bw w w':=by
 obtain ⟨d,b⟩:∃d,d=(w.alloc (.cells #[.int .i64 m] 3)).alloc (.cells #[.int .i64 a] 3):=⟨_,rfl⟩;have f:Bw w d:=by rw [b];exact Bn.alloc (by simp) _
 have i:Blk d w.heap.size 3 #[.int .i64 m]:=by rw [b];exact (Blk.new w 3 _).alloc _
 have j:Blk d (w.heap.size+1) 3 #[.int .i64 a]:=by rw [b];have:=Blk.new (w.alloc (.cells #[.int .i64 m] 3)) 3 #[.int .i64 a];simpa using this
 have g:=aa (hs.keep f);have h:=ag hs.own;obtain ⟨q,n,rfl⟩:=h;have p:=g.o.blk.c 0;have k:=aa (sA (openM m a) 291 #[ptr w.heap.size,ptr (w.heap.size+1)] eg291 _ l d (Sl.own kOb g.o.own) (fun W x hb=>(pz w.heap.size (w.heap.size+1) m a x W (i.keep hb) (j.keep hb)).mono fun e w' ⟨he,hw⟩=>⟨he,hb.trans (hw.mono hb.size)⟩));clear hs;subst b;go_enter Tryz.func241,Tryz.ntmps241;go_wp2_with (go_at_call 290;refine k.o.mono ?_;rintro e w1 ⟨rfl,c2⟩)
 go_ret;exact ⟨rfl,f.trans (c2.mono f.size)⟩
def sizeM (x:Ob):Int:=max x.net (wrap64 (-x.net))
theorem pA (x:Ob)(w:World):Calls Tryz.prog 242 #[.agg (eOb x).toArray] w fun e w'=>e=.returned (.int .i64 (sizeM x))∧Bw w w':=by
 obtain ⟨f,g,d,c,b,a⟩:=x;have h:Bw w (w.alloc (.cells #[.int .i64 f,.int .i64 g,.int .i64 d,.int .i64 c,.int .i64 b,.int .i64 a] 71)):=Bn;show Calls Tryz.prog 242 #[.agg #[.int .i64 f,.int .i64 g,.int .i64 d,.int .i64 c,.int .i64 b,.int .i64 a]] w _
 go_enter Tryz.func242,Tryz.ntmps242;go_wp2;go_ret;exact ⟨rfl,h⟩
def obAt (l:List Ob)(i:Int):Ob:=l.getD i.toNat default
theorem fF (l:List Ob)(i:Nat)(h:i<l.length):obAt l (i:Int)=l[i]:=by unfold obAt;simp [h]
def debtM (l:List Ob)(m a amt:Int):Int×Int:=
 if fnd (openM m a) l<0∨(obAt l (fnd (openM m a) l)).net<0 then (0,8) else if amt<1 then (0,1) else (fnd (openM m a) l,0)
theorem ShA.at {w:World}{B gs:Nat}{n1:Option Addr}{k1:Nat}{l:List Ob}(hs:ShA w B gs (.slice n1 l.length k1) l)(i:Nat)(h:i<l.length):∃b,n1=some ⟨b,0,none⟩∧b≠gs∧(∀W,Bw w W→W.cell? ⟨b,i * 6,none⟩=some (.int .i64 l[i].cycle)∧W.cell? ⟨b,i * 6+1,none⟩=some (.int .i64 l[i].mem)∧W.cell? ⟨b,i * 6+2,none⟩=some (.int .i64 l[i].ass)∧W.cell? ⟨b,i * 6+3,none⟩=some (.int .i64 l[i].net)∧W.cell? ⟨b,i * 6+4,none⟩=some (.int .i64 l[i].done)∧W.cell? ⟨b,i * 6+5,none⟩=some (.int .i64 l[i].stt))∧(∀W,Bw w W→∀j,W.frozen? ⟨b,j,none⟩=false)∧k1≤maxLen∧l.length≤k1:=by
 have m:=hs.own;have n:=aD hs.blk m (by decide);have r:=Sl.own kOb m;obtain ⟨_,k⟩:=m;rcases k with ⟨k,h0⟩ | ⟨g,cap,cur,k,_,hg,h3,h4,_,_⟩
 ·omega
 ·obtain ⟨rfl,rfl⟩:n1=some ⟨g,0,none⟩∧k1=cap:=by simpa using k
  obtain ⟨y,f,q,_,_,_,s⟩:=r;obtain ⟨e1,e2⟩:some ⟨g,0,none⟩=y∧k1=f:=by simpa using q
  subst e1 e2;obtain ⟨b,o,x,a,t⟩:=s (by omega);obtain ⟨rfl,rfl⟩:g=b∧0=o:=by simpa using x
  have d:=t i h;simp only [Av] at d;refine ⟨g,rfl,n g rfl,fun W hW=>?_,fun W hW j=>?_,h4,h3⟩
  ·obtain ⟨v,z,C,A,u,D⟩:=g8 d;exact ⟨(hW.c (p:=⟨g,i * 6,none⟩) a).trans v,(hW.c (p:=⟨g,i * 6+1,none⟩) a).trans z,(hW.c (p:=⟨g,i * 6+2,none⟩) a).trans C,(hW.c (p:=⟨g,i * 6+3,none⟩) a).trans A,(hW.c (p:=⟨g,i * 6+4,none⟩) a).trans u,(hW.c (p:=⟨g,i * 6+5,none⟩) a).trans D⟩
  ·have:W.heap[g]?=some (.cells cur 71 (0,0)):=(hW.block g a).trans hg
   simp [World.frozen?,this]
theorem sB (B gs:Nat)(vo:Value)(l:List Ob)(m a amt:Int)(w:World)(hs:ShA w B gs vo l)(hn:l.length≤100000):Calls Tryz.prog 195 #[ptr gs,.int .i64 m,.int .i64 a,.int .i64 amt] w fun e w'=>e=.returned (.tuple #[.int .i64 (debtM l m a amt).1,.int .i64 (debtM l m a amt).2])∧Bw w w':=by
 have s:=aa hs;have p:=aa (fZ B gs vo l m a w hs);have A:=ag hs.own;obtain ⟨H,G,rfl⟩:=A;have q:Hid (debtM l m a amt=if fnd (openM m a) l<0∨(obAt l (fnd (openM m a) l)).net<0 then (0,8) else if amt<1 then (0,1) else (fnd (openM m a) l,0)):=aa rfl;rcases cz (openM m a) l with ⟨h1,_⟩ | ⟨i,hi,h1,_,_⟩
 ·have k:=aa h1;have g:Hid (debtM l m a amt=(0,8)):=aa (by rw [q.o,if_pos (Or.inl (by rw [h1];decide))]);clear hs h1 q;go_enter Tryz.func195,Tryz.ntmps195;go_wp2_with (go_at_call 241;refine p.o.mono ?_;rintro e j ⟨rfl,d⟩;rw [k.o])
  go_ret2;exact ⟨by rw [g.o];rfl,d⟩
 ·have k:=aa h1;obtain ⟨b,rfl,E,n,_,t,C⟩:=hs.at i hi;have h:=aa n;have u:Hid (obAt l (i:Int)=l[i]):=aa (fF l i hi);have g:Hid (debtM l m a amt=if l[i].net<0 then (0,8) else if amt<1 then (0,1) else ((i:Int),0)):=aa (by
   rw [q.o,h1,u.o];by_cases hq:l[i].net<0
   ·rw [if_pos (Or.inr hq),if_pos hq]
   ·rw [if_neg (by omega),if_neg hq])
  have z:(0:Int)≤(i:Int):=by omega
  have D:(i:Int)<(l.length:Int):=by omega
  have F:decide ((i:Int)<0)=false:=dF (by omega);unfold maxLen at t;clear hs h1 q n u;generalize l[i]=x at *;by_cases hq:x.net<0
  ·have y:=dT hq;have f:Hid (debtM l m a amt=(0,8)):=aa (by rw [g.o,if_pos hq]);clear g hq;go_enter Tryz.func195,Tryz.ntmps195;go_wp2_with (go_at_call 241;refine p.o.mono ?_;rintro e j ⟨rfl,d⟩;rw [k.o];have v:=(s.o.keep d).blk.c 0;obtain ⟨_,_,_,q3,_,_⟩:=h.o j d)
   try go_quiet (fail)
   go_wp2_with fail;go_ret2;exact ⟨by rw [f.o];rfl,by first | exact d | exact aj d _⟩
  ·have y:=dF hq;by_cases hm:amt<1
   ·have r:=dT hm;have f:Hid (debtM l m a amt=(0,1)):=aa (by rw [g.o,if_neg hq,if_pos hm]);clear g hq hm;go_enter Tryz.func195,Tryz.ntmps195;go_wp2_with (go_at_call 241;refine p.o.mono ?_;rintro e j ⟨rfl,d⟩;rw [k.o];have v:=(s.o.keep d).blk.c 0;obtain ⟨_,_,_,q3,_,_⟩:=h.o j d)
    try go_quiet (fail)
    go_wp2_with fail;go_ret2;exact ⟨by rw [f.o];rfl,by first | exact d | exact aj d _⟩
   ·have r:=dF hm;have f:Hid (debtM l m a amt=((i:Int),0)):=aa (by rw [g.o,if_neg hq,if_neg hm]);clear g hq hm;go_enter Tryz.func195,Tryz.ntmps195;go_wp2_with (go_at_call 241;refine p.o.mono ?_;rintro e j ⟨rfl,d⟩;rw [k.o];have v:=(s.o.keep d).blk.c 0;obtain ⟨_,_,_,q3,_,_⟩:=h.o j d)
    try go_quiet (fail)
    go_wp2_with fail;go_ret2;exact ⟨by rw [f.o];rfl,by first | exact d | exact aj d _⟩
theorem sC {α:Type}(enc:α→List Value)(k:Nat)(hk:∀x,(enc x).length=k)(l:List α):∀(i:Nat)(hi:i<l.length)(j:Nat)(v:Value)(x':α),j<k→enc x'=(enc l[i]).set j v→(flat enc l).set (i * k+j) v=flat enc (l.set i x'):=by
 induction l with
 | nil=>intro i hi;simp at hi
 | cons c l ih=>
  intro i hi j v x' d a;have b:flat enc (c :: l)=enc c++flat enc l:=by simp [flat]
  cases i with
  | zero=>
   simp only [Aw] at a;rw [b,List.set_append_left _ _ (by rw [hk];omega),z6];simp [flat,a]
  | succ i=>
   have e:(i+1) * k+j=k+(i * k+j):=by rw [Nat.succ_mul];omega
   rw [b,List.set_append_right _ _ (by rw [hk,e];omega),z7];have f:=ih i (by simpa using hi) j v x' d (by simpa using a);rw [hk,e,show k+(i * k+j) - k=i * k+j by omega,f];simp [flat]
theorem kn {α:Type}{enc:α→List Value}{k:Nat}{w:World}{B b cap:Nat}{T:TypeId}{l:List α}(hk:∀x,(enc x).length=k)(h:w.ownsRow B T k (.slice (some ⟨b,0,none⟩) l.length cap) l.length (flat enc l))(i:Nat)(hi:i<l.length)(j:Nat)(hj:j<k)(v:Value)(x':α)(he:enc x'=(enc l[i]).set j v) :
  (w.setCell ⟨b,i * k+j,none⟩ v).ownsRow B T k (.slice (some ⟨b,0,none⟩) l.length cap) l.length (flat enc (l.set i x')):=by
 obtain ⟨_,a⟩:=h;refine ⟨by rw [aC enc k hk,AH],?_⟩;rcases a with ⟨h,_⟩ | ⟨g,cap',cur,hv,hg,hh,h3,h4,h5,h6⟩
 ·simp at h
 ·obtain ⟨rfl,rfl⟩:b=g∧cap=cap':=by simpa using hv
  refine Or.inr ⟨b,cap,cur.setIfInBounds (i * k+j) v,rfl,hg,heap_setCell_same w b (i * k+j) cur T v hh,h3,h4,by simp [h5],?_⟩;rw [Array.toList_setIfInBounds,List.take_set,h6,sC enc k hk l i hi j v x' hj he]
def SPost (B gs:Nat)(vo:Value)(K:List Nat)(r:Int×List Ob)(w:World)(e:Ending)(w':World):Prop:=
 e=.returned (.int .i64 r.1)∧ShA w' B gs vo r.2∧ModT B [71] K w w'
theorem SPost.same {B gs:Nat}{vo:Value}{K:List Nat}{n:Int}{l:List Ob}{w w':World}(h:ShA w B gs vo l)(c:Bw w w'):SPost B gs vo K (n,l) w (.returned (.int .i64 n)) w':=⟨rfl,h.keep c,ModT.below c⟩
theorem ShA.one {w:World}{B gs b cap:Nat}{l:List Ob}(h:ShA w B gs (.slice (some ⟨b,0,none⟩) l.length cap) l)(i:Nat)(hi:i<l.length)(j:Nat)(hj:j<6)(v:Value)(x':Ob)(he:eOb x'=(eOb l[i]).set j v)(hne:b≠gs) :
  ShA (w.setCell ⟨b,i * 6+j,none⟩ v) B gs (.slice (some ⟨b,0,none⟩) l.length cap) (l.set i x'):=by
 have a:=kn kOb h.own i hi j hj v x' he;exact ⟨h.blk.far _ _ hne.symm,by rw [AH];exact a,h.l1⟩
theorem jB {w:World}{B b cap:Nat}{T:TypeId}{k n:Nat}{xs:List Value}(h:w.ownsRow B T k (.slice (some ⟨b,0,none⟩) n cap) n xs):B≤b∧∃cur,Blk w b T cur:=by
 obtain ⟨_,a⟩:=h;rcases a with ⟨h,_⟩ | ⟨g,cap',cur,hv,hg,hh,_⟩
 ·simp at h
 ·obtain ⟨rfl,rfl⟩:b=g∧cap=cap':=by simpa using hv
  exact ⟨hg,cur,hh⟩
def payM (l:List Ob)(m a amt:Int):Int×List Ob:=
 if (debtM l m a amt).2≠0 then ((debtM l m a amt).2,l)
 else if wrap64 ((obAt l (fnd (openM m a) l)).net - (obAt l (fnd (openM m a) l)).done)<amt then (12,l)
 else (0,l.set (fnd (openM m a) l).toNat { obAt l (fnd (openM m a) l) with done:=wrap64 ((obAt l (fnd (openM m a) l)).done+amt) })
theorem wO {l:List Ob}{m a amt:Int}(h:(debtM l m a amt).2=0):∃i,∃hi:i<l.length,fnd (openM m a) l=(i:Nat)∧openM m a l[i]=true∧0≤l[i].net∧1≤amt∧debtM l m a amt=((i:Int),0)∧obAt l (i:Int)=l[i]:=by
 rcases cz (openM m a) l with ⟨h1,_⟩ | ⟨i,hi,h1,h2,_⟩
 ·unfold debtM at h;rw [if_pos (Or.inl (by rw [h1];decide))] at h;simp at h
 ·refine ⟨i,hi,h1,h2,?_⟩;unfold debtM at h ⊢;rw [h1,fF l i hi] at h ⊢;by_cases hq:l[i].net<0
  ·rw [if_pos (Or.inr hq)] at h;simp at h
  ·by_cases hm:amt<1
   ·rw [if_neg (by omega),if_pos hm] at h;simp at h
   ·rw [if_neg (by omega),if_neg hm];exact ⟨by omega,by omega,rfl,rfl⟩
theorem wP (B gs:Nat)(vo:Value)(l:List Ob)(m a amt:Int)(K:List Nat)(w:World)(hs:ShA w B gs vo l)(hn:l.length≤100000)(hKv:∀k,vo.ownBlock=some k→k∉K) :
  Calls Tryz.prog 154 #[ptr gs,.int .i64 m,.int .i64 a,.int .i64 amt] w (SPost B gs vo K (payM l m a amt) w):=by
 have p:=aa hs;have v:=aa hKv;have A:=aa (sB B gs vo l m a amt w hs hn);have N:=ag hs.own;obtain ⟨T,F,rfl⟩:=N;by_cases hdb:(debtM l m a amt).2=0
 ·obtain ⟨i,D,u,_,_,_,C,E⟩:=wO hdb;obtain ⟨b,rfl,hbn,hcl,hfz,hm1,hm2⟩:=hs.at i D;have g:Hid (payM l m a amt=if wrap64 (l[i].net - l[i].done)<amt then (12,l) else (0,l.set i { l[i] with done:=wrap64 (l[i].done+amt) })):=aa (by unfold payM;rw [if_neg (by simpa using hdb),u,E];rfl);have q:=aa hcl;have y:=aa hfz;have t:=aa C;have n:Hid (∀W,Bw w W→ShA (W.setCell ⟨b,i * 6+4,none⟩ (.int .i64 (wrap64 (l[i].done+amt)))) B gs (.slice (some ⟨b,0,none⟩) l.length F) (l.set i { l[i] with done:=wrap64 (l[i].done+amt) })∧ModT B [71] K w (W.setCell ⟨b,i * 6+4,none⟩ (.int .i64 (wrap64 (l[i].done+amt))))):=aa (fun W hW=>by
   have s:=p.o.keep hW;obtain ⟨Q,M,z⟩:=jB s.own;exact ⟨s.one i D 4 (by decide) _ _ rfl hbn,(ModT.below hW).trans (ModT.set z (by simp) Q (v.o b rfl))⟩)
  have G:(0:Int)≤(i:Int):=by omega
  have L:(i:Int)<(l.length:Int):=by omega
  unfold maxLen at hm1;clear hs hcl hfz u C E hdb hKv;generalize l[i]=x at *;by_cases hq:wrap64 (x.net - x.done)<amt
  ·have h:=dT hq;have f:Hid (payM l m a amt=(12,l)):=aa (by rw [g.o,if_pos hq]);clear g hq;go_enter Tryz.func154,Tryz.ntmps154;go_wp2_with (go_at_call 195;refine A.o.mono ?_;rintro e j ⟨rfl,d⟩;rw [t.o];have P:=(p.o.keep d).blk.c 0;obtain ⟨_,_,_,q3,q4,_⟩:=q.o j d)
   go_quiet (fail)
   go_wp2_with fail;go_ret;rw [f.o];exact SPost.same p.o (aj d _)
  ·have h:=dF hq;have f:Hid (payM l m a amt=(0,l.set i { x with done:=wrap64 (x.done+amt) })):=aa (by rw [g.o,if_neg hq]);clear g hq;go_enter Tryz.func154,Tryz.ntmps154;go_wp2_with (go_at_call 195;refine A.o.mono ?_;rintro e j ⟨rfl,d⟩;rw [t.o];have P:=(p.o.keep d).blk.c 0;obtain ⟨_,_,_,q3,q4,_⟩:=q.o j d)
   go_quiet (fail)
   have O:=aj d nq;have S:=y.o j d (i * 6+4);go_wp2_with fail;go_ret;rw [f.o];obtain ⟨u,J⟩:=n.o _ O;exact ⟨rfl,u,J⟩
 ·have g:Hid (payM l m a amt=((debtM l m a amt).2,l)):=aa (by unfold payM;rw [if_pos hdb]);obtain ⟨⟨R,H⟩,h⟩:∃r,debtM l m a amt=r:=⟨_,rfl⟩;have t:=aa h;rw [h] at g hdb;have I:(H != 0)=true:=by simpa using hdb
  clear hs hdb h hKv;go_enter Tryz.func154,Tryz.ntmps154;go_wp2_with (go_at_call 195;refine A.o.mono ?_;rintro e j ⟨rfl,d⟩;rw [t.o])
  go_ret;rw [g.o];exact SPost.same p.o d
theorem ox (x:Ob){n:Int}(h:sizeM x=n)(w:World):Calls Tryz.prog 242 #[.agg #[.int .i64 x.cycle,.int .i64 x.mem,.int .i64 x.ass,.int .i64 x.net,.int .i64 x.done,.int .i64 x.stt]] w fun e w'=>e=.returned (.int .i64 n)∧Bw w w':=by
 rw [←h];exact pA x w
def badMark (n stt done:Int):Bool:=decide (stt<2)||decide (5<stt)||decide (done<0)||decide (n<done)||(decide (stt=2)&&decide (done≠n))
def markM (l:List Ob)(m a stt done:Int):Int×List Ob:=
 if fnd (openM m a) l<0 then (8,l)
 else if badMark (sizeM (obAt l (fnd (openM m a) l))) stt done=true then (1,l)
 else (0,l.set (fnd (openM m a) l).toNat { obAt l (fnd (openM m a) l) with done:=done,stt:=stt })
theorem my {n s d:Int}:s<2∨(¬ s<2∧5<s)∨(¬ s<2∧¬ 5<s∧d<0)∨(¬ s<2∧¬ 5<s∧¬ d<0∧n<d)∨(¬ s<2∧¬ 5<s∧¬ d<0∧¬ n<d∧s=2∧d≠n)∨(¬ s<2∧¬ 5<s∧¬ d<0∧¬ n<d∧s=2∧d=n)∨(¬ s<2∧¬ 5<s∧¬ d<0∧¬ n<d∧s≠2):=by omega
theorem sD (B gs:Nat)(vo:Value)(l:List Ob)(m a stt done:Int)(K:List Nat)(w:World)(hs:ShA w B gs vo l)(hn:l.length≤100000)(hKv:∀k,vo.ownBlock=some k→k∉K) :
  Calls Tryz.prog 259 #[ptr gs,.int .i64 m,.int .i64 a,.int .i64 stt,.int .i64 done] w (SPost B gs vo K (markM l m a stt done) w):=by
 have q:=aa hs;have F:=aa hKv;have J:=aa (fZ B gs vo l m a w hs);have hf:=ag hs.own;obtain ⟨n1,V,rfl⟩:=hf;rcases cz (openM m a) l with ⟨C,_⟩ | ⟨i,hi,C,_,_⟩
 ·have H:=aa C;have v:Hid (markM l m a stt done=(8,l)):=aa (by unfold markM;rw [if_pos (by rw [C];decide)]);clear hs C hKv;go_enter Tryz.func259,Tryz.ntmps259;go_wp2_with (go_at_call 241;refine J.o.mono ?_;rintro e z ⟨rfl,g⟩;rw [H.o])
  go_ret;rw [v.o];exact SPost.same q.o g
 ·have H:=aa C;obtain ⟨b,rfl,E,R,T,Z,af⟩:=hs.at i hi;have j:=aa R;have G:=aa T;have v:Hid (markM l m a stt done=if badMark (sizeM l[i]) stt done=true then (1,l) else (0,l.set i { l[i] with done:=done,stt:=stt })):=aa (by
   unfold markM;rw [C,fF l i hi,if_neg (by omega)];rfl)
  have ad:(0:Int)≤(i:Int):=by omega
  have ae:(i:Int)<(l.length:Int):=by omega
  have ah:decide ((i:Int)<0)=false:=dF (by omega);have L:Hid (∀W,Bw w W→∀W',(W'=(W.setCell ⟨b,i * 6+5,none⟩ (.int .i64 stt)).setCell ⟨b,i * 6+4,none⟩ (.int .i64 done)∨W'=(W.setCell ⟨b,i * 6+4,none⟩ (.int .i64 done)).setCell ⟨b,i * 6+5,none⟩ (.int .i64 stt))→ShA W' B gs (.slice (some ⟨b,0,none⟩) l.length V) (l.set i { l[i] with done:=done,stt:=stt })∧ModT B [71] K w W'):=aa (fun W hW W' hW'=>by
   have I:=q.o.keep hW;have r:∀x':Ob,(l.set i x').length=l.length:=fun x'=>by rw [AH]
   rcases hW' with rfl | rfl
   ·have s1:=I.one i hi 5 (by decide) (.int .i64 stt) { l[i] with stt:=stt } rfl E;have P:=ShA.one (l:=l.set i { l[i] with stt:=stt }) (b:=b) (cap:=V) (by rw [r];exact s1) i (by rw [r];exact hi) 4 (by decide) (.int .i64 done) { l[i] with done:=done,stt:=stt } (by rw [List.getElem_set_self];rfl) E;rw [r,List.set_set] at P;obtain ⟨S,ab,D⟩:=jB I.own;have Y:=ModT.set (x:=.int .i64 stt) (i:=i * 6+5) (TS:=[71]) (K:=K) D (by simp) S (F.o b rfl);exact ⟨P,((ModT.below hW).trans Y).trans (ModT.set (D.set _ _) (by simp) S (F.o b rfl))⟩
   ·have s1:=I.one i hi 4 (by decide) (.int .i64 done) { l[i] with done:=done } rfl E;have P:=ShA.one (l:=l.set i { l[i] with done:=done }) (b:=b) (cap:=V) (by rw [r];exact s1) i (by rw [r];exact hi) 5 (by decide) (.int .i64 stt) { l[i] with done:=done,stt:=stt } (by rw [List.getElem_set_self];rfl) E;rw [r,List.set_set] at P;obtain ⟨S,ab,D⟩:=jB I.own;have Y:=ModT.set (x:=.int .i64 done) (i:=i * 6+4) (TS:=[71]) (K:=K) D (by simp) S (F.o b rfl);exact ⟨P,((ModT.below hW).trans Y).trans (ModT.set (D.set _ _) (by simp) S (F.o b rfl))⟩)
  unfold maxLen at Z;have ac:gs≠b:=E.symm;clear hs C R T hKv;generalize l[i]=x at *;obtain ⟨Q,M⟩:∃Q,sizeM x=Q:=⟨_,rfl⟩;have y:=aa (ox x M);rw [M] at v;clear M;rcases my (n:=Q) (s:=stt) (d:=done) with h | ⟨k1',h⟩ | ⟨k1',k2,h⟩ | ⟨k1',k2,k3,h⟩ | ⟨k1',k2,k3,k4,h5,h⟩ | ⟨k1',k2,k3,k4,h5,h⟩ | ⟨k1',k2,k3,k4,h⟩
  ·have N:=dT h;have p:Hid (markM l m a stt done=(1,l)):=aa (by rw [v.o,if_pos (by unfold badMark;simp;omega)]);clear v h;go_enter Tryz.func259,Tryz.ntmps259;go_wp2_with (first
    | (go_at_call 241;refine J.o.mono ?_;rintro e z ⟨rfl,g⟩;rw [H.o];have t:=(q.o.keep g).blk.c 0;obtain ⟨q0,q1,q2,q3,q4,q5⟩:=j.o z g)
    | (go_at_call 242;refine (y.o _).mono ?_;rintro e u ⟨rfl,A⟩;have f:=g.trans (A.mono g.size);clear t q0 q1 q2 q3 q4 q5;have t:=(q.o.keep f).blk.c 0;obtain ⟨q0,q1,q2,q3,q4,q5⟩:=j.o u f))
   go_ret;rw [p.o];exact SPost.same q.o f
  ·have N:=dF k1';have O:=dT h;have p:Hid (markM l m a stt done=(1,l)):=aa (by rw [v.o,if_pos (by unfold badMark;simp;omega)]);clear v h k1';go_enter Tryz.func259,Tryz.ntmps259;go_wp2_with (first
    | (go_at_call 241;refine J.o.mono ?_;rintro e z ⟨rfl,g⟩;rw [H.o];have t:=(q.o.keep g).blk.c 0;obtain ⟨q0,q1,q2,q3,q4,q5⟩:=j.o z g)
    | (go_at_call 242;refine (y.o _).mono ?_;rintro e u ⟨rfl,A⟩;have f:=g.trans (A.mono g.size);clear t q0 q1 q2 q3 q4 q5;have t:=(q.o.keep f).blk.c 0;obtain ⟨q0,q1,q2,q3,q4,q5⟩:=j.o u f))
   go_ret;rw [p.o];exact SPost.same q.o f
  ·have N:=dF k1';have O:=dF k2;have U:=dT h;have p:Hid (markM l m a stt done=(1,l)):=aa (by rw [v.o,if_pos (by unfold badMark;simp;omega)]);clear v h k1' k2;go_enter Tryz.func259,Tryz.ntmps259;go_wp2_with (first
    | (go_at_call 241;refine J.o.mono ?_;rintro e z ⟨rfl,g⟩;rw [H.o];have t:=(q.o.keep g).blk.c 0;obtain ⟨q0,q1,q2,q3,q4,q5⟩:=j.o z g)
    | (go_at_call 242;refine (y.o _).mono ?_;rintro e u ⟨rfl,A⟩;have f:=g.trans (A.mono g.size);clear t q0 q1 q2 q3 q4 q5;have t:=(q.o.keep f).blk.c 0;obtain ⟨q0,q1,q2,q3,q4,q5⟩:=j.o u f))
   go_ret;rw [p.o];exact SPost.same q.o f
  ·have N:=dF k1';have O:=dF k2;have U:=dF k3;have d4:=dT h;have p:Hid (markM l m a stt done=(1,l)):=aa (by rw [v.o,if_pos (by unfold badMark;simp;omega)]);clear v h k1' k2 k3;go_enter Tryz.func259,Tryz.ntmps259;go_wp2_with (first
    | (go_at_call 241;refine J.o.mono ?_;rintro e z ⟨rfl,g⟩;rw [H.o];have t:=(q.o.keep g).blk.c 0;obtain ⟨q0,q1,q2,q3,q4,q5⟩:=j.o z g)
    | (go_at_call 242;refine (y.o _).mono ?_;rintro e u ⟨rfl,A⟩;have f:=g.trans (A.mono g.size);clear t q0 q1 q2 q3 q4 q5;have t:=(q.o.keep f).blk.c 0;obtain ⟨q0,q1,q2,q3,q4,q5⟩:=j.o u f))
   go_ret;rw [p.o];exact SPost.same q.o f
  ·have N:=dF k1';have O:=dF k2;have U:=dF k3;have d4:=dF k4;have d5:=beq_iff_eq.2 h5;have d6:(done != Q)=true:=by simpa using h
   have p:Hid (markM l m a stt done=(1,l)):=aa (by rw [v.o,if_pos (by unfold badMark;simp;omega)]);clear v h k1' k2 k3 k4 h5;go_enter Tryz.func259,Tryz.ntmps259;go_wp2_with (first
    | (go_at_call 241;refine J.o.mono ?_;rintro e z ⟨rfl,g⟩;rw [H.o];have t:=(q.o.keep g).blk.c 0;obtain ⟨q0,q1,q2,q3,q4,q5⟩:=j.o z g)
    | (go_at_call 242;refine (y.o _).mono ?_;rintro e u ⟨rfl,A⟩;have f:=g.trans (A.mono g.size);clear t q0 q1 q2 q3 q4 q5;have t:=(q.o.keep f).blk.c 0;obtain ⟨q0,q1,q2,q3,q4,q5⟩:=j.o u f))
   go_ret;rw [p.o];exact SPost.same q.o f
  ·have N:=dF k1';have O:=dF k2;have U:=dF k3;have d4:=dF k4;have d5:=beq_iff_eq.2 h5;have d6:(done != Q)=false:=by simpa using h
   have p:Hid (markM l m a stt done=(0,l.set i { x with done:=done,stt:=stt })):=aa (by rw [v.o,if_neg (by unfold badMark;simp;omega)]);clear v h k1' k2 k3 k4 h5;go_enter Tryz.func259,Tryz.ntmps259;go_wp2_with (first
    | (go_at_call 241;refine J.o.mono ?_;rintro e z ⟨rfl,g⟩;rw [H.o];have t:=(q.o.keep g).blk.c 0;obtain ⟨q0,q1,q2,q3,q4,q5⟩:=j.o z g)
    | (go_at_call 242;refine (y.o _).mono ?_;rintro e u ⟨rfl,A⟩;have f:=g.trans (A.mono g.size);clear t q0 q1 q2 q3 q4 q5;have t:=(q.o.keep f).blk.c 0;obtain ⟨q0,q1,q2,q3,q4,q5⟩:=j.o u f))
   have f4:=G.o u f (i * 6+4);have f5:=G.o u f (i * 6+5);go_region
   all_goals
    go_wp2_with fail;go_ret;rw [p.o];obtain ⟨C,X⟩:=L.o u.drew (aj f 1) _ (by first | exact Or.inl rfl | exact Or.inr rfl);exact ⟨rfl,C,X⟩
  ·have N:=dF k1';have O:=dF k2;have U:=dF k3;have d4:=dF k4;have d5:=beq_eq_false_iff_ne.2 h;have p:Hid (markM l m a stt done=(0,l.set i { x with done:=done,stt:=stt })):=aa (by rw [v.o,if_neg (by unfold badMark;simp;omega)]);clear v h k1' k2 k3 k4;go_enter Tryz.func259,Tryz.ntmps259;go_wp2_with (first
    | (go_at_call 241;refine J.o.mono ?_;rintro e z ⟨rfl,g⟩;rw [H.o];have t:=(q.o.keep g).blk.c 0;obtain ⟨q0,q1,q2,q3,q4,q5⟩:=j.o z g)
    | (go_at_call 242;refine (y.o _).mono ?_;rintro e u ⟨rfl,A⟩;have f:=g.trans (A.mono g.size);clear t q0 q1 q2 q3 q4 q5;have t:=(q.o.keep f).blk.c 0;obtain ⟨q0,q1,q2,q3,q4,q5⟩:=j.o u f))
   have f4:=G.o u f (i * 6+4);have f5:=G.o u f (i * 6+5);go_region
   all_goals
    go_wp2_with fail;go_ret;rw [p.o];obtain ⟨C,X⟩:=L.o u.drew (aj f 1) _ (by first | exact Or.inl rfl | exact Or.inr rfl);exact ⟨rfl,C,X⟩
end
theorem bC {α β:Type}(f:α→Option β)(l:List α)(k:Nat)(h:k<l.length):(l.take (k+1)).filterMap f=(l.take k).filterMap f++(f l[k]).toList:=by
 rw [z9 h,List.filterMap_append];cases hf:f l[k] with
 | none=>simp [hf]
 | some y=>simp [hf]
theorem Sl.one1 {α:Type}(enc:α→List Value){k:Nat}(hk:∀x,(enc x).length=k)(w:World)(T:TypeId)(x:α){cs:Array Value}(hc:cs.toList=enc x):Sl enc k (w.alloc (.cells cs T)) (.slice (some ⟨w.heap.size,0,none⟩) 1 1) [x]:=by
 refine ⟨some ⟨w.heap.size,0,none⟩,1,rfl,(fun h=>by cases h),by simp,by unfold maxLen;omega,fun _=>⟨w.heap.size,0,rfl,by simp,fun i hi j u hu=>?_⟩⟩;have a:i=0:=by simpa using hi
 subst a;have e:(⟨w.heap.size,0+0 * k+j,none⟩:Addr)=⟨w.heap.size,j,none⟩:=by simp
 rw [e,(Blk.new w T cs).c j];rw [Aw,←hc] at hu;simpa using hu
theorem Sl.one1b {α:Type}(enc:α→List Value){k:Nat}(hk:∀x,(enc x).length=k)(w:World)(T:TypeId)(x:α){cs:Array Value}(hc:cs.toList=enc x)(b:Nat)(hb:w.heap.size=b):Sl enc k (w.alloc (.cells cs T)) (.slice (some ⟨b,0,none⟩) 1 1) [x]:=by
 subst hb;exact Sl.one1 enc hk w T x hc
section
attribute [local go_sem ↓] Go.wp_at_zero Go.wp_at_succ
theorem cC (B gs:Nat)(vo:Value)(l:List Ob)(w:World)(hs:ShA w B gs vo l)(hn:l.length≤100000):Calls Tryz.prog 85 #[ptr gs] w (CPo eOb 71 6 l w):=by
 have h:=hs.blk.c 0;have d:=aa (Sl.own kOb hs.own);have b:=ag hs.own;obtain ⟨a,f,rfl⟩:=b;clear hs;go_enter Tryz.func85,Tryz.ntmps85;go_wp2_with (go_at_call 121;refine (ws _ l _ d.o (by omega)).mono ?_;rintro e w1 ⟨v1,rfl,hown,c1⟩)
 have b:=ag hown;obtain ⟨i,g,rfl⟩:=b;go_ret;exact ⟨_,rfl,hown,c1⟩
def PredOb (g:Nat)(p:Ob→Bool):Prop:=∀(W:World)(x:Ob),Calls Tryz.prog g #[.agg #[.int .i64 x.cycle,.int .i64 x.mem,.int .i64 x.ass,.int .i64 x.net,.int .i64 x.done,.int .i64 x.stt]] W fun e w'=>e=.returned (.bool (p x))∧Bw W w'
def openF (p:Ob→Bool)(x:Ob):Option Ob:=if x.stt=1∧p x=true then some x else none
def RPo {α:Type}(enc:α→List Value)(T:TypeId)(k:Nat)(l:List α)(w:World)(e:Ending)(w':World):Prop:=
 ∃v,e=.returned v∧w'.ownsRow w.heap.size T k v l.length (flat enc l)∧Bw w w'
theorem iL (B gs:Nat)(vo:Value)(l:List Ob)(g:Nat)(eg:∀args w,(callFunc g args).run Tryz.prog w=.ok (.enter g args) w)(p:Ob→Bool)(hp:PredOb g p)(w:World)(hs:ShA w B gs vo l)(hn:l.length≤100000):Calls Tryz.prog 275 #[ptr gs,.func (.func g) #[] #[]] w (RPo eOb 71 6 (l.filterMap (openF p)) w):=by
 have X:=aa (cC B gs vo l w hs hn);have N:=aa hp;obtain ⟨Z,hi,F,G,H⟩:=info_parts jp;clear hs hp;go_enter Tryz.func275,Tryz.ntmps275;go_wp2_with (go_at_call 85;refine X.o.mono ?_;rintro e w1 ⟨v1,rfl,a,c1⟩;have hf:=ag a;obtain ⟨n1,k1,rfl⟩:=hf)
 have HS:=aa (Sl.own kOb a);have ac:=c1.size;clear a;go_loopw [5,11] (fun vo vi wr=>∃k:Nat,k≤l.length∧vi=.int .i64 k∧wr.ownsRow w1.heap.size 71 6 vo ((l.take k).filterMap (openF p)).length (flat eOb ((l.take k).filterMap (openF p)))∧Bw w1 wr) (fun _ vi _=>l.length - (intOf vi).toNat)
 case atStart=>exact ⟨0,Af _,rfl,⟨by simp [flat],Or.inl ⟨rfl,rfl⟩⟩,zZ _ _⟩
 case round=>
  obtain ⟨k,hk,rfl,a,d⟩:=hrel;have J:=aa a;obtain ⟨no,ko,rfl⟩:=ag a;clear a;by_cases hlt:k<l.length
  ·obtain ⟨W,y,z,_,ab,I,A⟩:=HS.o;obtain ⟨e1,e2⟩:n1=W∧k1=y:=by simpa using z
   subst e1 e2;obtain ⟨b,m,rfl,j,E⟩:=A (by omega);obtain ⟨q0,q1,q2,q3,q4,q5⟩:=g8 (E k hlt);have r0:=(d.c (p:=⟨b,m+k * 6,none⟩) j).trans q0;have r1:=(d.c (p:=⟨b,m+k * 6+1,none⟩) j).trans q1;have r2:=(d.c (p:=⟨b,m+k * 6+2,none⟩) j).trans q2;have r3:=(d.c (p:=⟨b,m+k * 6+3,none⟩) j).trans q3;have r4:=(d.c (p:=⟨b,m+k * 6+4,none⟩) j).trans q4;have r5:=(d.c (p:=⟨b,m+k * 6+5,none⟩) j).trans q5;have P:(0:Int)≤(k:Int):=by omega
   have U:(k:Int)<(l.length:Int):=by omega
   unfold maxLen at I;have i:=aa (bC (openF p) l k hlt);have T:((l.take k).filterMap (openF p)).length≤k:=z5 (Ak _ _) (by rw [Aa];omega);clear E q0 q1 q2 q3 q4 q5 A z;generalize (l.take k).filterMap (openF p)=L at *;generalize l[k]=x at *;have D:=d.alloc d.size (.cells (cOb x) 71);have O:=aa (Blk.new wr 71 (cOb x));have t:=aa (J.o.alloc (.cells (cOb x) 71));by_cases hst:x.stt=1
   rotate_left
   ·have Q:=beq_eq_false_iff_ne.2 hst;have v:=aa hst;clear hst;have C:Hid ((l.take (k+1)).filterMap (openF p)=L):=aa (by rw [i.o,show openF p x=none from (by unfold openF;rw [if_neg (fun h=>v.o h.1)])];simp);clear i;go_wp2_with (fail)
    go_roundw
    case rel=>exact ⟨k+1,by omega,by go_num,by rw [C.o];exact t.o,D⟩
    case measure=>simp [intOf];omega
   have Q:=beq_iff_eq.2 hst;have v:=aa hst;clear hst;cases hpx:p x
   ·have n:=aa hpx;clear hpx;have C:Hid ((l.take (k+1)).filterMap (openF p)=L):=aa (by rw [i.o,show openF p x=none from (by unfold openF;rw [if_neg (fun h=>by rw [n.o] at h;cases h.2)])];simp);clear i;go_wp2_with ((go_at_fn g;refine (N.o _ x).mono ?_;rintro e M ⟨rfl,u⟩;rw [n.o];have s:=D.trans (u.mono D.size);have r:=aa (ah t.o u);have f:=O.o.keep u;have y0:=f.c 0;have R:=f.c 1;have y2:=f.c 2;have S:=f.c 3;have y4:=f.c 4;have Y:=f.c 5;clear f))
    go_roundw
    case rel=>exact ⟨k+1,by omega,by go_num,by rw [C.o];exact r.o,s⟩
    case measure=>simp [intOf];omega
   ·have n:=aa hpx;clear hpx;have C:Hid (L++[x]=(l.take (k+1)).filterMap (openF p)):=aa (by rw [i.o,show openF p x=some x from (by unfold openF;rw [if_pos ⟨v.o,n.o⟩])];rfl);clear i;go_wp2_with (first | (go_at_fn g;refine (N.o _ x).mono ?_;rintro e M ⟨rfl,u⟩;rw [n.o];have s:=D.trans (u.mono D.size);have r:=aa (ah t.o u);have f:=O.o.keep u;have y0:=f.c 0;have R:=f.c 1;have y2:=f.c 2;have S:=f.c 3;have y4:=f.c 4;have Y:=f.c 5;clear f) | (at_builtin;refine aq kOb (by decide) jU _ rfl _ _ 64 rfl w1.heap.size 71 Z (.agg #[.int .i64 0,.int .i64 0,.int .i64 0,.int .i64 0,.int .i64 0,.int .i64 0]) 48 Tryz.underlying64 hi F G H (by rfl) (.slice no L.length ko) L rfl (r.o.alloc _) (some ⟨M.heap.size,0,none⟩) 1 [x] rfl (Sl.one1 eOb kOb _ 71 _ (by rfl)) (by show L.length+1≤maxLen;unfold maxLen;omega) (by show (L.length+1) * 48≤_;omega) (s.alloc s.size (.cells #[.int .i64 x.cycle,.int .i64 x.mem,.int .i64 x.ass,.int .i64 x.net,.int .i64 x.done,.int .i64 x.stt] 71)).size ?_;intro v' w2 a hgrow hat;have b4:=(s.alloc s.size (.cells #[.int .i64 x.cycle,.int .i64 x.mem,.int .i64 x.ass,.int .i64 x.net,.int .i64 x.done,.int .i64 x.stt] 71)).grown hgrow (s.alloc s.size _).size (fun q hq=>(r.o.lt q hq).1);rw [C.o] at a;obtain ⟨n2,k2,rfl⟩:=ag a;clear hgrow hat))
    go_roundw
    case rel=>exact ⟨k+1,by omega,by go_num,a,b4⟩
    case measure=>simp [intOf];omega
  ·obtain rfl:k=l.length:=by omega
   have V:¬ ((l.length:Int)<(l.length:Int)):=by omega
   have K:l.take l.length=l:=Ae (zY _);rw [K] at J;go_wp2_with fail;go_ret;exact ⟨_,rfl,aw J.o c1.size,c1.trans (d.mono c1.size)⟩
theorem eg276:∀args w,(callFunc 276 args).run Tryz.prog w=.ok (.enter 276 args) w:=enters_of Tryz.func276 (by kernel_rfl) rfl
theorem eg348:∀args w,(callFunc 348 args).run Tryz.prog w=.ok (.enter 348 args) w:=enters_of Tryz.func348 (by kernel_rfl) rfl
theorem mz:PredOb 276 (fun x=>decide (x.net<0)):=by
 intro w x;obtain ⟨xc,xm,xa,xn,xd,xs⟩:=x;have a:Bw w (w.alloc (.cells #[.int .i64 xc,.int .i64 xm,.int .i64 xa,.int .i64 xn,.int .i64 xd,.int .i64 xs] 71)):=Bn;go_enter Tryz.func276,Tryz.ntmps276;go_wp2;go_ret;exact ⟨rfl,a⟩
theorem pB:PredOb 348 (fun x=>decide (0<x.net)):=by
 intro w x;obtain ⟨xc,xm,xa,xn,xd,xs⟩:=x;have a:Bw w (w.alloc (.cells #[.int .i64 xc,.int .i64 xm,.int .i64 xa,.int .i64 xn,.int .i64 xd,.int .i64 xs] 71)):=Bn;go_enter Tryz.func348,Tryz.ntmps348;go_wp2;go_ret;exact ⟨rfl,a⟩
def claimF (x:Ob):Option Ob:=openF (fun x=>decide (x.net<0)) x
def debtF (x:Ob):Option Ob:=openF (fun x=>decide (0<x.net)) x
theorem mA (B gs:Nat)(vo:Value)(l:List Ob)(w:World)(hs:ShA w B gs vo l)(hn:l.length≤100000):Calls Tryz.prog 218 #[ptr gs] w (RPo eOb 71 6 (l.filterMap claimF) w):=by
 have H:=aa (iL B gs vo l 276 eg276 _ mz w hs hn);clear hs;go_enter Tryz.func218,Tryz.ntmps218;go_wp2_with (go_at_call 275;refine H.o.mono ?_;rintro e f ⟨v,rfl,b,d⟩)
 obtain ⟨a,c,rfl⟩:=ag b;go_ret;exact ⟨_,rfl,b,d⟩
theorem pC (B gs:Nat)(vo:Value)(l:List Ob)(w:World)(hs:ShA w B gs vo l)(hn:l.length≤100000):Calls Tryz.prog 311 #[ptr gs] w (RPo eOb 71 6 (l.filterMap debtF) w):=by
 have H:=aa (iL B gs vo l 348 eg348 _ pB w hs hn);clear hs;go_enter Tryz.func311,Tryz.ntmps311;go_wp2_with (go_at_call 275;refine H.o.mono ?_;rintro e f ⟨v,rfl,b,d⟩)
 obtain ⟨a,c,rfl⟩:=ag b;go_ret;exact ⟨_,rfl,b,d⟩
def countS (l:List Ob)(s:Int):Int:=(l.countP fun x=>decide (x.stt=s):Nat)
theorem mB (l:List Ob)(s:Int)(k:Nat)(h:k<l.length):countS (l.take (k+1)) s=countS (l.take k) s+if l[k].stt=s then 1 else 0:=by
 unfold countS;rw [z9 h,List.countP_append];by_cases hq:l[k].stt=s <;> simp [hq]
theorem kp (l:List Ob)(s:Int)(k:Nat):0≤countS (l.take k) s∧countS (l.take k) s≤k:=by
 unfold countS;have a:(l.take k).countP (fun x=>decide (x.stt=s))≤(l.take k).length:=List.countP_le_length;have b:(l.take k).length≤k:=by rw [Aa];omega
 omega
theorem dU (B gs:Nat)(vo:Value)(l:List Ob)(s:Int)(w:World)(hs:ShA w B gs vo l)(hn:l.length≤100000):Calls Tryz.prog 303 #[ptr gs,.int .i64 s] w fun e w'=>e=.returned (.int .i64 (countS l s))∧Bw w w':=by
 have H:=aa (cC B gs vo l w hs hn);clear hs;go_enter Tryz.func303,Tryz.ntmps303;go_wp2_with (go_at_call 85;refine H.o.mono ?_;rintro e A ⟨S,rfl,g,u⟩;have I:=ag g;obtain ⟨n1,k1,rfl⟩:=I)
 have K:=aa (Sl.own kOb g);clear g;go_loopw [5,11] (fun vc vi wr=>∃k:Nat,k≤l.length∧vi=.int .i64 k∧vc=.int .i64 (countS (l.take k) s)∧Bw A wr) (fun _ vi _=>l.length - (intOf vi).toNat)
 case atStart=>exact ⟨0,Af _,rfl,rfl,zZ _ _⟩
 case round=>
  obtain ⟨k,Q,rfl,rfl,a⟩:=hrel;by_cases hlt:k<l.length
  ·obtain ⟨E,i,j,_,J,q,m⟩:=K.o;obtain ⟨e1,e2⟩:n1=E∧k1=i:=by simpa using j
   subst e1 e2;obtain ⟨b,f,rfl,d,n⟩:=m (by omega);obtain ⟨q0,q1,q2,q3,q4,q5⟩:=g8 (n k hlt);have R:=(a.c (p:=⟨b,f+k * 6,none⟩) d).trans q0;have O:=(a.c (p:=⟨b,f+k * 6+1,none⟩) d).trans q1;have U:=(a.c (p:=⟨b,f+k * 6+2,none⟩) d).trans q2;have M:=(a.c (p:=⟨b,f+k * 6+3,none⟩) d).trans q3;have P:=(a.c (p:=⟨b,f+k * 6+4,none⟩) d).trans q4;have T:=(a.c (p:=⟨b,f+k * 6+5,none⟩) d).trans q5;have z:(0:Int)≤(k:Int):=by omega
   have F:(k:Int)<(l.length:Int):=by omega
   unfold maxLen at q;have h:=aa (mB l s k hlt);have D:=kp l s k;clear n q0 q1 q2 q3 q4 q5 m j;generalize countS (l.take k) s=N at *;generalize l[k]=x at *;have v:=a.alloc a.size (.cells (cOb x) 71);have L:IntKind.i64.wrap (N+1)=N+1:=Ax _ (by omega);have y:wrap64 (N+1)=N+1:=by unfold wrap64;omega
   by_cases hst:x.stt=s
   ·have C:=beq_iff_eq.2 hst;have r:Hid (countS (l.take (k+1)) s=N+1):=aa (by rw [h.o,if_pos hst]);clear hst h;go_wp2_with fail;go_roundw
    case rel=>exact ⟨k+1,by omega,by go_num,by rw [r.o],v⟩
    case measure=>simp [intOf];omega
   ·have C:=beq_eq_false_iff_ne.2 hst;have r:Hid (countS (l.take (k+1)) s=N):=aa (by rw [h.o,if_neg hst,Int.add_zero]);clear hst h;go_wp2_with fail;go_roundw
    case rel=>exact ⟨k+1,by omega,by go_num,by rw [r.o],v⟩
    case measure=>simp [intOf];omega
  ·obtain rfl:k=l.length:=by omega
   have G:¬ ((l.length:Int)<(l.length:Int)):=by omega
   have t:l.take l.length=l:=Ae (zY _);rw [t];go_wp2_with fail;go_ret;exact ⟨rfl,u.trans (a.mono u.size)⟩
theorem sE (B gs:Nat)(vo:Value)(l:List Ob)(m a:Int)(w:World)(hs:ShA w B gs vo l)(hn:l.length≤100000) :
  Calls Tryz.prog 194 #[ptr gs,.int .i64 m,.int .i64 a] w fun e w'=>∃x y:Int,e=.returned (.tuple #[.int .i64 x,.int .i64 y])∧(y=0∨y=8)∧(y=0↔0≤fnd (openM m a) l)∧(0≤fnd (openM m a) l→x=wrap64 (sizeM (obAt l (fnd (openM m a) l)) - (obAt l (fnd (openM m a) l)).done))∧Bw w w':=by
 have C:=aa hs;have A:=aa (fZ B gs vo l m a w hs);have N:=ag hs.own;obtain ⟨V,D,rfl⟩:=N;rcases cz (openM m a) l with ⟨h1,_⟩ | ⟨i,hi,h1,_,_⟩
 ·have f:=aa h1;clear hs h1;go_enter Tryz.func194,Tryz.ntmps194;go_wp2_with (go_at_call 241;refine A.o.mono ?_;rintro e z ⟨rfl,j⟩;rw [f.o])
  go_ret2;exact ⟨0,8,rfl,Or.inr rfl,by rw [f.o];decide,by rw [f.o];intro h;exact absurd h (by decide),j⟩
 ·have f:=aa h1;obtain ⟨b,rfl,Q,n,v,q,K⟩:=hs.at i hi;have k:=aa n;have U:Hid (obAt l (i:Int)=l[i]):=aa (fF l i hi);have E:(0:Int)≤(i:Int):=by omega
  have H:(i:Int)<(l.length:Int):=by omega
  have R:decide ((i:Int)<0)=false:=dF (by omega);unfold maxLen at q;clear hs h1 n v;generalize l[i]=x at *;obtain ⟨p,g⟩:∃p,sizeM x=p:=⟨_,rfl⟩;have u:=aa g;have s:=aa (ox x g);clear g;go_enter Tryz.func194,Tryz.ntmps194;go_wp2_with (go_at_call 241;refine A.o.mono ?_;rintro e z ⟨rfl,j⟩;rw [f.o];have P:=(C.o.keep j).blk.c 0;have G:=k.o z j)
  obtain ⟨F,I,T,J,O,L⟩:=G;go_region_held3 (fun W=>W.cell? ⟨gs,0,none⟩=some (.slice (some ⟨b,0,none⟩) l.length D)∧W.cell? ⟨b,i * 6,none⟩=some (.int .i64 x.cycle)∧W.cell? ⟨b,i * 6+1,none⟩=some (.int .i64 x.mem)∧W.cell? ⟨b,i * 6+2,none⟩=some (.int .i64 x.ass)∧W.cell? ⟨b,i * 6+3,none⟩=some (.int .i64 x.net)∧W.cell? ⟨b,i * 6+4,none⟩=some (.int .i64 x.done)∧W.cell? ⟨b,i * 6+5,none⟩=some (.int .i64 x.stt)) (first | exact ⟨P,F,I,T,J,O,L⟩ | exact ⟨r,t⟩ | assumption | go_keep)
   (first | (go_at_call 242;refine (s.o _).mono ?_;rintro e S ⟨rfl,M⟩;have d:=aB j M j.size;have r:=(C.o.keep d).blk.c 0;have t:=k.o S d))
  go_wp2_with fail;go_ret2;refine ⟨IntKind.i64.wrap (p - x.done),0,rfl,Or.inl rfl,by rw [f.o];simp,fun _=>?_,d⟩;rw [f.o,U.o,u.o,IntKind.wrap_i64];simp only [wrap64]
theorem sF:∀w,(isAgg 120).run Tryz.prog w=.ok true w:=fun w=>by kernel_rfl
theorem eg305:∀args w,(callFunc 305 args).run Tryz.prog w=.ok (.enter 305 args) w:=enters_of Tryz.func305 (by kernel_rfl) rfl
theorem eg346:∀args w,(callFunc 346 args).run Tryz.prog w=.ok (.enter 346 args) w:=enters_of Tryz.func346 (by kernel_rfl) rfl
theorem wQ (a:Option Addr)(c:Nat)(fv:Value)(w:World):Calls Tryz.prog 367 #[.slice a 0 c,fv] w fun e w'=>e=.returned (.int .i64 (-1))∧w'=w:=by
 go_enter Tryz.func367,Tryz.ntmps367;go_wp2;go_loopw [8] (fun vi wr=>vi=.int .i64 0∧wr=w) (fun _ _=>0)
 case atStart=>exact ⟨rfl,rfl⟩
 case round=>
  obtain ⟨rfl,rfl⟩:=hrel;go_wp2;go_ret;exact ⟨rfl,rfl⟩
theorem wR (a:Option Addr)(c:Nat)(fv:Value)(w:World):Calls Tryz.prog 304 #[.slice a 0 c,fv] w fun e w'=>e=.returned (.bool false)∧w'=w:=by
 go_enter Tryz.func304,Tryz.ntmps304;go_wp2_with (go_at_call 290;refine (ou a c fv _).mono ?_;rintro e b ⟨rfl,rfl⟩)
 go_ret;exact ⟨rfl,rfl⟩
theorem wS (a:Option Addr)(c:Nat)(fv:Value)(w:World):Calls Tryz.prog 345 #[.slice a 0 c,fv] w fun e w'=>e=.returned (.bool false)∧w'=w:=by
 go_enter Tryz.func345,Tryz.ntmps345;go_wp2_with (go_at_call 367;refine (wQ a c fv _).mono ?_;rintro e b ⟨rfl,rfl⟩)
 go_ret;exact ⟨rfl,rfl⟩
theorem wT (p:Ob→Bool)(g:Nat)(lb:Array Value)(eg:∀args w,(callFunc g args).run Tryz.prog w=.ok (.enter g args) w)(v:Value)(l:List Ob)(w:World)(hv:Sl eOb 6 w v l)(hp:Go.Proofs.PredBelow Tryz.prog g lb (fun x=>.agg (eOb x).toArray) p w) :
  Calls Tryz.prog 304 #[v,.func (.func g) #[] lb] w fun e w'=>e=.returned (.bool (l.any p))∧Bw w w':=by
 obtain ⟨a,cap,rfl,m,k,f,j⟩:=hv;unfold maxLen at f;by_cases hl:l.length=0
 ·obtain rfl:=Ar hl;exact (wR a cap _ w).mono fun e w' ⟨he,hw⟩=>⟨by rw [he];rfl,by rw [hw];exact zZ _ _⟩
 ·obtain ⟨b,c,rfl,i,d⟩:=j (by omega);have h:=Go.Proofs.AnyQ.slices_ContainsFunc Tryz.l304 6 ov iK eOb kOb p g lb eg b c l.length cap l w hp (zY _) (by omega) i (Sl.bang (n:=0) (cap:=0) d);rw [Ap] at h;exact h
theorem wU (p:Lg→Bool)(g:Nat)(lb:Array Value)(eg:∀args w,(callFunc g args).run Tryz.prog w=.ok (.enter g args) w)(v:Value)(l:List Lg)(w:World)(hv:Sl eLg 3 w v l)(hp:Go.Proofs.PredBelow Tryz.prog g lb (fun x=>.agg (eLg x).toArray) p w) :
  Calls Tryz.prog 345 #[v,.func (.func g) #[] lb] w fun e w'=>e=.returned (.bool (l.any p))∧Bw w w':=by
 obtain ⟨a,cap,rfl,m,k,f,j⟩:=hv;unfold maxLen at f;by_cases hl:l.length=0
 ·obtain rfl:=Ar hl;exact (wS a cap _ w).mono fun e w' ⟨he,hw⟩=>⟨by rw [he];rfl,by rw [hw];exact zZ _ _⟩
 ·obtain ⟨b,c,rfl,i,d⟩:=j (by omega);have h:=Go.Proofs.AnyQ.slices_ContainsFunc Tryz.l345 3 sF Tryz.sizeOf120 eLg kLg p g lb eg b c l.length cap l w hp (zY _) (by omega) i (Sl.bang (n:=0) (cap:=0) d);rw [Ap] at h;exact h
theorem pD (g1:Nat)(c:Int)(x:Ob)(w:World)(h1:Blk w g1 3 #[.int .i64 c]):Calls Tryz.prog 305 #[.agg (eOb x).toArray,ptr g1] w fun e w'=>e=.returned (.bool (decide (c≤x.cycle)))∧Bw w w':=by
 obtain ⟨i,d,a,b,g,f⟩:=x;have h:Bw w (w.alloc (.cells #[.int .i64 i,.int .i64 d,.int .i64 a,.int .i64 b,.int .i64 g,.int .i64 f] 71)):=Bn;have j:=(h1.keep h).c 0;clear h1;show Calls Tryz.prog 305 #[.agg #[.int .i64 i,.int .i64 d,.int .i64 a,.int .i64 b,.int .i64 g,.int .i64 f],ptr g1] w _
 go_enter Tryz.func305,Tryz.ntmps305;go_wp2;go_ret;exact ⟨rfl,h⟩
def sameSide (x y:Lg):Bool:=decide (y.mem=x.mem)&&decide (y.ass=x.ass)
theorem mC (g1:Nat)(x y:Lg)(w:World)(h1:Blk w g1 120 #[.int .i64 x.mem,.int .i64 x.ass,.int .i64 x.amt]):Calls Tryz.prog 346 #[.agg (eLg y).toArray,ptr g1] w fun e w'=>e=.returned (.bool (sameSide x y))∧Bw w w':=by
 obtain ⟨b,a,h⟩:=y;have d:Bw w (w.alloc (.cells #[.int .i64 b,.int .i64 a,.int .i64 h] 120)):=Bn;have l:=(h1.keep d).c 0;have k:=(h1.keep d).c 1;have m:=(h1.keep d).c 2;have g:Hid (sameSide x ⟨b,a,h⟩=(decide (b=x.mem)&&decide (a=x.ass))):=aa rfl;clear h1;show Calls Tryz.prog 346 #[.agg #[.int .i64 b,.int .i64 a,.int .i64 h],ptr g1] w _
 by_cases e1:b=x.mem
 ·have j:=beq_iff_eq.2 e1;by_cases e2:a=x.ass
  ·have i:=beq_iff_eq.2 e2;have f:Hid ((decide (b=x.mem)&&decide (a=x.ass))=true):=aa (by simp [e1,e2]);clear e1 e2;go_enter Tryz.func346,Tryz.ntmps346;go_wp2;go_ret;exact ⟨by rw [g.o,f.o];rfl,d⟩
  ·have i:=beq_eq_false_iff_ne.2 e2;have f:Hid ((decide (b=x.mem)&&decide (a=x.ass))=false):=aa (by simp [e2]);clear e1 e2;go_enter Tryz.func346,Tryz.ntmps346;go_wp2;go_ret;exact ⟨by rw [g.o,f.o];rfl,d⟩
 ·have j:=beq_eq_false_iff_ne.2 e1;have f:Hid ((decide (b=x.mem)&&decide (a=x.ass))=false):=aa (by simp [e1]);clear e1;go_enter Tryz.func346,Tryz.ntmps346;go_wp2;go_ret;exact ⟨by rw [g.o,f.o];rfl,d⟩
def twiceM (nets:List Lg)(i:Nat)(x:Lg):Bool:=decide (x.amt=0)||decide (x.amt=-9223372036854775808)||(nets.take i).any (sameSide x)
theorem Sl.take {α:Type}{enc:α→List Value}{k:Nat}{w:World}{a:Option Addr}{n cap:Nat}{l:List α}(h:Sl enc k w (.slice a n cap) l)(i:Nat)(hi:i≤l.length):Sl enc k w (.slice a i cap) (l.take i):=by
 obtain ⟨p,c,m,s,v,o,u⟩:=h;obtain ⟨rfl,rfl,rfl⟩:a=p∧n=l.length∧cap=c:=by simpa using m
 have d:(l.take i).length=i:=by rw [Aa];omega
 refine ⟨a,cap,by rw [d],s,by rw [d];omega,o,fun h=>?_⟩;rw [d] at h;obtain ⟨b,f,r,t,g⟩:=u (by omega);refine ⟨b,f,r,t,fun j hj q x hx=>?_⟩;rw [d] at hj;rw [List.getElem_take] at hx;exact g j (by omega) q x hx
theorem pE (v:Value)(nets:List Lg)(i:Nat)(hi:i<nets.length)(w:World)(hv:Sl eLg 3 w v nets)(h64:∀x∈nets,In64 x.amt)(hn:nets.length≤100000) :
  Calls Tryz.prog 306 #[v,.int .i64 i] w fun e w'=>e=.returned (.bool (twiceM nets i nets[i]))∧Bw w w':=by
 have E:=aa hv;have c:=h64 nets[i] (Ag hi);obtain ⟨a,f,rfl,u,I,s,p⟩:=hv;obtain ⟨b,off,rfl,hbb,hcl⟩:=p (by omega);have g:=hcl i hi;have h:Hid (twiceM nets i nets[i]=(decide (nets[i].amt=0)||decide (nets[i].amt=-9223372036854775808)||(nets.take i).any (sameSide nets[i]))):=aa rfl;generalize nets[i]=x at *;obtain ⟨xm,xa,xn⟩:=x;obtain ⟨q0,q1,q2⟩:=ch g;have k:Bw w (w.alloc (.cells (cLg ⟨xm,xa,xn⟩) 120)):=Bn;have H:=aa (Blk.new w 120 (cLg ⟨xm,xa,xn⟩));have r:(0:Int)≤(i:Int):=by omega
 have C:(i:Int)<(nets.length:Int):=by omega
 have B:(i:Int)≤(nets.length:Int):=by omega
 have F:(i:Int)≤(f:Int):=by omega
 have A:i≤f:=by omega
 have t:¬ f=i:=by omega
 unfold maxLen at s;have G:=aa (wU (sameSide ⟨xm,xa,xn⟩) 346 #[ptr w.heap.size] eg346 (.slice (some ⟨b,off,none⟩) i f) (nets.take i) _ ((E.o.keep k).take i (by omega)) (fun W y j=>(mC w.heap.size ⟨xm,xa,xn⟩ y W (H.o.keep j)).mono fun e w' ⟨he,hw⟩=>⟨he,j.trans (hw.mono j.size)⟩));dsimp only at c h;obtain ⟨z,m⟩:∃z,(nets.take i).any (sameSide ⟨xm,xa,xn⟩)=z:=⟨_,rfl⟩;have D:=aa m;rw [m] at h;clear p hcl g u m;by_cases e0:xn=0
 ·have j:=beq_iff_eq.2 e0;have d:Hid (twiceM nets i ⟨xm,xa,xn⟩=true):=aa (by rw [h.o];simp [e0]);clear e0 h;go_enter Tryz.func306,Tryz.ntmps306;go_wp2_with (go_at_call 312;refine (bW xn c _).mono ?_;rintro e n ⟨rfl,rfl⟩)
  go_ret;exact ⟨by rw [d.o];rfl,k⟩
 ·have j:=beq_eq_false_iff_ne.2 e0;by_cases e1:xn=-9223372036854775808
  ·have l:Hid (fitM (-xn)=(0,2)):=aa (by unfold fitM;rw [if_neg (by unfold In64;omega)]);have d:Hid (twiceM nets i ⟨xm,xa,xn⟩=true):=aa (by rw [h.o];simp [e1]);clear e0 e1 h;go_enter Tryz.func306,Tryz.ntmps306;go_wp2_with (go_at_call 312;refine (bW xn c _).mono ?_;rintro e n ⟨rfl,rfl⟩;rw [l.o])
   go_ret;exact ⟨by rw [d.o];rfl,k⟩
  ·have l:Hid (fitM (-xn)=(-xn,0)):=aa (by unfold fitM;rw [if_pos (by unfold In64 at *;omega)]);have d:Hid (twiceM nets i ⟨xm,xa,xn⟩=z):=aa (by rw [h.o];simp [e0,e1]);clear e0 e1 h;go_enter Tryz.func306,Tryz.ntmps306;go_wp2_with (first
    | (go_at_call 312;refine (bW xn c _).mono ?_;rintro e n ⟨rfl,rfl⟩;rw [l.o])
    | (go_at_call 345;refine G.o.mono ?_;rintro e J ⟨rfl,q⟩;rw [D.o]))
   go_ret;exact ⟨by rw [d.o];rfl,k.trans (q.mono k.size)⟩
theorem Goes.trans2 {w X:World}{v v1 v2:Value}(h:Goes w v v1)(h2:Goes X v1 v2)(hs:w.heap.size≤X.heap.size:=by first | assumption | omega):Goes w v v2:=by
 rcases h2 with h2 | ⟨k,hk,h2⟩
 ·rcases h with h | ⟨k,hk,h⟩
  ·exact Or.inl (h2.trans h)
  ·exact Or.inr ⟨k,hk,h2.trans h⟩
 ·exact Or.inr ⟨k,z5 hs hk,h2⟩
def obOf (cycle:Int)(x:Lg):Ob:=⟨cycle,x.mem,x.ass,x.amt,0,1⟩
def twiceAny (nets:List Lg):Bool:=(List.range nets.length).any fun i=>twiceM nets i (nets.getD i default)
def sopenM (l:List Ob)(cycle:Int)(nets:List Lg):Int×List Ob:=
 if 1024 - (l.length:Int)<nets.length then (6,l)
 else if 0<countS l 1 then (17,l)
 else if l.any (fun x=>decide (cycle≤x.cycle))=true then (7,l)
 else if twiceAny nets=true then (1,l)
 else (0,l++nets.map (obOf cycle))
def SGPost (B gs:Nat)(K:List Nat)(vo:Value)(r:Int×List Ob)(w:World)(e:Ending)(w':World):Prop:=
 ∃vo',e=.returned (.int .i64 r.1)∧ShA w' B gs vo' r.2∧ModT B [186,71] K w w'∧Goes w vo vo'
theorem SGPost.same {B gs:Nat}{vo:Value}{K:List Nat}{n:Int}{l:List Ob}{w w':World}(h:ShA w B gs vo l)(c:Bw w w'):SGPost B gs K vo (n,l) w (.returned (.int .i64 n)) w':=⟨vo,rfl,h.keep c,ModT.below c,Or.inl rfl⟩
theorem sG (l:List Ob)(s:Int):0≤countS l s∧countS l s≤l.length:=by
 have:=kp l s l.length
 rwa [Ap] at this
theorem mD (B gs:Nat)(vo v:Value)(l:List Ob)(cycle:Int)(nets:List Lg)(K:List Nat)(w:World)(hs:ShA w B gs vo l)(hn:l.length≤1024)(B2:Nat)(hv:w.ownsRow B2 120 3 v nets.length (flat eLg nets))(hnn:nets.length≤100000)(h64:∀x∈nets,In64 x.amt)(hBw:B≤w.heap.size)(hKw:∀k∈K,k<w.heap.size)(hKg:gs∉K)(hKv:∀k,vo.ownBlock=some k→k∉K) :
  Calls Tryz.prog 249 #[ptr gs,.int .i64 cycle,v] w (SGPost B gs K vo (sopenM l cycle nets) w):=by
 have I:Bw w (w.alloc (.cells #[.int .i64 cycle] 3)):=Bn;have A:=aa hs;have HS:=aa (hs.keep I);have HV:=aa (ah hv I);have ak:=aa (Blk.new w 3 #[.int .i64 cycle]);have aY:=aa hKv;have aU:=aa h64;have p0:=HS.o.blk.c 0;have hf:=ag hs.own;obtain ⟨no,ko,rfl⟩:=hf;obtain ⟨a,cap,rfl⟩:=ag hv;have aX:=sG l 1;obtain ⟨cn,hcn⟩:∃cn,countS l 1=cn:=⟨_,rfl⟩;obtain ⟨an,han⟩:∃an,(l.any fun x=>decide (cycle≤x.cycle))=an:=⟨_,rfl⟩;have Z:Hid (sopenM l cycle nets=if 1024 - (l.length:Int)<nets.length then (6,l) else if 0<cn then (17,l) else if an=true then (7,l) else if twiceAny nets=true then (1,l) else (0,l++nets.map (obOf cycle))):=aa (by unfold sopenM;rw [hcn,han]);rw [hcn] at aX;have am:=aa hcn;have aZ:=aa han;clear hs hKv h64 hcn han;by_cases hbig:1024 - (l.length:Int)<nets.length
 ·have hd:=dT hbig;have G:Hid (sopenM l cycle nets=(6,l)):=aa (by rw [Z.o,if_pos hbig]);clear Z hbig;go_enter Tryz.func249,Tryz.ntmps249;go_wp2_with fail;go_ret;rw [G.o];exact SGPost.same A.o I
 have hd:=dF hbig;by_cases hop:0<cn
 ·have aq:=dT hop;have G:Hid (sopenM l cycle nets=(17,l)):=aa (by rw [Z.o,if_neg hbig,if_pos hop]);clear Z hbig hop;go_enter Tryz.func249,Tryz.ntmps249;go_wp2_with (go_at_call 303;refine (dU B gs _ l 1 _ HS.o (by omega)).mono ?_;rintro e U ⟨rfl,u⟩;rw [am.o])
  go_ret;rw [G.o];exact SGPost.same A.o (I.trans (u.mono I.size))
 have aq:=dF hop;have ap:Hid (∀U,Below (w.alloc (.cells #[.int .i64 cycle] 3)).heap.size (w.alloc (.cells #[.int .i64 cycle] 3)) U→Calls Tryz.prog 304 #[.slice no l.length ko,.func (.func 305) #[] #[ptr w.heap.size]] U fun e w'=>e=.returned (.bool an)∧Bw U w'):=aa (fun U u=>by
  have:=wT (fun x=>decide (cycle≤x.cycle)) 305 #[ptr w.heap.size] eg305 (.slice no l.length ko) l U (Sl.own kOb (HS.o.keep u).own) (fun W y hb=>(pD w.heap.size cycle y W ((ak.o.keep u).keep hb)).mono fun e w' ⟨he,hw⟩=>⟨he,hb.trans (hw.mono hb.size)⟩)
  rw [aZ.o] at this;exact this)
 cases an with
 | true=>
  have G:Hid (sopenM l cycle nets=(7,l)):=aa (by rw [Z.o,if_neg hbig,if_neg hop,if_pos rfl]);clear Z hbig hop;go_enter Tryz.func249,Tryz.ntmps249;go_wp2_with (first
   | (go_at_call 303;refine (dU B gs _ l 1 _ HS.o (by omega)).mono ?_;rintro e U ⟨rfl,u⟩;rw [am.o];have p1:=(HS.o.keep u).blk.c 0)
   | (go_at_call 304;refine (ap.o _ u).mono ?_;rintro e w2 ⟨rfl,c2⟩))
  go_ret;rw [G.o];exact SGPost.same A.o (I.trans ((u.trans (c2.mono u.size)).mono I.size))
 | false=>
  have af:Hid (sopenM l cycle nets=if twiceAny nets=true then (1,l) else (0,l++nets.map (obOf cycle))):=aa (by rw [Z.o,if_neg hbig,if_neg hop,if_neg (by decide)]);clear Z hop;go_enter Tryz.func249,Tryz.ntmps249;go_wp2_with (first
   | (go_at_call 303;refine (dU B gs _ l 1 _ HS.o (by omega)).mono ?_;rintro e U ⟨rfl,u⟩;rw [am.o];have p1:=(HS.o.keep u).blk.c 0)
   | (go_at_call 304;refine (ap.o _ u).mono ?_;rintro e w2 ⟨rfl,c2⟩;have J:=I.trans ((u.trans (c2.mono u.size)).mono I.size);have aV:=aa (A.o.keep J);have aj:=aa (ah (ah HV.o u) c2);have aH:=aa ((ak.o.keep u).keep c2)))
  clear p0 p1 HS HV ak ap u c2 I hd aq;have ac:=J.size;go_loopw [36] (fun vi wr=>∃k:Nat,k≤nets.length∧vi=.int .i64 k∧Bw w2 wr∧∀j,j<k→twiceM nets j (nets.getD j default)=false) (fun vi _=>nets.length - (intOf vi).toNat)
  case atStart=>exact ⟨0,Af _,rfl,zZ _ _,fun j h=>by omega⟩
  case round=>
   obtain ⟨k,hk,rfl,n,ay⟩:=hrel;have al:=aa ay;clear ay;by_cases hlt:k<nets.length
   ·have aR:(0:Int)≤(k:Int):=by omega
    have aO:(k:Int)<(nets.length:Int):=by omega
    have HC:=aa (pE _ nets k hlt _ (Sl.own kLg (ah aj.o n)) aU.o hnn);have aK:Hid (nets.getD k default=nets[k]):=aa (by simp [hlt]);cases hz:twiceM nets k nets[k] with
    | true=>
     have HZ:=aa hz;have P:Hid (twiceAny nets=true):=aa (by
      unfold twiceAny;rw [At];exact ⟨k,List.mem_range.2 hlt,by rw [aK.o,hz]⟩)
     clear hz;go_wp2_with (go_at_call 306;refine HC.o.mono ?_;rintro e w4 ⟨rfl,c4⟩;rw [HZ.o])
     go_ret;rw [af.o,if_pos P.o];exact SGPost.same A.o (J.trans ((n.trans (c4.mono n.size)).mono ac))
    | false=>
     have HZ:=aa hz;clear hz;go_wp2_with (go_at_call 306;refine HC.o.mono ?_;rintro e w4 ⟨rfl,c4⟩;rw [HZ.o])
     go_roundw
     case rel=>exact ⟨k+1,by omega,by go_num,n.trans (c4.mono n.size),fun j hj=>by
      by_cases e:j=k
      ·subst e;rw [aK.o,HZ.o]
      ·exact al.o j (by omega)⟩
     case measure=>simp [intOf];omega
   ·obtain rfl:k=nets.length:=by omega
    have aW:¬ ((nets.length:Int)<(nets.length:Int)):=by omega
    have P:Hid (twiceAny nets=false):=aa (by
     unfold twiceAny;rw [Bj];intro j hj;rw [al.o j (List.mem_range.1 hj)];decide)
    have aQ:Hid (sopenM l cycle nets=(0,l++nets.map (obOf cycle))):=aa (by rw [af.o,if_neg (by rw [P.o];decide)]);have ao:=J.trans (n.mono ac);have a0:=aa (A.o.keep ao);have aM:=aa (ah aj.o n);have aN:=aa (aH.o.keep n);clear af P al aV aj aH;go_wp2_with fail;obtain ⟨V,rfl⟩:∃V,V=wr:=⟨_,rfl⟩;have aT:Hid (Goes w (.slice no l.length ko) (.slice no l.length ko)):=aa (Or.inl rfl);have a4:w.heap.size≤V.heap.size:=ao.size;have h0:ShA V B gs (.slice no l.length ko) (l++(nets.take 0).map (obOf cycle)):=by simpa using a0.o
    have a1:ModT B [186,71] K w V:=ModT.below ao;obtain ⟨i0,hi,aB,aF,av⟩:=info_parts jp;go_loopw [45] (fun vi wx=>∃(k:Nat) (vo':Value),k≤nets.length∧vi=.int .i64 k∧ShA wx B gs vo' (l++(nets.take k).map (obOf cycle))∧ModT B [186,71] K V wx∧Goes w (.slice no l.length ko) vo') (fun vi _=>nets.length - (intOf vi).toNat)
    case atStart=>exact ⟨0,_,Af _,rfl,h0,ModT.refl _ _ _ _,aT.o⟩
    case round=>
     obtain ⟨q,vq,hq,rfl,E,C,M⟩:=hrel;by_cases hlt2:q<nets.length
     ·have T:Hid (∀k,vq.ownBlock=some k→k∉K):=aa (fun k hk hm=>by
       rcases M with hg | ⟨k2,R,h3⟩
       ·exact aY.o k (by rw [←hg];exact hk) hm
       ·rw [hk] at h3;have:=hKw k hm
        simp at h3;omega)
      have aL:=aa (ai aM.o C (by decide));have aI:=aN.o.modT C (by decide);obtain ⟨a',aC,aD,_,a7,aP,aE⟩:=Sl.own kLg aL.o;obtain ⟨e1,e2⟩:a=a'∧cap=aC:=by simpa using aD
      subst e1 e2;obtain ⟨b,off,rfl,a5,aJ⟩:=aE (by omega);obtain ⟨r0,r1,r2⟩:=ch (aJ q hlt2);have aR:(0:Int)≤(q:Int):=by omega
      have aO:(q:Int)<(nets.length:Int):=by omega
      unfold maxLen at aP;have ar:Hid (l++(nets.take q).map (obOf cycle)++[obOf cycle nets[q]]=l++(nets.take (q+1)).map (obOf cycle)):=aa (by rw [z9 hlt2,AI,Au];rfl);have a6:(l++(nets.take q).map (obOf cycle)).length≤1024:=by simp;omega
      clear aJ aE aD;generalize nets[q]=x at *;generalize l++(nets.take q).map (obOf cycle)=L at *;obtain ⟨aw,au,rfl⟩:=ag E.own;have cX:Bw wr (wr.alloc (.cells (cLg x) 120)):=Bn;have z:=aa (Blk.new wr 120 (cLg x));have g:=aa (E.keep cX);have D:=aa (aI.keep cX);have ae:=aa (C.trans (ModT.below cX));have aA:=aa M;have a3:V.heap.size≤wr.heap.size:=C.size;have b0:=g.o.blk.c 0;have b1:=D.o.c 0;have b2:=z.o.c 0;have b3:=z.o.c 1;have b4:=z.o.c 2;clear E aI C M;go_wp2_with fail;have ad:w.heap.size≠gs:=fun e=>by
       have h1:=D.o;have R:=g.o.blk;rw [e] at h1;unfold Blk at h1 R;rw [h1] at R;simp at R
      have ab:wr.heap.size≠gs:=fun e=>by
       have h1:=z.o;have R:=g.o.blk;rw [e] at h1;unfold Blk at h1 R;rw [h1] at R;simp at R
      have aG:V.heap.size≤(wr.alloc (.cells (cLg x) 120)).heap.size:=z5 a3 cX.size;dsimp only [cLg] at z g D ae b0 b1 b2 b3 b4 aG;generalize hX:wr.alloc (.cells #[.int .i64 x.mem,.int .i64 x.ass,.int .i64 x.amt] 120)=X at *;obtain ⟨y,hy⟩:∃y,obOf cycle x=y:=⟨_,rfl⟩;have HY:=aa hy;obtain ⟨N,hN⟩:∃N,(L++[obOf cycle x]).length=N:=⟨_,rfl⟩;have az:=aa hN;have ax:=(g.o.blk.alloc (.cells #[.int .i64 cycle,.int .i64 x.mem,.int .i64 x.ass,.int .i64 x.amt,.int .i64 0,.int .i64 1] 71)).c 0;clear hN hy hX cX;have s:=And.intro b1 (And.intro b2 (And.intro b3 b4));refine wp_region_held_drew (S:=(fun W=>W.cell? ⟨w.heap.size,0,none⟩=some (.int .i64 cycle)∧W.cell? ⟨wr.heap.size,0,none⟩=some (.int .i64 x.mem)∧W.cell? ⟨wr.heap.size,1,none⟩=some (.int .i64 x.ass)∧W.cell? ⟨wr.heap.size,2,none⟩=some (.int .i64 x.amt))) (by kernel_rfl) (by exact s) (fun hHeld=>?_);refine wpAnyH_take (i:=0) (oi:=_) (v:=?_) rfl (by kernel_rfl) (by kernel_rfl) (by kernel_rfl) (fun _ _ _ h=>h) (Or.inl ⟨by rfl,?_⟩) (by assumption) ?_;rotate_left
      ·(intro w f;(try dsimp only at f);go_simp;try with_reducible rfl)
      simp only [Act.put,z4,z6,z7];refine wpAnyH_take (i:=1) (oi:=_) (v:=?_) rfl (by kernel_rfl) (by kernel_rfl) (by kernel_rfl) (fun _ _ _ h=>h) (Or.inl ⟨by rfl,?_⟩) (by assumption) ?_;rotate_left
      ·(intro w f;(try dsimp only at f);go_simp;try with_reducible rfl)
      simp only [Act.put,z4,z6,z7];refine wpAnyH_take (i:=2) (oi:=_) (v:=?_) rfl (by kernel_rfl) (by kernel_rfl) (by kernel_rfl) (fun _ _ _ h=>h) (Or.inl ⟨by rfl,?_⟩) (by assumption) ?_;rotate_left
      ·(intro w f;(try dsimp only at f);go_simp;try with_reducible rfl)
      simp only [Act.put,z4,z6,z7];refine wpAnyH_take (i:=3) (oi:=_) (v:=?_) rfl (by kernel_rfl) (by kernel_rfl) (by kernel_rfl) (fun _ _ _ h=>h) (Or.inl ⟨by rfl,?_⟩) (by assumption) ?_;rotate_left
      ·(intro w f;(try dsimp only at f);go_simp;try with_reducible rfl)
      simp only [Act.put,z4,z6,z7];refine wpAnyH_take (i:=5) (oi:=_) (v:=?_) rfl (by kernel_rfl) (by kernel_rfl) (by kernel_rfl) (fun _ _ _ h=>h) (Or.inl ⟨by rfl,?_⟩) (by assumption) ?_;rotate_left
      ·(intro w f;(try dsimp only at f);go_simp;try with_reducible rfl)
      simp only [Act.put,z4,z6,z7];refine wpAnyH_take (i:=6) (oi:=_) (v:=?_) rfl (by kernel_rfl) (by kernel_rfl) (by kernel_rfl) (fun _ _ _ h=>h) (Or.inl ⟨by rfl,?_⟩) (by assumption) ?_;rotate_left
      ·(intro w f;(try dsimp only at f);go_simp;try with_reducible rfl)
      simp only [Act.put,z4,z6,z7];refine wpAnyH_take (i:=7) (oi:=_) (v:=?_) rfl (by kernel_rfl) (by kernel_rfl) (by kernel_rfl) (fun _ _ _ h=>h) (Or.inl ⟨by rfl,?_⟩) (by assumption) ?_;rotate_left
      ·(intro w f;(try dsimp only at f);go_simp;try with_reducible rfl)
      simp only [Act.put,z4,z6,z7];refine wpAnyH_take (i:=8) (oi:=_) (v:=?_) rfl (by kernel_rfl) (by kernel_rfl) (by kernel_rfl) (fun _ _ _ h=>h) (Or.inl ⟨by rfl,?_⟩) (by assumption) ?_;rotate_left
      ·(intro w f;(try dsimp only at f);go_simp;try with_reducible rfl)
      simp only [Act.put,z4,z6,z7];refine wpAnyH_take (i:=9) (oi:=_) (v:=?_) rfl (by kernel_rfl) (by kernel_rfl) (by kernel_rfl) (fun _ _ _ h=>h) (Or.inl ⟨by rfl,?_⟩) (by assumption) ?_;rotate_left
      ·(intro w f;(try dsimp only at f);go_simp;try with_reducible rfl)
      simp only [Act.put,z4,z6,z7];refine wpAnyH_take (i:=10) (oi:=_) (v:=?_) rfl (by kernel_rfl) (by kernel_rfl) (by kernel_rfl) (fun _ _ _ h=>h) (Or.inl ⟨by rfl,?_⟩) (by assumption) ?_;rotate_left
      ·(intro w f;(try dsimp only at f);go_simp;try with_reducible rfl)
      simp only [Act.put,z4,z6,z7];refine wpAnyH_take (i:=11) (oi:=_) (v:=?_) rfl (by kernel_rfl) (by kernel_rfl) (by kernel_rfl) (fun _ _ _ h=>h) (Or.inl ⟨by rfl,?_⟩) (by assumption) ?_;rotate_left
      ·(intro w f;(try dsimp only at f);go_simp;try with_reducible rfl)
      simp only [Act.put,z4,z6,z7];refine wpAnyH_take (i:=12) (oi:=_) (v:=?_) rfl (by kernel_rfl) (by kernel_rfl) (by kernel_rfl) (fun _ _ _ h=>h) (Or.inl ⟨by rfl,?_⟩) (by assumption) ?_;rotate_left
      ·(intro w f;(try dsimp only at f);go_simp;try with_reducible rfl)
      simp only [Act.put,z4,z6,z7];refine wpAnyH_ready (rs:=[4,13]) (by kernel_rfl) (by simp) ?_;refine AllReadyH.cons rfl (fun KQ hKQ=>?_) (AllReadyH.cons rfl (fun KQ hKQ=>?_) AllReadyH.nil)
      ·go_simp
       refine hKQ.out _ _ (by (try dsimp only);first | exact s | exact p | exact t | assumption | go_keep) (fun hHeld2=>?_);clear hKQ KQ;refine wpAnyH_ready (rs:=[13]) (by kernel_rfl) (by simp) ?_;refine AllReadyH.cons rfl (fun KQ hKQ=>?_) AllReadyH.nil;go_simp
       refine hKQ.out _ _ (by (try dsimp only);first | exact s | exact p | exact t | assumption | go_keep) (fun hHeld2=>?_);clear hKQ KQ;refine wpAnyH_ready (rs:=[14]) (by kernel_rfl) (by simp) ?_;refine AllReadyH.cons rfl (fun KQ hKQ=>?_) AllReadyH.nil
       (refine aS kOb (by decide) jU _ (by rfl) _ _ 64 (by rfl) B 71 i0 (.agg #[.int .i64 0,.int .i64 0,.int .i64 0,.int .i64 0,.int .i64 0,.int .i64 0]) 48 Tryz.underlying64 hi aB aF av (by rfl) (.slice aw L.length au) L (by rfl) (by exact g.o.own.alloc _) (some ⟨X.heap.size,0,none⟩) 1 1 [obOf cycle x] (by rfl) (by rfl) (by exact Sl.one1 eOb kOb X 71 (obOf cycle x) (cs:=#[.int .i64 cycle,.int .i64 x.mem,.int .i64 x.ass,.int .i64 x.amt,.int .i64 0,.int .i64 1]) rfl) (by simp only [Ai];unfold maxLen;omega) (by simp only [Ai];omega) (by simp;omega) ?_;intro v' w5 r d F;have Q:=aa (bU (w:=X.alloc (.cells #[.int .i64 cycle,.int .i64 x.mem,.int .i64 x.ass,.int .i64 x.amt,.int .i64 0,.int .i64 1] 71)) (off:=0) (K:=K) (g.o.blk.alloc _) (by exact g.o.own.alloc _) (by exact ⟨d.os,d.tape,d.output,d.size,d.block⟩) r (by exact F) (by decide) g.o.l1 hKg T.o);have B2:=aa (Blk.grown (w:=X.alloc (.cells #[.int .i64 cycle,.int .i64 x.mem,.int .i64 x.ass,.int .i64 x.amt,.int .i64 0,.int .i64 1] 71)) (g.o.blk.alloc _) (by exact g.o.own.alloc _) (by exact ⟨d.os,d.tape,d.output,d.size,d.block⟩) (by decide));have m:=r;rw [az.o] at m;obtain ⟨n3,k3,rfl⟩:=ag m;clear m;have z0:=B2.o.c 0;have z1:=B2.o.free 0;have C2:=Blk.grown (w:=X.alloc (.cells #[.int .i64 cycle,.int .i64 x.mem,.int .i64 x.ass,.int .i64 x.amt,.int .i64 0,.int .i64 1] 71)) (D.o.alloc _) (by exact g.o.own.alloc _) (by exact ⟨d.os,d.tape,d.output,d.size,d.block⟩) (by decide);have H:=Blk.grown (w:=X.alloc (.cells #[.int .i64 cycle,.int .i64 x.mem,.int .i64 x.ass,.int .i64 x.amt,.int .i64 0,.int .i64 1] 71)) (z.o.alloc _) (by exact g.o.own.alloc _) (by exact ⟨d.os,d.tape,d.output,d.size,d.block⟩) (by decide);have p:=And.intro (C2.c 0) (And.intro (H.c 0) (And.intro (H.c 1) (H.c 2)));have C4:=C2.far (k:=gs) 0 (.slice n3 N k3) ad;have O:=H.far (k:=gs) 0 (.slice n3 N k3) ab;have t:=And.intro (C4.c 0) (And.intro (O.c 0) (And.intro (O.c 1) (O.c 2))))
       refine hKQ.out _ _ (by (try dsimp only);first | exact s | exact p | exact t | assumption | go_keep) (fun hHeld2=>?_);clear hKQ KQ;refine wpAnyH_take (i:=15) (oi:=_) (v:=?_) rfl (by kernel_rfl) (by kernel_rfl) (by kernel_rfl) (fun _ _ _ h=>h) (Or.inl ⟨by rfl,?_⟩) (by assumption) ?_;rotate_left
       ·(intro w f;(try dsimp only at f);go_simp;try with_reducible rfl)
       simp only [Act.put,z4,z6,z7];refine wpAnyH_take (i:=16) (oi:=_) (v:=?_) rfl (by kernel_rfl) (by kernel_rfl) (by kernel_rfl) (fun _ _ _ h=>h) (Or.inl ⟨by rfl,?_⟩) (by assumption) ?_;rotate_left
       ·(intro w f;(try dsimp only at f);go_simp;try with_reducible rfl)
       simp only [Act.put,z4,z6,z7];refine wpAnyH_ready (rs:=[17]) (by kernel_rfl) (by simp) ?_;refine AllReadyH.cons rfl (fun KQ hKQ=>?_) AllReadyH.nil;go_simp
       refine hKQ.out _ _ (by (try dsimp only);first | exact s | exact p | exact t | assumption | go_keep) (fun hHeld2=>?_);clear hKQ KQ;refine wpAnyH_done (by kernel_rfl) ?_ _;clear d F r z0 z1 B2 b0 ax b1 b2 b3 b4 s p t C2 H C4 O;generalize (w5.setCell ⟨gs,0,none⟩ (.slice n3 N k3))=Y at *;go_wp2_with fail;go_roundw
       case rel=>exact ⟨q+1,.slice n3 N k3,by omega,by go_num,⟨Q.o.blk,by rw [←ar.o];exact Q.o.own,g.o.l1⟩,(ae.o.trans (ModT.below Bn)).trans Q.o.mod,aA.o.trans2 Q.o.goes (by simp;omega)⟩
       case measure=>simp [intOf];omega
      ·go_simp
       refine hKQ.out _ _ (by (try dsimp only);first | exact s | exact p | exact t | assumption | go_keep) (fun hHeld2=>?_);clear hKQ KQ;refine wpAnyH_ready (rs:=[4]) (by kernel_rfl) (by simp) ?_;refine AllReadyH.cons rfl (fun KQ hKQ=>?_) AllReadyH.nil;go_simp
       refine hKQ.out _ _ (by (try dsimp only);first | exact s | exact p | exact t | assumption | go_keep) (fun hHeld2=>?_);clear hKQ KQ;refine wpAnyH_ready (rs:=[14]) (by kernel_rfl) (by simp) ?_;refine AllReadyH.cons rfl (fun KQ hKQ=>?_) AllReadyH.nil
       (refine aS kOb (by decide) jU _ (by rfl) _ _ 64 (by rfl) B 71 i0 (.agg #[.int .i64 0,.int .i64 0,.int .i64 0,.int .i64 0,.int .i64 0,.int .i64 0]) 48 Tryz.underlying64 hi aB aF av (by rfl) (.slice aw L.length au) L (by rfl) (by exact g.o.own.alloc _) (some ⟨X.heap.size,0,none⟩) 1 1 [obOf cycle x] (by rfl) (by rfl) (by exact Sl.one1 eOb kOb X 71 (obOf cycle x) (cs:=#[.int .i64 cycle,.int .i64 x.mem,.int .i64 x.ass,.int .i64 x.amt,.int .i64 0,.int .i64 1]) rfl) (by simp only [Ai];unfold maxLen;omega) (by simp only [Ai];omega) (by simp;omega) ?_;intro v' w5 r d F;have Q:=aa (bU (w:=X.alloc (.cells #[.int .i64 cycle,.int .i64 x.mem,.int .i64 x.ass,.int .i64 x.amt,.int .i64 0,.int .i64 1] 71)) (off:=0) (K:=K) (g.o.blk.alloc _) (by exact g.o.own.alloc _) (by exact ⟨d.os,d.tape,d.output,d.size,d.block⟩) r (by exact F) (by decide) g.o.l1 hKg T.o);have B2:=aa (Blk.grown (w:=X.alloc (.cells #[.int .i64 cycle,.int .i64 x.mem,.int .i64 x.ass,.int .i64 x.amt,.int .i64 0,.int .i64 1] 71)) (g.o.blk.alloc _) (by exact g.o.own.alloc _) (by exact ⟨d.os,d.tape,d.output,d.size,d.block⟩) (by decide));have m:=r;rw [az.o] at m;obtain ⟨n3,k3,rfl⟩:=ag m;clear m;have z0:=B2.o.c 0;have z1:=B2.o.free 0;have C2:=Blk.grown (w:=X.alloc (.cells #[.int .i64 cycle,.int .i64 x.mem,.int .i64 x.ass,.int .i64 x.amt,.int .i64 0,.int .i64 1] 71)) (D.o.alloc _) (by exact g.o.own.alloc _) (by exact ⟨d.os,d.tape,d.output,d.size,d.block⟩) (by decide);have H:=Blk.grown (w:=X.alloc (.cells #[.int .i64 cycle,.int .i64 x.mem,.int .i64 x.ass,.int .i64 x.amt,.int .i64 0,.int .i64 1] 71)) (z.o.alloc _) (by exact g.o.own.alloc _) (by exact ⟨d.os,d.tape,d.output,d.size,d.block⟩) (by decide);have p:=And.intro (C2.c 0) (And.intro (H.c 0) (And.intro (H.c 1) (H.c 2)));have C4:=C2.far (k:=gs) 0 (.slice n3 N k3) ad;have O:=H.far (k:=gs) 0 (.slice n3 N k3) ab;have t:=And.intro (C4.c 0) (And.intro (O.c 0) (And.intro (O.c 1) (O.c 2))))
       refine hKQ.out _ _ (by (try dsimp only);first | exact s | exact p | exact t | assumption | go_keep) (fun hHeld2=>?_);clear hKQ KQ;refine wpAnyH_take (i:=15) (oi:=_) (v:=?_) rfl (by kernel_rfl) (by kernel_rfl) (by kernel_rfl) (fun _ _ _ h=>h) (Or.inl ⟨by rfl,?_⟩) (by assumption) ?_;rotate_left
       ·(intro w f;(try dsimp only at f);go_simp;try with_reducible rfl)
       simp only [Act.put,z4,z6,z7];refine wpAnyH_take (i:=16) (oi:=_) (v:=?_) rfl (by kernel_rfl) (by kernel_rfl) (by kernel_rfl) (fun _ _ _ h=>h) (Or.inl ⟨by rfl,?_⟩) (by assumption) ?_;rotate_left
       ·(intro w f;(try dsimp only at f);go_simp;try with_reducible rfl)
       simp only [Act.put,z4,z6,z7];refine wpAnyH_ready (rs:=[17]) (by kernel_rfl) (by simp) ?_;refine AllReadyH.cons rfl (fun KQ hKQ=>?_) AllReadyH.nil;go_simp
       refine hKQ.out _ _ (by (try dsimp only);first | exact s | exact p | exact t | assumption | go_keep) (fun hHeld2=>?_);clear hKQ KQ;refine wpAnyH_done (by kernel_rfl) ?_ _;clear d F r z0 z1 B2 b0 ax b1 b2 b3 b4 s p t C2 H C4 O;generalize (w5.setCell ⟨gs,0,none⟩ (.slice n3 N k3))=Y at *;go_wp2_with fail;go_roundw
       case rel=>exact ⟨q+1,.slice n3 N k3,by omega,by go_num,⟨Q.o.blk,by rw [←ar.o];exact Q.o.own,g.o.l1⟩,(ae.o.trans (ModT.below Bn)).trans Q.o.mod,aA.o.trans2 Q.o.goes (by simp;omega)⟩
       case measure=>simp [intOf];omega
     ·obtain rfl:q=nets.length:=by omega
      have aW:¬ ((nets.length:Int)<(nets.length:Int)):=by omega
      have a2:nets.take nets.length=nets:=Ae (zY _);rw [a2] at E;go_wp2_with fail;go_ret;rw [aQ.o];exact ⟨vq,rfl,E,a1.trans C,M⟩
def PredObW (g:Nat)(lb:Array Value)(p:Ob→Bool)(w:World):Prop:=∀(W:World)(x:Ob),Bw w W→Calls Tryz.prog g (#[.agg #[.int .i64 x.cycle,.int .i64 x.mem,.int .i64 x.ass,.int .i64 x.net,.int .i64 x.done,.int .i64 x.stt]]++lb) W fun e w'=>e=.returned (.bool (p x))∧Bw W w'
theorem iM (v:Value)(l:List Ob)(g:Nat)(lb:Array Value)(eg:∀args w,(callFunc g args).run Tryz.prog w=.ok (.enter g args) w)(p:Ob→Bool)(w:World)(hp:PredObW g lb p w)(hv:Sl eOb 6 w v l)(hn:l.length≤100000):Calls Tryz.prog 315 #[v,.func (.func g) #[] lb] w (RPo eOb 71 6 (l.filterMap (openF p)) w):=by
 have K:=aa hp;have Y:=aa hv;obtain ⟨n1,N,rfl,_⟩:=hv;obtain ⟨i0,hi,hz0,hz1,hz2⟩:=info_parts jp;have F:Bw w w:=zZ _ _;clear hp;go_enter Tryz.func315,Tryz.ntmps315;go_wp2_with fail;go_loopw [5,10] (fun vo vi wr=>∃k:Nat,k≤l.length∧vi=.int .i64 k∧wr.ownsRow w.heap.size 71 6 vo ((l.take k).filterMap (openF p)).length (flat eOb ((l.take k).filterMap (openF p)))∧Bw w wr) (fun _ vi _=>l.length - (intOf vi).toNat)
 case atStart=>exact ⟨0,Af _,rfl,⟨by simp [flat],Or.inl ⟨rfl,rfl⟩⟩,zZ _ _⟩
 case round=>
  obtain ⟨k,hk,rfl,d,a⟩:=hrel;have H:=aa d;obtain ⟨no,ko,rfl⟩:=ag d;clear d;by_cases hlt:k<l.length
  ·obtain ⟨V,A,B,_,Z,G,C⟩:=Y.o;obtain ⟨e1,e2⟩:n1=V∧N=A:=by simpa using B
   subst e1 e2;obtain ⟨b,m,rfl,j,E⟩:=C (by omega);obtain ⟨q0,q1,q2,q3,q4,q5⟩:=g8 (E k hlt);have r0:=(a.c (p:=⟨b,m+k * 6,none⟩) j).trans q0;have r1:=(a.c (p:=⟨b,m+k * 6+1,none⟩) j).trans q1;have r2:=(a.c (p:=⟨b,m+k * 6+2,none⟩) j).trans q2;have r3:=(a.c (p:=⟨b,m+k * 6+3,none⟩) j).trans q3;have r4:=(a.c (p:=⟨b,m+k * 6+4,none⟩) j).trans q4;have r5:=(a.c (p:=⟨b,m+k * 6+5,none⟩) j).trans q5;have O:(0:Int)≤(k:Int):=by omega
   have T:(k:Int)<(l.length:Int):=by omega
   unfold maxLen at G;have i:=aa (bC (openF p) l k hlt);have S:((l.take k).filterMap (openF p)).length≤k:=z5 (Ak _ _) (by rw [Aa];omega);clear E q0 q1 q2 q3 q4 q5 C B;generalize (l.take k).filterMap (openF p)=L at *;generalize l[k]=x at *;have y:=a.alloc a.size (.cells (cOb x) 71);have M:=aa (Blk.new wr 71 (cOb x));have t:=aa (H.o.alloc (.cells (cOb x) 71));by_cases hst:x.stt=1
   rotate_left
   ·have P:=beq_eq_false_iff_ne.2 hst;have z:=aa hst;clear hst;have D:Hid ((l.take (k+1)).filterMap (openF p)=L):=aa (by rw [i.o,show openF p x=none from (by unfold openF;rw [if_neg (fun h=>z.o h.1)])];simp);clear i;go_wp2_with (fail)
    go_roundw
    case rel=>exact ⟨k+1,by omega,by go_num,by rw [D.o];exact t.o,y⟩
    case measure=>simp [intOf];omega
   have P:=beq_iff_eq.2 hst;have z:=aa hst;clear hst;cases hpx:p x
   ·have n:=aa hpx;clear hpx;have D:Hid ((l.take (k+1)).filterMap (openF p)=L):=aa (by rw [i.o,show openF p x=none from (by unfold openF;rw [if_neg (fun h=>by rw [n.o] at h;cases h.2)])];simp);clear i;go_wp2_with ((go_at_fn g;refine (K.o _ x y).mono ?_;rintro e J ⟨rfl,u⟩;rw [n.o];have s:=y.trans (u.mono y.size);have r:=aa (ah t.o u);have f:=M.o.keep u;have y0:=f.c 0;have Q:=f.c 1;have y2:=f.c 2;have R:=f.c 3;have y4:=f.c 4;have W:=f.c 5;clear f))
    go_roundw
    case rel=>exact ⟨k+1,by omega,by go_num,by rw [D.o];exact r.o,s⟩
    case measure=>simp [intOf];omega
   ·have n:=aa hpx;clear hpx;have D:Hid (L++[x]=(l.take (k+1)).filterMap (openF p)):=aa (by rw [i.o,show openF p x=some x from (by unfold openF;rw [if_pos ⟨z.o,n.o⟩])];rfl);clear i;go_wp2_with (first | (go_at_fn g;refine (K.o _ x y).mono ?_;rintro e J ⟨rfl,u⟩;rw [n.o];have s:=y.trans (u.mono y.size);have r:=aa (ah t.o u);have f:=M.o.keep u;have y0:=f.c 0;have Q:=f.c 1;have y2:=f.c 2;have R:=f.c 3;have y4:=f.c 4;have W:=f.c 5;clear f) | (at_builtin;refine aq kOb (by decide) jU _ rfl _ _ 64 rfl w.heap.size 71 i0 (.agg #[.int .i64 0,.int .i64 0,.int .i64 0,.int .i64 0,.int .i64 0,.int .i64 0]) 48 Tryz.underlying64 hi hz0 hz1 hz2 (by rfl) (.slice no L.length ko) L rfl (r.o.alloc _) (some ⟨J.heap.size,0,none⟩) 1 [x] rfl (Sl.one1b eOb kOb _ 71 _ (by rfl) _ rfl) (by show L.length+1≤maxLen;unfold maxLen;omega) (by show (L.length+1) * 48≤_;omega) (s.alloc s.size (.cells #[.int .i64 x.cycle,.int .i64 x.mem,.int .i64 x.ass,.int .i64 x.net,.int .i64 x.done,.int .i64 x.stt] 71)).size ?_;intro v' w2 d hgrow hat;have X:=(s.alloc s.size (.cells #[.int .i64 x.cycle,.int .i64 x.mem,.int .i64 x.ass,.int .i64 x.net,.int .i64 x.done,.int .i64 x.stt] 71)).grown hgrow (s.alloc s.size _).size (fun q hq=>(r.o.lt q hq).1);rw [D.o] at d;obtain ⟨n2,k2,rfl⟩:=ag d;clear hgrow hat))
    go_roundw
    case rel=>exact ⟨k+1,by omega,by go_num,d,X⟩
    case measure=>simp [intOf];omega
  ·obtain rfl:k=l.length:=by omega
   have U:¬ ((l.length:Int)<(l.length:Int)):=by omega
   have I:l.take l.length=l:=Ae (zY _);rw [I] at H;go_wp2_with fail;go_ret;exact ⟨_,rfl,aw H.o F.size,F.trans (a.mono F.size)⟩
end
def hasI (l:List Int)(m:Int):Bool:=l.any fun y=>decide (m=y)
theorem sH (v:Value)(l:List Int)(m:Int)(w:World)(hv:Sl eI 1 w v l)(hn:l.length≤1000000) :
  Calls Tryz.prog 240 #[v,.int .i64 m] w fun e w'=>e=.returned (.int .i64 (fnd (fun y=>decide (m=y)) l))∧w'=w:=by
 obtain ⟨a,C,rfl,E,q,c⟩:=hv.ints;unfold maxLen at q;have g:=aa c;have r:=aa (cz (fun y=>decide (m=y)) l);clear c;go_enter Tryz.func240,Tryz.ntmps240;go_wp2_with fail;go_loopw [8] (fun vi wr=>∃k:Nat,k≤l.length∧vi=.int .i64 k∧wr=w∧∀j (h:j<k) (h2:j<l.length),decide (m=l[j])=false) (fun vi _=>l.length - (intOf vi).toNat)
 case atStart=>exact ⟨0,Af _,rfl,rfl,fun j h=>by omega⟩
 case round=>
  obtain ⟨k,F,rfl,rfl,n⟩:=hrel;have d:=aa n;clear n;by_cases hlt:k<l.length
  ·obtain ⟨b,u,rfl,t,f⟩:=g.o (by omega);have G:=f k hlt;have s:(0:Int)≤(k:Int):=by omega
   have A:(k:Int)<(l.length:Int):=by omega
   by_cases he:m=l[k]
   ·have z:=beq_iff_eq.2 he;have p:Hid (fnd (fun y=>decide (m=y)) l=(k:Nat)):=aa (by
     rcases r.o with ⟨_,h2⟩ | ⟨i,hi,h1,h2,h3⟩
     ·have:=h2 k hlt
      rw [←he] at this;simp at this
     ·rw [h1];rcases Nat.lt_trichotomy i k with h | h | h
      ·have:=d.o i h hi
       rw [this] at h2;cases h2
      ·rw [h]
      ·have:=h3 k h
       rw [←he] at this;simp at this)
    clear he f;generalize l[k]=x at *;go_wp2_with fail;go_ret;exact ⟨by rw [p.o];rfl,rfl⟩
   ·have z:=beq_eq_false_iff_ne.2 he;have D:=aa he;clear he f;go_wp2_with fail;go_roundw
    case rel=>exact ⟨k+1,by omega,by go_num,by trivial,fun j h h2=>by
     by_cases e:j=k
     ·subst e;exact decide_eq_false D.o
     ·exact d.o j (by omega) h2⟩
    case measure=>simp [intOf];omega
  ·have B:¬ ((k:Int)<(l.length:Int)):=by omega
   have p:Hid (fnd (fun y=>decide (m=y)) l=-1):=aa (by
    rcases r.o with ⟨h1,_⟩ | ⟨i,hi,h1,h2,h3⟩
    ·exact h1
    ·have:=d.o i (by omega) hi
     rw [this] at h2;cases h2)
   go_wp2_with fail;go_ret;exact ⟨by rw [p.o];rfl,rfl⟩
theorem pF (v:Value)(l:List Int)(m:Int)(w:World)(hv:Sl eI 1 w v l)(hn:l.length≤1000000) :
  Calls Tryz.prog 192 #[v,.int .i64 m] w fun e w'=>e=.returned (.bool (hasI l m))∧w'=w:=by
 have d:Hid (decide (0≤fnd (fun y=>decide (m=y)) l)=hasI l m):=aa (wN _ l).symm;have c:=aa (sH v l m w hv hn);obtain ⟨a,b,rfl,_⟩:=hv;generalize fnd (fun y=>decide (m=y)) l=n at *;go_enter Tryz.func192,Tryz.ntmps192;go_wp2_with (go_at_call 240;refine c.o.mono ?_;rintro e w1 ⟨rfl,rfl⟩)
 go_ret;exact ⟨by rw [←d.o];rfl,rfl⟩
theorem gg (v:Value)(l:List Int)(m:Int)(w:World)(hv:Sl eI 1 w v l)(hn:l.length≤1000000) :
  Calls Tryz.prog 161 #[v,.int .i64 m] w fun e w'=>e=.returned (.bool (hasI l m))∧w'=w:=by
 have c:=aa (pF v l m w hv hn);obtain ⟨a,b,rfl,_⟩:=hv;generalize hasI l m=n at *;go_enter Tryz.func161,Tryz.ntmps161;go_wp2_with (go_at_call 192;refine c.o.mono ?_;rintro e w1 ⟨rfl,rfl⟩)
 go_ret;exact ⟨rfl,rfl⟩
def fateM (x:Ob)(who:List Int):Int×Int:=
 if x.stt≠1 then (x.stt,x.done)
 else if 0<x.net∧x.done=x.net then (2,x.done)
 else if 0<x.net then (3,x.done)
 else if x.net<0∧hasI who x.mem=true then (3,0)
 else (x.stt,x.done)
theorem mE (x:Ob)(h:Bool):x.stt≠1∨(x.stt=1∧0<x.net∧x.done=x.net)∨(x.stt=1∧0<x.net∧x.done≠x.net)∨(x.stt=1∧¬ 0<x.net∧x.net<0∧h=true)∨(x.stt=1∧¬ 0<x.net∧x.net<0∧h=false)∨(x.stt=1∧¬ 0<x.net∧¬ x.net<0):=by
 cases h <;> simp <;> omega
theorem sI (v:Value)(who:List Int)(x:Ob)(w:World)(hv:Sl eI 1 w v who)(hn:who.length≤1000) :
  Calls Tryz.prog 258 #[.agg #[.int .i64 x.cycle,.int .i64 x.mem,.int .i64 x.ass,.int .i64 x.net,.int .i64 x.done,.int .i64 x.stt],v] w fun e w'=>e=.returned (.tuple #[.int .i64 (fateM x who).1,.int .i64 (fateM x who).2])∧Bw w w':=by
 obtain ⟨m,g,j,c,b,k⟩:=x;have d:Bw w (w.alloc (.cells #[.int .i64 m,.int .i64 g,.int .i64 j,.int .i64 c,.int .i64 b,.int .i64 k] 71)):=Bn;have p:=aa (gg v who g _ (hv.keep d) (by omega));obtain ⟨a,cap,rfl,_⟩:=hv;obtain ⟨h,hh⟩:∃h,hasI who g=h:=⟨_,rfl⟩;have q:=aa hh;have f:Hid (fateM ⟨m,g,j,c,b,k⟩ who=if k≠1 then (k,b) else if 0<c∧b=c then (2,b) else if 0<c then (3,b) else if c<0∧h=true then (3,0) else (k,b)):=aa (by unfold fateM;rw [←hh]);clear hh;dsimp only;rcases mE ⟨m,g,j,c,b,k⟩ h with h1 | ⟨h1,h2,h3⟩ | ⟨h1,h2,h3⟩ | ⟨h1,h2,h3,h4⟩ | ⟨h1,h2,h3,h4⟩ | ⟨h1,h2,h3⟩
 all_goals dsimp only at h1
 ·have n:(k != 1)=true:=by simpa using h1
  have i:Hid (fateM ⟨m,g,j,c,b,k⟩ who=(k,b)):=aa (by rw [f.o,if_pos h1]);clear h1 f;go_enter Tryz.func258,Tryz.ntmps258;go_wp2_with fail;go_quiet (fail)
  go_wp2_with fail;go_ret2;exact ⟨by rw [i.o];rfl,by first | exact d | exact aj d _⟩
 all_goals
  subst h1;dsimp only at h2 h3
 ·have n:=dT h2;have l:=beq_iff_eq.2 h3;have i:Hid (fateM ⟨m,g,j,c,b,1⟩ who=(2,b)):=aa (by rw [f.o,if_neg (by simp),if_pos ⟨h2,h3⟩]);clear h2 h3 f;go_enter Tryz.func258,Tryz.ntmps258;go_wp2_with fail;go_quiet (fail)
  go_wp2_with fail;go_ret2;exact ⟨by rw [i.o];rfl,by first | exact d | exact aj d _⟩
 ·have n:=dT h2;have l:=beq_eq_false_iff_ne.2 h3;have i:Hid (fateM ⟨m,g,j,c,b,1⟩ who=(3,b)):=aa (by rw [f.o,if_neg (by simp),if_neg (fun h=>h3 h.2),if_pos h2]);clear h2 h3 f;go_enter Tryz.func258,Tryz.ntmps258;go_wp2_with fail;go_quiet (fail)
  go_wp2_with fail;go_ret2;exact ⟨by rw [i.o];rfl,by first | exact d | exact aj d _⟩
 ·subst h4;have n:=dF h2;have l:=dT h3;have i:Hid (fateM ⟨m,g,j,c,b,1⟩ who=(3,0)):=aa (by rw [f.o,if_neg (by simp),if_neg (fun h=>h2 h.1),if_neg h2,if_pos ⟨h3,rfl⟩]);clear h2 h3 f;go_enter Tryz.func258,Tryz.ntmps258;go_wp2_with (go_at_call 161;refine p.o.mono ?_;rintro e r ⟨rfl,rfl⟩;rw [q.o])
  go_ret2;exact ⟨by rw [i.o];rfl,by first | exact d | exact aj d _⟩
 ·subst h4;have n:=dF h2;have l:=dT h3;have i:Hid (fateM ⟨m,g,j,c,b,1⟩ who=(1,b)):=aa (by rw [f.o,if_neg (by simp),if_neg (fun h=>h2 h.1),if_neg h2,if_neg (fun h=>by cases h.2)]);clear h2 h3 f;go_enter Tryz.func258,Tryz.ntmps258;go_wp2_with (go_at_call 161;refine p.o.mono ?_;rintro e r ⟨rfl,rfl⟩;rw [q.o])
  go_quiet (fail)
  go_wp2_with fail;go_ret2;exact ⟨by rw [i.o];rfl,by first | exact d | exact aj d _⟩
 ·have n:=dF h2;have l:=dF h3;have i:Hid (fateM ⟨m,g,j,c,b,1⟩ who=(1,b)):=aa (by rw [f.o,if_neg (by simp),if_neg (fun h=>h2 h.1),if_neg h2,if_neg (fun h=>h3 h.1)]);clear h2 h3 f;go_enter Tryz.func258,Tryz.ntmps258;go_wp2_with fail;go_quiet (fail)
  go_wp2_with fail;go_ret2;exact ⟨by rw [i.o];rfl,by first | exact d | exact aj d _⟩
section
attribute [local go_sem ↓] Go.wp_at_zero Go.wp_at_succ
def claimM (x:Ob):Lg:=⟨x.mem,x.ass,if In64 (-x.net) then -x.net else 9223372036854775807⟩
theorem pG (x:Ob)(h64:In64 x.net)(w:World):Calls Tryz.prog 341 #[.agg #[.int .i64 x.cycle,.int .i64 x.mem,.int .i64 x.ass,.int .i64 x.net,.int .i64 x.done,.int .i64 x.stt]] w fun e w'=>e=.returned (.agg #[.int .i64 (claimM x).mem,.int .i64 (claimM x).ass,.int .i64 (claimM x).amt])∧Bw w w':=by
 obtain ⟨i,d,b,a,h,g⟩:=x;dsimp only at h64;have s:Bw w (w.alloc (.cells #[.int .i64 i,.int .i64 d,.int .i64 b,.int .i64 a,.int .i64 h,.int .i64 g] 71)):=Bn;have q:=s.alloc s.size (.cells #[.int .i64 0,.int .i64 0,.int .i64 0] 120);have r:Hid (Blk ((w.alloc (.cells #[.int .i64 i,.int .i64 d,.int .i64 b,.int .i64 a,.int .i64 h,.int .i64 g] 71)).alloc (.cells #[.int .i64 0,.int .i64 0,.int .i64 0] 120)) (w.heap.size+1) 120 #[.int .i64 0,.int .i64 0,.int .i64 0]):=aa (by
  have:=Blk.new (w.alloc (.cells #[.int .i64 i,.int .i64 d,.int .i64 b,.int .i64 a,.int .i64 h,.int .i64 g] 71)) 120 #[.int .i64 0,.int .i64 0,.int .i64 0]
  simpa using this)
 by_cases hq:In64 (-a)
 ·have p:Hid (claimM ⟨i,d,b,a,h,g⟩=⟨d,b,-a⟩):=aa (by unfold claimM;rw [if_pos hq]);have l:Hid (fitM (-a)=(-a,0)):=aa (by unfold fitM;rw [if_pos hq]);clear hq;go_enter Tryz.func341,Tryz.ntmps341;go_wp2_with (first
   | (go_at_call 312;refine (bW a h64 _).mono ?_;rintro e t ⟨rfl,rfl⟩;rw [l.o])
   | (refine aF rfl 120 _ _ rfl rfl (w.heap.size+1) #[.int .i64 d,.int .i64 b,.int .i64 (-a)] rfl rfl (by kernel_rfl) (by simp [Value.oneCell']) _ r.o rfl ?_;intro u f;have k:=aa f;have n:=f.row.c 0;have j:=f.row.c 1;have m:=f.row.c 2))
  refine bodyPost_ret (v:=.agg #[.int .i64 d,.int .i64 b,.int .i64 (-a)]) (by simp [results,Tryz.results341,go_sem,n,j,m]) rfl ?_;exact ⟨by rw [p.o],k.o.low q (by omega)⟩
 ·have p:Hid (claimM ⟨i,d,b,a,h,g⟩=⟨d,b,9223372036854775807⟩):=aa (by unfold claimM;rw [if_neg hq]);have l:Hid (fitM (-a)=(0,2)):=aa (by unfold fitM;rw [if_neg hq]);clear hq;go_enter Tryz.func341,Tryz.ntmps341;go_wp2_with (first
   | (go_at_call 312;refine (bW a h64 _).mono ?_;rintro e t ⟨rfl,rfl⟩;rw [l.o])
   | (refine aF rfl 120 _ _ rfl rfl (w.heap.size+1) #[.int .i64 d,.int .i64 b,.int .i64 9223372036854775807] rfl rfl (by kernel_rfl) (by simp [Value.oneCell']) _ r.o rfl ?_;intro u f;have k:=aa f;have n:=f.row.c 0;have j:=f.row.c 1;have m:=f.row.c 2))
  refine bodyPost_ret (v:=.agg #[.int .i64 d,.int .i64 b,.int .i64 9223372036854775807]) (by simp [results,Tryz.results341,go_sem,n,j,m]) rfl ?_;exact ⟨by rw [p.o],k.o.low q (by omega)⟩
theorem eg340:∀args w,(callFunc 340 args).run Tryz.prog w=.ok (.enter 340 args) w:=enters_of Tryz.func340 (by kernel_rfl) rfl
theorem eg298:∀args w,(callFunc 298 args).run Tryz.prog w=.ok (.enter 298 args) w:=enters_of Tryz.func298 (by kernel_rfl) rfl
theorem kq (g1 g:Nat)(lb:Array Value)(eg:∀args w,(callFunc g args).run Tryz.prog w=.ok (.enter g args) w)(p:Ob→Bool)(w:World)(hp:PredObW g lb p w)(h1:Blk w g1 358 #[.func (.func g) #[] lb]):PredObW 340 #[ptr g1] (fun x=>decide (x.net<0)&&p x) w:=by
 intro W x d;have a:Bw W (W.alloc (.cells (cOb x) 71)):=Bn;have k:=aa (hp (W.alloc (.cells (cOb x) 71)) x (d.trans (a.mono d.size)));have l:=((h1.keep d).keep a).c 0;obtain ⟨b,hb⟩:∃b,p x=b:=⟨_,rfl⟩;have h:=aa hb;show Calls Tryz.prog 340 #[.agg #[.int .i64 x.cycle,.int .i64 x.mem,.int .i64 x.ass,.int .i64 x.net,.int .i64 x.done,.int .i64 x.stt],ptr g1] W _
 clear h1 hp hb;by_cases hn:x.net<0
 ·have i:=dT hn;have f:Hid ((decide (x.net<0)&&p x)=b):=aa (by rw [h.o];simp [hn]);clear hn;go_enter Tryz.func340,Tryz.ntmps340;go_wp2_with (go_at_fn g;refine k.o.mono ?_;rintro e m ⟨rfl,j⟩;rw [h.o])
  go_ret;exact ⟨by rw [f.o];rfl,a.trans (j.mono a.size)⟩
 ·have i:=dF hn;have f:Hid ((decide (x.net<0)&&p x)=false):=aa (by simp [hn]);clear hn;go_enter Tryz.func340,Tryz.ntmps340;go_wp2_with fail;go_ret;exact ⟨by rw [f.o];rfl,a⟩
def goodF (who:List Int)(a:Int)(x:Ob):Bool:=decide (x.ass=a)&&!hasI who x.mem
theorem pH (g1 g2:Nat)(v:Value)(who:List Int)(a:Int)(w:World)(h1:Blk w g1 3 #[.int .i64 a])(h2:Blk w g2 74 #[v])(hv:Sl eI 1 w v who)(hn:who.length≤1000):PredObW 298 #[ptr g1,ptr g2] (goodF who a) w:=by
 intro W x f;have d:Bw W (W.alloc (.cells (cOb x) 71)):=Bn;have k:=((h1.keep f).keep d).c 0;have l:=((h2.keep f).keep d).c 0;have j:=aa (gg v who x.mem _ ((hv.keep f).keep d) (by omega));obtain ⟨n1,k1,rfl,_⟩:=hv;obtain ⟨b,hb⟩:∃b,hasI who x.mem=b:=⟨_,rfl⟩;have h:=aa hb;show Calls Tryz.prog 298 #[.agg #[.int .i64 x.cycle,.int .i64 x.mem,.int .i64 x.ass,.int .i64 x.net,.int .i64 x.done,.int .i64 x.stt],ptr g1,ptr g2] W _
 clear h1 h2 hb;by_cases hn:x.ass=a
 ·have i:=beq_iff_eq.2 hn;have g:Hid (goodF who a x=!b):=aa (by unfold goodF;rw [h.o];simp [hn]);clear hn;go_enter Tryz.func298,Tryz.ntmps298;go_wp2_with (go_at_call 161;refine j.o.mono ?_;rintro e m ⟨rfl,rfl⟩;rw [h.o])
  go_ret;exact ⟨by rw [g.o];rfl,d⟩
 ·have i:=beq_eq_false_iff_ne.2 hn;have g:Hid (goodF who a x=false):=aa (by unfold goodF;simp [hn]);clear hn;go_enter Tryz.func298,Tryz.ntmps298;go_wp2_with fail;go_ret;exact ⟨by rw [g.o];rfl,d⟩
def clF (x:Ob):Option Lg:=some (claimM x)
def oclaimsM (l:List Ob)(p:Ob→Bool):List Lg:=(l.filterMap (openF fun x=>decide (x.net<0)&&p x)).filterMap clF
theorem sJ {l:List Ob}{p:Ob→Bool}{x:Ob}(h:x∈l.filterMap (openF p)):x∈l:=by
 obtain ⟨y,b,a⟩:=AN.1 h;unfold openF at a;split at a
 ·cases a;exact b
 ·cases a
theorem kr (v:Value)(ls:List Ob)(g:Nat)(lb:Array Value)(eg:∀args w,(callFunc g args).run Tryz.prog w=.ok (.enter g args) w)(p:Ob→Bool)(w:World)(hp:PredObW g lb p w)(hv:Sl eOb 6 w v ls)(hn:ls.length≤100000)(h64:∀x∈ls,In64 x.net):Calls Tryz.prog 297 #[v,.func (.func g) #[] lb] w (RPo eLg 120 3 (oclaimsM ls p) w):=by
 have z:Bw w (w.alloc (.cells #[.func (.func g) #[] lb] 358)):=Bn;have u:=aa (iM v ls 340 #[ptr w.heap.size] eg340 _ _ (kq w.heap.size g lb eg p _ (fun W x hW=>hp W x (z.trans (hW.mono z.size))) (Blk.new w 358 _)) (hv.keep z) hn);have C:Hid (oclaimsM ls p=(ls.filterMap (openF fun x=>decide (x.net<0)&&p x)).filterMap clF):=aa rfl;have B:Hid (∀x∈ls.filterMap (openF fun x=>decide (x.net<0)&&p x),In64 x.net):=aa (fun x hx=>h64 x (sJ hx));have R:(ls.filterMap (openF fun x=>decide (x.net<0)&&p x)).length≤100000:=z5 (Ak _ _) hn;obtain ⟨n0,k0,rfl,_⟩:=hv;obtain ⟨i0,hi,hz0,hz1,hz2⟩:=info_parts bt;clear hp h64;generalize ls.filterMap (openF fun x=>decide (x.net<0)&&p x)=l at *;go_enter Tryz.func297,Tryz.ntmps297;go_wp2_with (go_at_call 315;refine u.o.mono ?_;rintro e w1 ⟨v1,rfl,a,c1'⟩;have Q:=ag a;obtain ⟨n1,k1,rfl⟩:=Q)
 have U:=aa (Sl.own kOb a);have A:=z.trans (c1'.mono z.size);have Y:=A.size;clear a c1' u;go_loopw [5,12] (fun vo vi wr=>∃k:Nat,k≤l.length∧vi=.int .i64 k∧wr.ownsRow w1.heap.size 120 3 vo ((l.take k).filterMap clF).length (flat eLg ((l.take k).filterMap clF))∧Bw w1 wr) (fun _ vi _=>l.length - (intOf vi).toNat)
 case atStart=>exact ⟨0,Af _,rfl,⟨by simp [flat],Or.inl ⟨rfl,rfl⟩⟩,zZ _ _⟩
 case round=>
  obtain ⟨k,hk,rfl,a,d⟩:=hrel;have F:=aa a;obtain ⟨no,ko,rfl⟩:=ag a;clear a;by_cases hlt:k<l.length
  ·obtain ⟨P,j,m,_,V,E,r⟩:=U.o;obtain ⟨e1,e2⟩:n1=P∧k1=j:=by simpa using m
   subst e1 e2;obtain ⟨b,h,rfl,f,y⟩:=r (by omega);obtain ⟨q0,q1,q2,q3,q4,q5⟩:=g8 (y k hlt);have r0:=(d.c (p:=⟨b,h+k * 6,none⟩) f).trans q0;have r1:=(d.c (p:=⟨b,h+k * 6+1,none⟩) f).trans q1;have r2:=(d.c (p:=⟨b,h+k * 6+2,none⟩) f).trans q2;have Z:=(d.c (p:=⟨b,h+k * 6+3,none⟩) f).trans q3;have r4:=(d.c (p:=⟨b,h+k * 6+4,none⟩) f).trans q4;have r5:=(d.c (p:=⟨b,h+k * 6+5,none⟩) f).trans q5;have J:(0:Int)≤(k:Int):=by omega
   have N:(k:Int)<(l.length:Int):=by omega
   unfold maxLen at E;have n:=aa (bC clF l k hlt);have M:((l.take k).filterMap clF).length≤k:=z5 (Ak _ _) (by rw [Aa];omega);have s:=aa (B.o l[k] (Ag hlt));clear y q0 q1 q2 q3 q4 q5 r m;generalize (l.take k).filterMap clF=L at *;generalize l[k]=x at *;have I:=d.alloc d.size (.cells (cOb x) 71);have HX:=aa (Blk.new wr 71 (cOb x));have D:=aa (F.o.alloc (.cells (cOb x) 71))
   ·have X:True:=trivial;have S:Hid (L++[claimM x]=(l.take (k+1)).filterMap clF):=aa (by rw [n.o,show clF x=some (claimM x) from rfl];rfl);clear n;go_wp2_with (first | (go_at_call 341;refine (pG x s.o _).mono ?_;rintro e K ⟨rfl,H⟩;have i:=I.trans (H.mono I.size);have t:=aa (ah D.o H)) | (at_builtin;refine aq kLg (by decide) bL _ rfl _ _ 66 rfl w1.heap.size 120 i0 (.agg #[.int .i64 0,.int .i64 0,.int .i64 0]) 24 Tryz.underlying66 hi hz0 hz1 hz2 (by rfl) (.slice no L.length ko) L rfl (t.o.alloc _) (some ⟨K.heap.size,0,none⟩) 1 [claimM x] rfl (Sl.one1b eLg kLg _ 120 _ (by rfl) _ rfl) (by show L.length+1≤maxLen;unfold maxLen;omega) (by show (L.length+1) * 24≤_;omega) (i.alloc i.size (.cells #[.int .i64 (claimM x).mem,.int .i64 (claimM x).ass,.int .i64 (claimM x).amt] 120)).size ?_;intro v' w2 a hgrow hat;have T:=(i.alloc i.size (.cells #[.int .i64 (claimM x).mem,.int .i64 (claimM x).ass,.int .i64 (claimM x).amt] 120)).grown hgrow (i.alloc i.size _).size (fun q hq=>(t.o.lt q hq).1);rw [S.o] at a;obtain ⟨n2,k2,rfl⟩:=ag a;clear hgrow hat))
    go_roundw
    case rel=>exact ⟨k+1,by omega,by go_num,a,T⟩
    case measure=>simp [intOf];omega
  ·obtain rfl:k=l.length:=by omega
   have O:¬ ((l.length:Int)<(l.length:Int)):=by omega
   have G:l.take l.length=l:=Ae (zY _);rw [G] at F;go_wp2_with fail;go_ret;rw [C.o];exact ⟨_,rfl,aw F.o A.size,A.trans (d.mono A.size)⟩
theorem sK (v vw:Value)(l:List Ob)(who:List Int)(a:Int)(w:World)(hv:Sl eOb 6 w v l)(hw:Sl eI 1 w vw who)(hn:l.length≤100000)(hnw:who.length≤1000)(h64:∀x∈l,In64 x.net):Calls Tryz.prog 246 #[v,vw,.int .i64 a] w (RPo eLg 120 3 (oclaimsM l (goodF who a)) w):=by
 obtain ⟨c,b⟩:∃c,c=(w.alloc (.cells #[vw] 74)).alloc (.cells #[.int .i64 a] 3):=⟨_,rfl⟩;have d:Bw w c:=by rw [b];exact Bn.alloc (by simp) _
 have f:Blk c w.heap.size 74 #[vw]:=by rw [b];exact (Blk.new w 74 _).alloc _
 have g:Blk c (w.heap.size+1) 3 #[.int .i64 a]:=by rw [b];have:=Blk.new (w.alloc (.cells #[vw] 74)) 3 #[.int .i64 a];simpa using this
 have h:=aa (kr v l 298 #[ptr (w.heap.size+1),ptr w.heap.size] eg298 (goodF who a) c (pH (w.heap.size+1) w.heap.size vw who a c g f (hw.keep d) hnw) (hv.keep d) hn h64);obtain ⟨m,j,rfl,_⟩:=hv;obtain ⟨n2,k2,rfl,_⟩:=hw;subst b;clear h64 f g;go_enter Tryz.func246,Tryz.ntmps246;go_wp2_with (go_at_call 297;refine h.o.mono ?_;rintro e w1 ⟨v1,rfl,hown,c2⟩)
 obtain ⟨k,i,rfl⟩:=ag hown;go_ret;exact ⟨_,rfl,aw hown d.size,d.trans (c2.mono d.size)⟩
end
end Go.Proofs.YtmhohaanddglbaaGreatDoor
namespace Go.Proofs.YtmhohaanddglbaaGreatDoor
open Go.RowKit Go.Sort Go.Proofs
section
attribute [local go_sem ↓] Go.wp_at_zero Go.wp_at_succ
theorem oy {w:World}{B T:Nat}{v:Value}{l:List Int}(h:w.ownsRow B T 1 v l.length (flat eI l))(h0:l.length≠0):∃b cap cur,v=.slice (some ⟨b,0,none⟩) l.length cap∧B≤b∧w.heap[b]?=some (.cells cur T (0,0))∧l.length≤cap∧cap≤maxLen∧cur.size=cap∧cur.toList.take l.length=l.map (Value.int .i64):=by
 obtain ⟨_,h | ⟨b,cap,cur,rfl,d,f,g,c,i,a⟩⟩:=h
 ·exact absurd h.2 h0
 ·refine ⟨b,cap,cur,rfl,d,f,g,c,by omega,?_⟩;rw [A0] at a;rw [a,ee]
theorem iN {w:World}{b:Nat}{T:Nat}{cur:Array Value}{l:List Int}(hb:w.heap[b]?=some (.cells cur T (0,0)))(ht:cur.toList.take l.length=l.map (Value.int .i64)):Holds (Value.int .i64) w b 0 l.toArray:=by
 intro j d;have a:j<l.length:=by simpa using d
 have c:cur[j]?=some (.int .i64 l[j]):=by
  have e:(cur.toList.take l.length)[j]?=some (.int .i64 l[j]):=by rw [ht];simp [a]
  rw [List.getElem?_take_of_lt a] at e;simpa using e
 refine ⟨?_,?_⟩
 ·rw [World.cell?];simp only [hb,Av];rw [c];simp [a]
 ·rw [World.frozen?];simp [hb]
theorem wV {w:World}{b k n:Nat}(d:Array Int)(os:Array Obj)(hk:k≠b)(hl:k<w.heap.size):(grow (putRow (Value.int .i64) (Go.Sort.ahead w n) b 0 d) os).heap[k]?=w.heap[k]?:=by
 rw [heap_grow_old]
 ·unfold putRow mapBlock Go.Sort.ahead;rw [Array.getElem?_modify];simp [Ne.symm hk]
 ·simpa [putRow,mapBlock,Go.Sort.ahead] using hl
theorem sL {w:World}{b n T:Nat}{cur:Array Value}(d:Array Int)(os:Array Obj)(hb:w.heap[b]?=some (.cells cur T (0,0))):(grow (putRow (Value.int .i64) (Go.Sort.ahead w n) b 0 d) os).heap[b]?=some (.cells (putCells (Value.int .i64) 0 d cur) T (0,0)):=by
 have a:b<w.heap.size:=by
  rw [Array.getElem?_eq_some_iff] at hb;exact hb.1
 rw [heap_grow_old]
 ·unfold putRow mapBlock Go.Sort.ahead;rw [Array.getElem?_modify,if_pos rfl,hb];simp [onCells]
 ·simpa [putRow,mapBlock,Go.Sort.ahead] using a
theorem hZ {cur:Array Value}{d:List Int}(hs:d.length≤cur.size):(putCells (Value.int .i64) 0 d.toArray cur).toList.take d.length=d.map (Value.int .i64):=by
 apply AY
 intro k;by_cases hk:k<d.length
 ·rw [List.getElem?_take_of_lt hk];have a:k<cur.size:=by omega
  simp [putCells,hk,a]
 ·rw [List.getElem?_eq_none (by simp;omega),List.getElem?_eq_none (by simp;omega)]
theorem oz {w:World}{B T b cap n:Nat}{cur:Array Value}{d:List Int}(os:Array Obj)(hB:B≤b)(hb:w.heap[b]?=some (.cells cur T (0,0)))(hm:cap≤maxLen)(hs:cur.size=cap)(hd:d.length≤cap)(m:Nat)(hmd:m≤d.length):(grow (putRow (Value.int .i64) (Go.Sort.ahead w n) b 0 d.toArray) os).ownsRow B T 1 (.slice (some ⟨b,0,none⟩) m cap) m (flat eI (d.take m)):=by
 refine ⟨by rw [ee];simp;omega,Or.inr ⟨b,cap,_,rfl,hB,sL d.toArray os hb,by omega,hm,by simp [putCells];omega,?_⟩⟩;rw [A0,ee];have h:=hZ (cur:=cur) (d:=d) (by omega);have a:=congrArg (List.take m) h;rw [List.take_take,Bb hmd,←List.map_take] at a;exact a
theorem iO {w:World}{B b n:Nat}(d:Array Int)(os:Array Obj)(hB:B≤b)(hw:B≤w.heap.size):Below B w (grow (putRow (Value.int .i64) (Go.Sort.ahead w n) b 0 d) os):=by
 refine ⟨rfl,rfl,rfl,?_,fun k hk=>wV d os (by omega) (by omega)⟩;simp [grow,putRow,mapBlock,Go.Sort.ahead]
theorem sM {w:World}{B:Nat}{v:Value}{l:List Int}(h:w.ownsRow B 3 1 v l.length (flat eI l))(hw:B≤w.heap.size)(hn:l.length≤100000):Calls Tryz.prog 349 #[v] w fun e w'=>e=.returned (.tuple #[])∧w'.ownsRow B 3 1 v l.length (flat eI (l.mergeSort fun x y=>decide (x≤y)))∧Below B w w':=by
 by_cases h0:l.length=0
 ·obtain rfl:l=[]:=List.length_eq_zero_iff.1 h0;obtain ⟨p,a,rfl⟩:=ag h;refine (Tryz.slices_Sort_int_none p a w).mono ?_;rintro e w' ⟨rfl,rfl⟩;exact ⟨rfl,by simpa using h,zZ _ _⟩
 ·obtain ⟨b,a,j,rfl,i,c,s,k,q,o⟩:=oy h h0;have f:b<w.heap.size:=by
   rw [Array.getElem?_eq_some_iff] at c;exact c.1
  refine (Tryz.slices_Sort_int b 0 a l w (iN c o) f (by omega)).mono ?_;rintro e w' ⟨rfl,n,m,rfl⟩;have r:(l.mergeSort fun x y=>decide (x≤y)).length=l.length:=List.length_mergeSort _;have g:=oz (w:=w) (n:=n) m i c k q (d:=l.mergeSort fun x y=>decide (x≤y)) (by omega) l.length (by omega);rw [Ae (by omega)] at g;exact ⟨rfl,g,iO _ _ i hw⟩
theorem eZ (l:List Int):(Lib.compact l).length≤l.length:=Go.Lib.compact_length_le l
theorem kt {w:World}{B:Nat}{v:Value}{l:List Int}(h:w.ownsRow B 3 1 v l.length (flat eI l))(hw:B≤w.heap.size)(hn:l.length≤100000):Calls Tryz.prog 350 #[v] w fun e w'=>∃v',e=.returned v'∧w'.ownsRow B 3 1 v' (Lib.compact l).length (flat eI (Lib.compact l))∧Below B w w':=by
 by_cases h0:l.length=0
 ·obtain rfl:l=[]:=List.length_eq_zero_iff.1 h0;obtain ⟨p,a,rfl⟩:=ag h;refine (Tryz.slices_Compact_int_empty p a w).mono ?_;rintro e w' ⟨rfl,rfl⟩;exact ⟨_,rfl,(by rw [show Lib.compact ([]:List Int)=[] from rfl];exact h),zZ _ _⟩
 ·obtain ⟨b,a,i,rfl,f,g,q,j,o,k⟩:=oy h h0;refine (Tryz.slices_Compact_int b 0 a l w (iN g k) (by omega) q).mono ?_;rintro e w' ⟨rfl,n,rfl⟩;have r:=eZ l;have c:=oz (w:=w) (n:=n) #[] f g j o (d:=Lib.compact l++List.replicate (l.length - (Lib.compact l).length) 0) (by simp;omega) (Lib.compact l).length (by simp);rw [List.take_left' rfl,grow_empty] at c;refine ⟨_,rfl,c,?_⟩;have m:=iO (w:=w) (n:=n) (Lib.compact l++List.replicate (l.length - (Lib.compact l).length) 0).toArray #[] f hw;rwa [grow_empty] at m
def onceM (l:List Int):List Int:=Lib.compact (l.mergeSort fun x y=>decide (x≤y))
theorem sN (l:List Int):(onceM l).length≤l.length:=by
 have:=eZ (l.mergeSort fun x y=>decide (x≤y))
 rw [List.length_mergeSort] at this;exact this
theorem kx (v:Value)(l:List Int)(w:World)(hv:Sl eI 1 w v l)(hn:l.length≤100000):Calls Tryz.prog 317 #[v] w (RPo eI 3 1 (onceM l) w):=by
 have j:=aa (rD v l w hv (by omega));obtain ⟨m,k,rfl,_⟩:=hv;have h:=aa hn;clear hn;go_enter Tryz.func317,Tryz.ntmps317;go_wp2_with (first | (go_at_call 88;refine j.o.mono ?_;rintro e w1 ⟨v1,rfl,hown,c1⟩;have i:=aa hown;have b:=ag hown;obtain ⟨n1,k1,rfl⟩:=b;have d:=c1.size;clear hown) | (go_at_call 349;refine (sM i.o d h.o).mono ?_;rintro e w2 ⟨rfl,hown,c2⟩;have f:=aa hown;clear hown;have a:=c1.trans c2) | (go_at_call 350;refine (kt (by rw [List.length_mergeSort];exact f.o) a.size (by rw [List.length_mergeSort];exact h.o)).mono ?_;rintro e w3 ⟨v3,rfl,hown,c3⟩;have b:=ag hown;obtain ⟨n3,k3,rfl⟩:=b;have g:=aa hown;clear hown;have c:=a.trans c3))
 go_ret;exact ⟨_,rfl,g.o,c⟩
theorem eg316:∀args w,(callFunc 316 args).run Tryz.prog w=.ok (.enter 316 args) w:=enters_of Tryz.func316 (by kernel_rfl) rfl
def failP (x:Ob):Bool:=decide (0<x.net)&&decide (x.done<x.net)
theorem pI (w:World):PredObW 316 #[] failP w:=by
 intro W x h;have d:Bw W (W.alloc (.cells (cOb x) 71)):=Bn;show Calls Tryz.prog 316 #[.agg #[.int .i64 x.cycle,.int .i64 x.mem,.int .i64 x.ass,.int .i64 x.net,.int .i64 x.done,.int .i64 x.stt]] W _
 obtain ⟨b,c⟩:∃b,failP x=b:=⟨_,rfl⟩;by_cases hn:0<x.net
 ·by_cases hd:x.done<x.net
  ·have f:=dT hn;have g:=dT hd;have a:Hid (failP x=true):=aa (by unfold failP;simp [hn,hd]);clear hn hd c;go_enter Tryz.func316,Tryz.ntmps316;go_wp2_with fail;go_ret;exact ⟨by rw [a.o];rfl,d⟩
  ·have f:=dT hn;have g:=dF hd;have a:Hid (failP x=false):=aa (by unfold failP;simp [hd]);clear hn hd c;go_enter Tryz.func316,Tryz.ntmps316;go_wp2_with fail;go_ret;exact ⟨by rw [a.o];rfl,d⟩
 ·have f:=dF hn;have a:Hid (failP x=false):=aa (by unfold failP;simp [hn]);clear hn c;go_enter Tryz.func316,Tryz.ntmps316;go_wp2_with fail;go_ret;exact ⟨by rw [a.o];rfl,d⟩
def memF (x:Ob):Option Int:=some x.mem
def failedM (l:List Ob):List Int:=onceM ((l.filterMap (openF failP)).filterMap memF)
theorem mF (v:Value)(ls:List Ob)(w:World)(hv:Sl eOb 6 w v ls)(hn:ls.length≤100000):Calls Tryz.prog 256 #[v] w (RPo eI 3 1 (failedM ls) w):=by
 have y:=aa (iM v ls 316 #[] eg316 _ w (pI w) hv hn);have B:Hid (failedM ls=onceM ((ls.filterMap (openF failP)).filterMap memF)):=aa rfl;have G:(ls.filterMap (openF failP)).length≤100000:=z5 (Ak _ _) hn;obtain ⟨n0,k0,rfl,_⟩:=hv;obtain ⟨i0,hi,hz0,hz1,hz2⟩:=info_parts im;generalize ls.filterMap (openF failP)=l at *;go_enter Tryz.func256,Tryz.ntmps256;go_wp2_with (go_at_call 315;refine y.o.mono ?_;rintro e w1 ⟨v1,rfl,a,c1'⟩;have F:=ag a;obtain ⟨n1,k1,rfl⟩:=F)
 have U:=aa (Sl.own kOb a);have E:=c1';have X:=E.size;clear a c1' y;go_loopw [3,9] (fun vo vi wr=>∃k:Nat,k≤l.length∧vi=.int .i64 k∧wr.ownsRow w1.heap.size 3 1 vo ((l.take k).filterMap memF).length (flat eI ((l.take k).filterMap memF))∧Bw w1 wr) (fun _ vi _=>l.length - (intOf vi).toNat)
 case atStart=>exact ⟨0,Af _,rfl,⟨by simp [flat],Or.inl ⟨rfl,rfl⟩⟩,zZ _ _⟩
 case round=>
  obtain ⟨k,hk,rfl,a,d⟩:=hrel;have I:=aa a;obtain ⟨no,ko,rfl⟩:=ag a;clear a;by_cases hlt:k<l.length
  ·obtain ⟨Q,m,n,_,V,H,s⟩:=U.o;obtain ⟨e1,e2⟩:n1=Q∧k1=m:=by simpa using n
   subst e1 e2;obtain ⟨b,h,rfl,g,z⟩:=s (by omega);obtain ⟨q0,q1,q2,q3,q4,q5⟩:=g8 (z k hlt);have r0:=(d.c (p:=⟨b,h+k * 6,none⟩) g).trans q0;have r1:=(d.c (p:=⟨b,h+k * 6+1,none⟩) g).trans q1;have r2:=(d.c (p:=⟨b,h+k * 6+2,none⟩) g).trans q2;have Y:=(d.c (p:=⟨b,h+k * 6+3,none⟩) g).trans q3;have r4:=(d.c (p:=⟨b,h+k * 6+4,none⟩) g).trans q4;have r5:=(d.c (p:=⟨b,h+k * 6+5,none⟩) g).trans q5;have M:(0:Int)≤(k:Int):=by omega
   have O:(k:Int)<(l.length:Int):=by omega
   unfold maxLen at H;have r:=aa (bC memF l k hlt);have N:((l.take k).filterMap memF).length≤k:=z5 (Ak _ _) (by rw [Aa];omega);clear z q0 q1 q2 q3 q4 q5 s n;generalize (l.take k).filterMap memF=L at *;generalize l[k]=x at *;have j:=d.alloc d.size (.cells (cOb x) 71);have HX:=aa (Blk.new wr 71 (cOb x));have t:=aa (I.o.alloc (.cells (cOb x) 71))
   ·have W:True:=trivial;have S:Hid (L++[x.mem]=(l.take (k+1)).filterMap memF):=aa (by rw [r.o,show memF x=some x.mem from rfl];rfl);clear r;go_wp2_with (first | (at_builtin;refine aq kI (by decide) dL _ rfl _ _ 74 rfl w1.heap.size 3 i0 (.int .i64 0) 8 Tryz.underlying74 hi hz0 hz1 hz2 (by rfl) (.slice no L.length ko) L rfl (t.o.alloc _) (some ⟨wr.heap.size+1,0,none⟩) 1 [x.mem] rfl (Sl.one1b eI kI _ 3 _ (by rfl) _ (by simp)) (by show L.length+1≤maxLen;unfold maxLen;omega) (by show (L.length+1) * 8≤_;omega) (j.alloc j.size (.cells #[.int .i64 x.mem] 3)).size ?_;intro Z w2 a i A;have T:=(j.alloc j.size (.cells #[.int .i64 x.mem] 3)).grown i (j.alloc j.size _).size (fun q hq=>(t.o.lt q hq).1);rw [S.o] at a;obtain ⟨n2,k2,rfl⟩:=ag a;clear i A))
    go_roundw
    case rel=>exact ⟨k+1,by omega,by go_num,a,T⟩
    case measure=>simp [intOf];omega
  ·obtain rfl:k=l.length:=by omega
   have P:¬ ((l.length:Int)<(l.length:Int)):=by omega
   have J:l.take l.length=l:=Ae (zY _);rw [J] at I;have u:(l.filterMap memF).length≤100000:=z5 (Ak _ _) G;have C:=aa (kx _ (l.filterMap memF) wr (Sl.own kI I.o) u);go_wp2_with (go_at_call 317;refine C.o.mono ?_;rintro e w3 ⟨v3,rfl,f,R⟩;have F:=ag f;obtain ⟨n3,k3,rfl⟩:=F;have D:=aa f;clear f)
   go_ret;rw [B.o];have K:=E.trans (d.mono E.size);exact ⟨_,rfl,aw D.o K.size,K.trans (R.mono K.size)⟩
end
end Go.Proofs.YtmhohaanddglbaaGreatDoor
namespace Go.Proofs.YtmhohaanddglbaaGreatDoor
open Go.RowKit
section
attribute [local go_sem ↓] Go.wp_at_zero Go.wp_at_succ
def amtF (x:Lg):Option Int:=some x.amt
theorem wW (l:List Lg):l.filterMap amtF=l.map (·.amt):=by
 induction l with
 | nil=>rfl
 | cons x l ih=>simp [amtF,ih]
theorem cW (v:Value)(l:List Lg)(w:World)(hv:Sl eLg 3 w v l)(hn:l.length≤100000):Calls Tryz.prog 296 #[v] w (RPo eI 2 1 (l.map (·.amt)) w):=by
 rw [←wW];have K:=aa hv;obtain ⟨O,C,rfl,_⟩:=hv;obtain ⟨i0,hi,hz0,hz1,hz2⟩:=info_parts cT;have y:Bw w w:=zZ _ _;go_enter Tryz.func296,Tryz.ntmps296;go_wp2_with fail;go_loopw [3,8] (fun vo vi wr=>∃k:Nat,k≤l.length∧vi=.int .i64 k∧wr.ownsRow w.heap.size 2 1 vo ((l.take k).filterMap amtF).length (flat eI ((l.take k).filterMap amtF))∧Bw w wr) (fun _ vi _=>l.length - (intOf vi).toNat)
 case atStart=>exact ⟨0,Af _,rfl,⟨by simp [flat],Or.inl ⟨rfl,rfl⟩⟩,zZ _ _⟩
 case round=>
  obtain ⟨k,R,rfl,a,d⟩:=hrel;have A:=aa a;obtain ⟨no,ko,rfl⟩:=ag a;clear a;by_cases hlt:k<l.length
  ·obtain ⟨H,j,m,_,M,z,r⟩:=K.o;obtain ⟨e1,e2⟩:O=H∧C=j:=by simpa using m
   subst e1 e2;obtain ⟨b,h,rfl,g,t⟩:=r (by omega);obtain ⟨q0,q1,q2⟩:=ch (t k hlt);have S:=(d.c (p:=⟨b,h+k * 3,none⟩) g).trans q0;have Q:=(d.c (p:=⟨b,h+k * 3+1,none⟩) g).trans q1;have T:=(d.c (p:=⟨b,h+k * 3+2,none⟩) g).trans q2;have D:(0:Int)≤(k:Int):=by omega
   have F:(k:Int)<(l.length:Int):=by omega
   unfold maxLen at z;have n:=aa (bC amtF l k hlt);have E:((l.take k).filterMap amtF).length≤k:=z5 (Ak _ _) (by rw [Aa];omega);clear t q0 q1 q2 r m;generalize (l.take k).filterMap amtF=L at *;generalize l[k]=x at *;have i:=d.alloc d.size (.cells (cLg x) 120);have V:=aa (Blk.new wr 120 (cLg x));have s:=aa (A.o.alloc (.cells (cLg x) 120))
   ·have N:True:=trivial;have I:Hid (L++[x.amt]=(l.take (k+1)).filterMap amtF):=aa (by rw [n.o,show amtF x=some x.amt from rfl];rfl);clear n;go_wp2_with (first | (at_builtin;refine aq kI (by decide) dL _ rfl _ _ 45 rfl w.heap.size 2 i0 (.int .i64 0) 8 Tryz.underlying45 hi hz0 hz1 hz2 (by rfl) (.slice no L.length ko) L rfl (s.o.alloc _) (some ⟨wr.heap.size+1,0,none⟩) 1 [x.amt] rfl (Sl.one1b eI kI _ 2 _ (by rfl) _ (by simp)) (by show L.length+1≤maxLen;unfold maxLen;omega) (by show (L.length+1) * 8≤_;omega) (i.alloc i.size (.cells #[.int .i64 x.amt] 2)).size ?_;intro P U a f u;have J:=(i.alloc i.size (.cells #[.int .i64 x.amt] 2)).grown f (i.alloc i.size _).size (fun q hq=>(s.o.lt q hq).1);rw [I.o] at a;obtain ⟨n2,k2,rfl⟩:=ag a;clear f u))
    go_roundw
    case rel=>exact ⟨k+1,by omega,by go_num,a,J⟩
    case measure=>simp [intOf];omega
  ·obtain rfl:k=l.length:=by omega
   have G:¬ ((l.length:Int)<(l.length:Int)):=by omega
   have B:l.take l.length=l:=Ae (zY _);rw [B] at A;go_wp2_with fail;go_ret;exact ⟨_,rfl,aw A.o y.size,y.trans (d.mono y.size)⟩
def zLg:Lg:=⟨0,0,0⟩
def okAt (l:List Lg)(i:Nat):Bool:=decide (1≤(l.getD i zLg).amt)&&decide ((l.getD i zLg).ass=(l.getD 0 zLg).ass)&&(decide (i=0)||decide ((l.getD (i - 1) zLg).mem<(l.getD i zLg).mem))
def okLegs (l:List Lg):Bool:=(List.range l.length).all (okAt l)
def acM (l:List Lg):Int:=if 1024<l.length then 6 else if okLegs l then (sumM (l.map (·.amt))).2 else 1
theorem mG {l:List Lg}(h:∀j,j<l.length→okAt l j=true):okLegs l=true:=by
 unfold okLegs;rw [List.all_eq_true];intro j a;exact h j (by simpa using a)
theorem pJ {l:List Lg}{j:Nat}(hj:j<l.length)(h:okAt l j=false):okLegs l=false:=by
 unfold okLegs;rw [List.all_eq_false];exact ⟨j,by simpa using hj,by simp [h]⟩
theorem sO {l:List Lg}(h:∀x∈l,In64 x.amt):All64 (l.map (·.amt)):=by
 intro n a;obtain ⟨x,hx,rfl⟩:=AD.1 a;exact h x hx
theorem cL (v:Value)(l:List Lg)(w:World)(hv:Sl eLg 3 w v l)(hn:l.length≤100000)(h64:∀x∈l,In64 x.amt):Calls Tryz.prog 295 #[v] w fun e w'=>e=.returned (.int .i64 (acM l))∧Bw w w':=by
 have L:=aa (sO h64);have S:=aa hv;obtain ⟨n1,U,rfl,_⟩:=hv;clear h64;by_cases hbig:1024<l.length
 ·have hb:=dT (show (1024:Int)<(l.length:Int) by omega);have J:Hid (acM l=6):=aa (by unfold acM;rw [if_pos hbig]);clear hbig;go_enter Tryz.func295,Tryz.ntmps295;go_wp2_with fail;go_ret;exact ⟨by rw [J.o];rfl,zZ _ _⟩
 ·have hb:=dF (show ¬ (1024:Int)<(l.length:Int) by omega);have J:Hid (acM l=if okLegs l then (sumM (l.map (·.amt))).2 else 1):=aa (by unfold acM;rw [if_neg hbig]);clear hbig;go_enter Tryz.func295,Tryz.ntmps295;go_wp2_with fail;go_loopw [12] (fun vi wr=>∃k:Nat,k≤l.length∧vi=.int .i64 k∧Bw w wr∧∀j,j<k→okAt l j=true) (fun vi _=>l.length - (intOf vi).toNat)
  case atStart=>exact ⟨0,Af _,rfl,zZ _ _,fun j A=>absurd A (by omega)⟩
  case round=>
   obtain ⟨k,hk,rfl,a,I⟩:=hrel;have s:=aa I;clear I;by_cases hlt:k<l.length
   ·obtain ⟨a',B,D,_,ae,N,E⟩:=S.o;obtain ⟨T,Q⟩:n1=a'∧U=B:=by simpa using D
    subst T Q;obtain ⟨b,d,rfl,q,r⟩:=E (by omega);obtain ⟨q0,q1,q2⟩:=ch (r k hlt);have r0:=(a.c (p:=⟨b,d+k * 3,none⟩) q).trans q0;have r1:=(a.c (p:=⟨b,d+k * 3+1,none⟩) q).trans q1;have r2:=(a.c (p:=⟨b,d+k * 3+2,none⟩) q).trans q2;have V:(0:Int)≤(k:Int):=by omega
    have ab:(k:Int)<(l.length:Int):=by omega
    have af:(0:Int)<(l.length:Int):=by omega
    unfold maxLen at N;obtain ⟨p0,R,Y⟩:=ch (r 0 (by omega));have s1:(wr.alloc (.cells (cLg l[k]) 120)).cell? ⟨b,d+1,none⟩=some (.int .i64 (l[0]'(by omega)).ass):=by
     have:=((zZ wr.heap.size wr).alloc (zY _) (.cells (cLg l[k]) 120)).c (p:=⟨b,d+1,none⟩) (by have:=a.size;show b<wr.heap.size;omega)
     rw [this];have h:=(a.c (p:=⟨b,d+1,none⟩) q).trans (by simpa using R);exact h
    have O:=aa (Blk.new wr 120 (cLg l[k]));have x0:=O.o.c 0;have x1:=O.o.c 1;have x2:=O.o.c 2;have G:=a.alloc a.size (.cells (cLg l[k]) 120);have H:l.getD 0 zLg=l[0]'(by omega):=by rw [Ah,Ab (by omega)];rfl
    have F:l.getD k zLg=l[k]:=by rw [Ah,Ab hlt];rfl
    have C:Hid (∀j,k=j+1→∃y:Lg,(wr.alloc (.cells (cLg l[k]) 120)).cell? ⟨b,d+j * 3,none⟩=some (.int .i64 y.mem)∧l.getD j zLg=y):=aa (by
     rintro j rfl;obtain ⟨y0,_,_⟩:=ch (r j (by omega));refine ⟨l[j]'(by omega),?_,by rw [Ah,Ab (by omega)];rfl⟩;have:=((zZ wr.heap.size wr).alloc (zY _) (.cells (cLg l[j+1]) 120)).c (p:=⟨b,d+j * 3,none⟩) (by have:=a.size;show b<wr.heap.size;omega)
     rw [this];exact (a.c (p:=⟨b,d+j * 3,none⟩) q).trans y0)
    have m:Hid (okAt l k=(decide (1≤l[k].amt)&&decide (l[k].ass=(l[0]'(by omega)).ass)&&(decide (k=0)||decide ((l.getD (k - 1) zLg).mem<l[k].mem)))):=aa (by unfold okAt;rw [H,F]);have t:Hid (okAt l k=false→acM l=1):=aa (fun h=>by rw [J.o,pJ hlt h];rfl);clear r q0 q1 q2 p0 R Y E D H F;generalize l[k]=x at *;generalize (l[0]'(by omega))=z at *;by_cases t1:x.amt<1
    ·have d1:=dT t1;have n:Hid (acM l=1):=aa (t.o (by rw [m.o];simp;intro h;omega));clear t1;go_wp2_with fail;go_region
     go_wp2_with fail;go_ret;exact ⟨by rw [n.o];rfl,G.drew⟩
    ·have d1:=dF t1;by_cases t2:x.ass=z.ass
     rotate_left
     ·have W:(x.ass != z.ass)=true:=by simpa using t2
      have n:Hid (acM l=1):=aa (t.o (by rw [m.o];simp [t2]));clear t1 t2;go_wp2_with fail;go_region
      go_wp2_with fail;go_ret;exact ⟨by rw [n.o];rfl,G.drew⟩
     ·have W:(x.ass != z.ass)=false:=by simpa using t2
      rcases Nat.eq_zero_or_pos k with k0 | k0
      ·have X:decide ((0:Int)<(k:Int))=false:=dF (by omega);have ad:decide (0<k)=false:=dF (by omega);have ai:¬ 0<k:=by omega
       have n:Hid (okAt l k=true):=aa (by rw [m.o];simp [t2,k0];omega);clear t1 t2 k0;go_wp2_with fail;go_region
       go_wp2_with fail;go_roundw
       case rel=>exact ⟨k+1,by omega,by go_num,G.drew,fun j A=>by
        rcases Az j k with h | h
        ·exact s.o j h
        ·obtain rfl:j=k:=by omega
         exact n.o⟩
       case measure=>simp [intOf];omega
      ·obtain ⟨j,A⟩:∃j,k=j+1:=⟨k - 1,by omega⟩;obtain ⟨y,hy,hgy⟩:=C.o j A;have X:decide ((0:Int)<(k:Int))=true:=dT (by omega);have d4:wrap64 ((k:Int) - 1)=(j:Int):=by unfold wrap64;omega
       have ah:IntKind.i64.wrap ((k:Int) - 1)=(j:Int):=by rw [show (k:Int) - 1=(j:Int) by omega];exact Ax _ (by omega)
       have T:(0:Int)≤(j:Int):=by omega
       have Q:(j:Int)<(l.length:Int):=by omega
       have f:l.getD (k - 1) zLg=y:=by rw [A];exact hgy
       by_cases t3:x.mem≤y.mem
       ·have d5:=dT t3;have n:Hid (acM l=1):=aa (t.o (by rw [m.o,f];simp [t2];intro _;omega));clear t1 t2 t3 hgy f A;go_wp2_with fail;go_region
        go_wp2_with fail;go_ret;exact ⟨by rw [n.o];rfl,G.drew⟩
       ·have d5:=dF t3;have n:Hid (okAt l k=true):=aa (by rw [m.o,f];simp [t2];omega);clear t1 t2 t3 hgy f A;go_wp2_with fail;go_region
        go_wp2_with fail;go_roundw
        case rel=>exact ⟨k+1,by omega,by go_num,G.drew,fun i hi=>by
         rcases Az i k with h | h
         ·exact s.o i h
         ·obtain rfl:i=k:=by omega
          exact n.o⟩
        case measure=>simp [intOf];omega
   ·obtain rfl:k=l.length:=by omega
    have ac:¬ ((l.length:Int)<(l.length:Int)):=by omega
    have n:Hid (acM l=(sumM (l.map (·.amt))).2):=aa (by rw [J.o,mG s.o];rfl);have M:=aa (cW _ l wr (S.o.keep a) hn);go_wp2_with (first | (go_at_call 296;refine M.o.mono ?_;rintro e Z ⟨v3,rfl,g,c3⟩;have hf:=ag g;obtain ⟨n3,k3,rfl⟩:=hf;have u:=aW _ (l.map (·.amt)) Z (Sl.own kI g) L.o (by rw [Ad];omega);rw [Ad] at u;have K:=aa u;clear u;have P:=a.trans (c3.mono a.size);clear g) | (go_at_call 230;refine K.o.mono ?_;rintro e w4 ⟨rfl,c4⟩;have b4:=P.trans (c4.mono P.size)))
    go_ret;exact ⟨by rw [n.o];rfl,b4⟩
theorem sP (l:List Int):In64 (sumM l).1:=by
 unfold sumM fitM;split
 ·assumption
 ·unfold In64;simp
def asumM (l:List Lg):Int×Int:=if acM l≠0 then (0,acM l) else sumM (l.map (·.amt))
theorem et (v:Value)(l:List Lg)(w:World)(hv:Sl eLg 3 w v l)(hn:l.length≤100000)(h64:∀x∈l,In64 x.amt):Calls Tryz.prog 245 #[v] w fun e w'=>e=.returned (.tuple #[.int .i64 (asumM l).1,.int .i64 (asumM l).2])∧Bw w w':=by
 have g:=aa (sO h64);have q:=aa hv;have b:=aa (cL v l w hv hn h64);have k:=aa hn;obtain ⟨t,r,rfl,_⟩:=hv;obtain ⟨y,hy⟩:∃y,acM l=y:=⟨_,rfl⟩;have d:=aa hy;clear h64 hn hy;by_cases h0:y=0
 ·have i:Hid (asumM l=sumM (l.map (·.amt))):=aa (by unfold asumM;rw [d.o,h0];rfl);subst h0;go_enter Tryz.func245,Tryz.ntmps245;go_wp2_with (first | (go_at_call 295;refine b.o.mono ?_;rintro e j ⟨rfl,c⟩;rw [d.o];have h:=aa (cW _ l j (q.o.keep c) k.o)) | (go_at_call 296;refine h.o.mono ?_;rintro e w3 ⟨v3,rfl,hown,c3⟩;have n:=ag hown;obtain ⟨n3,k3,rfl⟩:=n;have a:=aW _ (l.map (·.amt)) w3 (Sl.own kI hown) g.o (by rw [Ad];exact z5 k.o (by omega));rw [Ad] at a;have f:=aa a;clear a;have m:=c.trans (c3.mono c.size);clear hown) | (go_at_call 230;refine f.o.mono ?_;rintro e w4 ⟨rfl,c4⟩;have p:=m.trans (c4.mono m.size)))
  go_ret2;exact ⟨by rw [i.o];rfl,p⟩
 ·have i:Hid (asumM l=(0,y)):=aa (by unfold asumM;rw [d.o,if_pos h0]);have s:(y != 0)=true:=by simpa using h0
  clear h0;go_enter Tryz.func245,Tryz.ntmps245;go_wp2_with (go_at_call 295;refine b.o.mono ?_;rintro e j ⟨rfl,c⟩;rw [d.o])
  go_ret2;exact ⟨by rw [i.o];rfl,c⟩
def ashortM (a:Int)(l:List Lg):Int×Int:=if (asumM l).2≠0 then (0,(asumM l).2) else if a<0 then (0,1) else (overM (asumM l).1 a,0)
theorem wX {l:List Lg}(h:∀x∈l,In64 x.amt):In64 (asumM l).1:=by
 unfold asumM;split
 ·unfold In64;simp
 ·exact sP _
theorem gi (a:Int)(ha:In64 a)(v:Value)(l:List Lg)(w:World)(hv:Sl eLg 3 w v l)(hn:l.length≤100000)(h64:∀x∈l,In64 x.amt):Calls Tryz.prog 202 #[.int .i64 a,v] w fun e w'=>e=.returned (.tuple #[.int .i64 (ashortM a l).1,.int .i64 (ashortM a l).2])∧Bw w w':=by
 have c:=aa (et v l w hv hn h64);have d:=aa (wX h64);have k:=aa ha;obtain ⟨p,m,rfl,_⟩:=hv;obtain ⟨⟨y,z⟩,hy⟩:∃y,asumM l=y:=⟨_,rfl⟩;have b:=aa hy;clear h64 hn hy ha;by_cases h0:z=0
 ·subst h0;by_cases hneg:a<0
  ·have g:Hid (ashortM a l=(0,1)):=aa (by unfold ashortM;rw [b.o];simp [hneg]);have j:=dT hneg;clear hneg;go_enter Tryz.func202,Tryz.ntmps202;go_wp2_with (go_at_call 245;refine c.o.mono ?_;rintro e i ⟨rfl,h⟩;rw [b.o])
   go_ret2;exact ⟨by rw [g.o];rfl,h⟩
  ·have g:Hid (ashortM a l=(overM y a,0)):=aa (by unfold ashortM;rw [b.o];simp [hneg]);have j:=dF hneg;have f:Hid (In64 y):=aa (by have:=d.o;rw [b.o] at this;exact this);clear hneg;go_enter Tryz.func202,Tryz.ntmps202;go_wp2_with (first | (go_at_call 245;refine c.o.mono ?_;rintro e i ⟨rfl,h⟩;rw [b.o]) | (go_at_call 166;refine (fI y a f.o k.o _).mono ?_;rintro e w2 ⟨rfl,rfl⟩))
   go_ret2;exact ⟨by rw [g.o];rfl,h⟩
 ·have g:Hid (ashortM a l=(0,z)):=aa (by unfold ashortM;rw [b.o,if_pos h0]);have n:(z != 0)=true:=by simpa using h0
  clear h0;go_enter Tryz.func202,Tryz.ntmps202;go_wp2_with (go_at_call 245;refine c.o.mono ?_;rintro e i ⟨rfl,h⟩;rw [b.o])
  go_ret2;exact ⟨by rw [g.o];rfl,h⟩
end
end Go.Proofs.YtmhohaanddglbaaGreatDoor
