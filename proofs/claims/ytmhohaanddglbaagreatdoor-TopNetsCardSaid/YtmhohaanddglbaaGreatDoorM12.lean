/- Texts of the proof of TopNets, joined: Ref11, Ref12, Ref13, Ref6, Ref5, TopN, TopN2, OpenC, OpenC2. -/
import Derived.Test.YtmhohaanddglbaaGreatDoorM04
import Derived.Test.YtmhohaanddglbaaGreatDoorM06
import Derived.Test.YtmhohaanddglbaaGreatDoorM07
import Derived.Test.YtmhohaanddglbaaGreatDoorM08
import Derived.Test.YtmhohaanddglbaaGreatDoorM09
import Derived.Test.YtmhohaanddglbaaGreatDoorM10
import Derived.Test.YtmhohaanddglbaaGreatDoorM11
import Derived.Deep.Slices
import Derived.Deep.Fields
import Derived.ChangeSame
import Derived.Lib.SmallJoins
set_option linter.all false
set_option maxRecDepth 100000
set_option maxHeartbeats 16000000
namespace Go.Proofs.YtmhohaanddglbaaGreatDoor
open Go.RowKit
section
attribute [local go_sem ↓] Go.wp_at_zero Go.wp_at_succ
def RLegsPost (t:Tr)(w:World)(e:Ending)(w':World):Prop:=∃v,e=.returned (.tuple #[v,.int .i64 0])∧w'.ownsRow w.heap.size 120 3 v 4 (flat eLg (lg4 t))∧Bw w w'
theorem re (t:Tr)(h:TrGood t)(w:World):Calls Tryz.prog 53 #[vTr t] w (RLegsPost t w):=by
 obtain ⟨l,n⟩:∃l,w.alloc (.cells (cTr t) 58)=l:=⟨_,rfl⟩;have M:Bw w l:=by rw [←n];exact Bn
 have L:=aa (fun w=>gX t.qty t.prc h.fit.q h.fit.p w);have z:=aa M;have d:Hid (Blk l w.heap.size 58 (cTr t)):=aa (by rw [←n];exact Blk.new w 58 (cTr t));have Q:=aa n;obtain ⟨⟨v,R⟩,J⟩:∃r,fitM (t.qty * t.prc)=r:=⟨_,rfl⟩;have I:=h.val;have H:=h.v0;have O:=h.q0;have A:valM t=(v,R):=J;rw [A] at I H;dsimp only at I H;subst I;have P:Hid (lg4 t=[⟨t.byr,0,v⟩,⟨t.byr,t.sec,-t.qty⟩,⟨t.slr,0,-v⟩,⟨t.slr,t.sec,t.qty⟩]):=aa (by unfold lg4;rw [A]);rw [J] at L;have U:(v==-9223372036854775808)=false:=by simp;omega
 have X:(t.qty==-9223372036854775808)=false:=by simp;omega
 have W:wrap64 (-v)=-v:=by unfold wrap64;omega
 have N:wrap64 (-t.qty)=-t.qty:=by unfold wrap64;omega
 have T:Hid (∀u w',w'.ownsRow w.heap.size 120 3 u 4 (flat eLg (lg4 t))→Bw w w'→RLegsPost t w (.returned (.tuple #[u,.int .i64 0])) w'):=aa (fun u w' g1 g2=>⟨u,rfl,g1,g2⟩);obtain ⟨F,G,m,s,x⟩:=info_parts bt;clear h J A H O M n;go_enter Tryz.func53,Tryz.ntmps53;go_wp2_with fail;rw [show w.alloc (.cells #[.int .i64 t.id,.int .i64 t.byr,.int .i64 t.slr,.int .i64 t.sec,.int .i64 t.qty,.int .i64 t.prc] 58)=l from Q.o];refine (L.o _).mono ?_;rintro e w1 ⟨rfl,c1⟩;have g:=c1;obtain ⟨p0,p1,p2,p3,p4,p5⟩:_∧_∧_∧_∧_∧_:=⟨(d.o.keep g).c 0,(d.o.keep g).c 1,(d.o.keep g).c 2,(d.o.keep g).c 3,(d.o.keep g).c 4,(d.o.keep g).c 5⟩;have D:Hid (w1.ownsRow l.heap.size 120 3 (.slice none 0 0) ([]:List Lg).length (flat eLg [])):=aa ⟨by simp [flat],Or.inl ⟨rfl,rfl⟩⟩;clear c1
 go_wp2_with (first | (at_builtin;refine aq kLg (by decide) bL _ rfl _ _ 66 rfl l.heap.size 120 F (.agg #[.int .i64 0,.int .i64 0,.int .i64 0]) 24 Tryz.underlying66 G m s x (by rfl) (.slice none 0 0) [] rfl (D.o.alloc _) (some ⟨w1.heap.size,0,none⟩) 1 [⟨t.byr,0,v⟩] rfl (Sl.one1b eLg kLg _ 120 _ (by rfl) _ rfl) (by show 0+1≤maxLen;unfold maxLen;omega) (by show (0+1) * 24≤_;omega) (g.alloc g.size (.cells #[.int .i64 t.byr,.int .i64 0,.int .i64 v] 120)).size ?_;intro V S a b f;have j:=(g.alloc g.size (.cells #[.int .i64 t.byr,.int .i64 0,.int .i64 v] 120)).grown b (g.alloc g.size _).size (fun q hq=>(D.o.lt q hq).1);have B:=aa a;obtain ⟨N,k2,rfl⟩:=ag a;obtain ⟨p0,p1,p2,p3,p4,p5⟩:_∧_∧_∧_∧_∧_:=⟨(d.o.keep j).c 0,(d.o.keep j).c 1,(d.o.keep j).c 2,(d.o.keep j).c 3,(d.o.keep j).c 4,(d.o.keep j).c 5⟩;clear b f a) | (at_builtin;refine aq kLg (by decide) bL _ rfl _ _ 66 rfl l.heap.size 120 F (.agg #[.int .i64 0,.int .i64 0,.int .i64 0]) 24 Tryz.underlying66 G m s x (by rfl) (.slice N 1 k2) [⟨t.byr,0,v⟩] rfl (B.o.alloc _) (some ⟨S.heap.size,0,none⟩) 1 [⟨t.byr,t.sec,-t.qty⟩] rfl (Sl.one1b eLg kLg _ 120 _ (by rfl) _ rfl) (by show 1+1≤maxLen;unfold maxLen;omega) (by show (1+1) * 24≤_;omega) (j.alloc j.size (.cells #[.int .i64 t.byr,.int .i64 t.sec,.int .i64 (-t.qty)] 120)).size ?_;intro v3 w3 a b f;have i:=(j.alloc j.size (.cells #[.int .i64 t.byr,.int .i64 t.sec,.int .i64 (-t.qty)] 120)).grown b (j.alloc j.size _).size (fun q hq=>(B.o.lt q hq).1);have C:=aa a;obtain ⟨n3,k3,rfl⟩:=ag a;obtain ⟨p0,p1,p2,p3,p4,p5⟩:_∧_∧_∧_∧_∧_:=⟨(d.o.keep i).c 0,(d.o.keep i).c 1,(d.o.keep i).c 2,(d.o.keep i).c 3,(d.o.keep i).c 4,(d.o.keep i).c 5⟩;clear b f a) | (at_builtin;refine aq kLg (by decide) bL _ rfl _ _ 66 rfl l.heap.size 120 F (.agg #[.int .i64 0,.int .i64 0,.int .i64 0]) 24 Tryz.underlying66 G m s x (by rfl) (.slice n3 2 k3) [⟨t.byr,0,v⟩,⟨t.byr,t.sec,-t.qty⟩] rfl (C.o.alloc _) (some ⟨w3.heap.size,0,none⟩) 1 [⟨t.slr,0,-v⟩] rfl (Sl.one1b eLg kLg _ 120 _ (by rfl) _ rfl) (by show 2+1≤maxLen;unfold maxLen;omega) (by show (2+1) * 24≤_;omega) (i.alloc i.size (.cells #[.int .i64 t.slr,.int .i64 0,.int .i64 (-v)] 120)).size ?_;intro v4 w4 a b f;have k:=(i.alloc i.size (.cells #[.int .i64 t.slr,.int .i64 0,.int .i64 (-v)] 120)).grown b (i.alloc i.size _).size (fun q hq=>(C.o.lt q hq).1);have E:=aa a;obtain ⟨n4,k4,rfl⟩:=ag a;obtain ⟨p0,p1,p2,p3,p4,p5⟩:_∧_∧_∧_∧_∧_:=⟨(d.o.keep k).c 0,(d.o.keep k).c 1,(d.o.keep k).c 2,(d.o.keep k).c 3,(d.o.keep k).c 4,(d.o.keep k).c 5⟩;clear b f a) | (at_builtin;refine aq kLg (by decide) bL _ rfl _ _ 66 rfl l.heap.size 120 F (.agg #[.int .i64 0,.int .i64 0,.int .i64 0]) 24 Tryz.underlying66 G m s x (by rfl) (.slice n4 3 k4) [⟨t.byr,0,v⟩,⟨t.byr,t.sec,-t.qty⟩,⟨t.slr,0,-v⟩] rfl (E.o.alloc _) (some ⟨w4.heap.size,0,none⟩) 1 [⟨t.slr,t.sec,t.qty⟩] rfl (Sl.one1b eLg kLg _ 120 _ (by rfl) _ rfl) (by show 3+1≤maxLen;unfold maxLen;omega) (by show (3+1) * 24≤_;omega) (k.alloc k.size (.cells #[.int .i64 t.slr,.int .i64 t.sec,.int .i64 t.qty] 120)).size ?_;intro v5 w5 a b f;have y:=(k.alloc k.size (.cells #[.int .i64 t.slr,.int .i64 t.sec,.int .i64 t.qty] 120)).grown b (k.alloc k.size _).size (fun q hq=>(E.o.lt q hq).1);have K:=aa a;obtain ⟨n5,k5,rfl⟩:=ag a;obtain ⟨p0,p1,p2,p3,p4,p5⟩:_∧_∧_∧_∧_∧_:=⟨(d.o.keep y).c 0,(d.o.keep y).c 1,(d.o.keep y).c 2,(d.o.keep y).c 3,(d.o.keep y).c 4,(d.o.keep y).c 5⟩;clear b f a))
 go_ret2;exact T.o _ _ (by rw [P.o];exact aw K.o z.o.size) (z.o.trans (y.mono z.o.size))
theorem cG {w:World}{B b cap n:Nat}{l:List Tr}(hn:l.length=n)(h:w.ownsRow B 58 6 (.slice (some ⟨b,0,none⟩) n cap) n (flat eTr l))(i:Nat)(hi:i<n)(j:Nat)(hj:j<6)(v:Value)(x':Tr)(he:∀y,l[i]?=some y→eTr x'=(eTr y).set j v) :
  (w.setCell ⟨b,i * 6+j,none⟩ v).ownsRow B 58 6 (.slice (some ⟨b,0,none⟩) n cap) n (flat eTr (l.set i x')):=by
 subst hn;exact kn kTr h i hi j hj v x' (he _ (Ab hi))
theorem lV {w:World}{B b cap n:Nat}{l:List Tr}(hn:l.length=n)(h:w.ownsRow B 58 6 (.slice (some ⟨b,0,none⟩) n cap) n (flat eTr l))(i:Nat)(hi:i<n)(x:Tr) :
  ((((((w.setCell ⟨b,i * 6,none⟩ (.int .i64 x.id)).setCell ⟨b,i * 6+1,none⟩ (.int .i64 x.byr)).setCell ⟨b,i * 6+2,none⟩ (.int .i64 x.slr)).setCell ⟨b,i * 6+3,none⟩ (.int .i64 x.sec)).setCell ⟨b,i * 6+4,none⟩ (.int .i64 x.qty)).setCell ⟨b,i * 6+5,none⟩ (.int .i64 x.prc)).ownsRow B 58 6 (.slice (some ⟨b,0,none⟩) n cap) n (flat eTr (l.set i x)):=by
 have a:i<l.length:=by omega
 obtain ⟨y,k⟩:∃y,l[i]?=some y:=⟨_,Ab a⟩;have s:∀z:Tr,(l.set i z)[i]?=some z:=fun z=>by rw [List.getElem?_set_self a]
 have m:=cG hn h i hi 0 (by decide) (.int .i64 x.id) ⟨x.id,y.byr,y.slr,y.sec,y.qty,y.prc⟩ (fun z hz=>by rw [k] at hz;cases hz;rfl);have f:=cG (by rw [AH];exact hn) m i hi 1 (by decide) (.int .i64 x.byr) ⟨x.id,x.byr,y.slr,y.sec,y.qty,y.prc⟩ (fun z hz=>by rw [s] at hz;cases hz;rfl);rw [List.set_set] at f;have c:=cG (by rw [AH];exact hn) f i hi 2 (by decide) (.int .i64 x.slr) ⟨x.id,x.byr,x.slr,y.sec,y.qty,y.prc⟩ (fun z hz=>by rw [s] at hz;cases hz;rfl);rw [List.set_set] at c;have j:=cG (by rw [AH];exact hn) c i hi 3 (by decide) (.int .i64 x.sec) ⟨x.id,x.byr,x.slr,x.sec,y.qty,y.prc⟩ (fun z hz=>by rw [s] at hz;cases hz;rfl);rw [List.set_set] at j;have d:=cG (by rw [AH];exact hn) j i hi 4 (by decide) (.int .i64 x.qty) ⟨x.id,x.byr,x.slr,x.sec,x.qty,y.prc⟩ (fun z hz=>by rw [s] at hz;cases hz;rfl);rw [List.set_set] at d;have g:=cG (by rw [AH];exact hn) d i hi 5 (by decide) (.int .i64 x.prc) x (fun z hz=>by rw [s] at hz;cases hz;rfl);rw [List.set_set] at g;exact g
theorem yD (A Bs:List Tr)(y x:Tr):((A++y :: x :: Bs).set A.length x).set (A.length+1) y=A++x :: y :: Bs:=by
 have e:A.length+1 - A.length=1:=by omega
 rw [List.set_append_right _ _ (zY _),Nat.sub_self,z6,List.set_append_right _ _ (show A.length≤A.length+1 by omega),e,z7,z6]
theorem vP {A Bs:List Tr}{x:Tr}(h:Rsg Tr.id (A++Bs))(hx:x.id∉(A++Bs).map (·.id))(hB:∀b∈Bs,x.id<b.id)(hA:∀y,A.getLast?=some y→y.id≤x.id):Rsg Tr.id (A++x :: Bs):=by
 unfold Rsg at h ⊢;rw [List.pairwise_append] at h ⊢;obtain ⟨f,j,k⟩:=h;have g:∀a∈A,a.id<x.id:=by
  intro a c;have i:a.id≠x.id:=fun e=>hx (AD.2 ⟨a,List.mem_append_left _ c,e⟩)
  rcases List.eq_nil_or_concat A with rfl | ⟨A',z,rfl⟩
  ·simp at c
  ·have l:=hA z (by simp);rw [List.concat_eq_append] at f c;rw [List.pairwise_append] at f;rcases AJ.1 c with c | c
   ·have:=f.2.2 a c z (by simp)
    omega
   ·obtain rfl:a=z:=by simpa using c
    omega
 refine ⟨f,?_,?_⟩
 ·rw [List.pairwise_cons];exact ⟨fun b d=>hB b d,j⟩
 ·intro a c b d;rcases Aq.1 d with rfl | d
  ·exact g a c
  ·exact k a c b d
structure Bub (T0:List Tr)(x:Tr)(k:Nat)(L:List Tr):Prop where
 is:∃A Bs,A.length=k∧T0=A++Bs∧L=A++x :: Bs∧∀b∈Bs,x.id<b.id
theorem Bub.start (T0:List Tr)(x:Tr):Bub T0 x T0.length (T0++[x]):=⟨T0,[],rfl,by simp,rfl,by simp⟩
theorem Bub.at {T0 L:List Tr}{x:Tr}{k:Nat}(h:Bub T0 x k L):L.length=T0.length+1∧k≤T0.length∧L[k]?=some x:=by
 obtain ⟨A,a,rfl,rfl,rfl,_⟩:=h.is;refine ⟨by simp;omega,by simp,?_⟩;rw [AK (zY _),Nat.sub_self];rfl
theorem Bub.next {T0 L:List Tr}{x y:Tr}{k:Nat}(h:Bub T0 x (k+1) L)(hy:L[k]?=some y)(hlt:x.id<y.id):Bub T0 x k ((L.set k x).set (k+1) y):=by
 obtain ⟨A,a,d,rfl,rfl,f⟩:=h.is;rcases List.eq_nil_or_concat A with rfl | ⟨A',z,rfl⟩
 ·simp at d
 ·obtain rfl:A'.length=k:=by simpa using d
  have g:z=y:=by simpa using hy
  subst g;refine ⟨A',z :: a,rfl,by simp,?_,?_⟩
  ·have e:A'.concat z++x :: a=A'++z :: x :: a:=by simp
   rw [e,yD]
  ·intro b c;rcases Aq.1 c with rfl | c
   ·exact hlt
   ·exact f b c
theorem Bub.done {T0 L:List Tr}{x:Tr}{k:Nat}(h:Bub T0 x k L)(hr:Rsg Tr.id T0)(hx:x.id∉T0.map (·.id))(hk:∀j y,j+1=k→L[j]?=some y→y.id≤x.id):Rsg Tr.id L∧L.Perm (T0++[x]):=by
 obtain ⟨A,d,c,rfl,rfl,b⟩:=h.is;refine ⟨vP hr hx b ?_,?_⟩
 ·intro y a;rcases List.eq_nil_or_concat A with rfl | ⟨A',z,rfl⟩
  ·simp at a
  ·obtain rfl:z=y:=by simpa using a
   exact hk A'.length z (by simpa using c) (by simp)
 ·rw [Au];exact List.Perm.append_left A (List.perm_append_comm (l₁:=[x]))
theorem vQ {w:World}{base:Nat}{e:TypeId}{size:Nat}{v:Value}{n:Nat}{xs:List Value}(h:w.ownsRow base e size v n xs)(hn:0<n):∃b c,v=.slice (some ⟨b,0,none⟩) n c:=by
 obtain ⟨_,a⟩:=h;rcases a with ⟨rfl,rfl⟩ | ⟨g,cap,cur,rfl,_⟩
 ·omega
 ·exact ⟨_,_,rfl⟩
theorem vR {w:World}{base:Nat}{e:TypeId}{size:Nat}{b n m c:Nat}{xs:List Value}(h:w.ownsRow base e size (.slice (some ⟨b,0,none⟩) n c) m xs):base≤b:=by
 obtain ⟨_,a⟩:=h;rcases a with ⟨h,_⟩ | ⟨g,cap',cur,hv,hg,hh,_⟩
 ·simp at h
 ·simp only [Value.slice.injEq,Option.some.injEq,Addr.mk.injEq] at hv;obtain ⟨⟨rfl,_⟩,_⟩:=hv;exact hg
theorem vS {w W5:World}{b9:Nat}(hb:w.heap.size≤b9)(h:Bw w W5)(i:Nat)(x y:Tr):Bw w (World.drew ((((((((((((W5.setCell ⟨b9,i * 6,none⟩ (.int .i64 x.id)).setCell ⟨b9,i * 6+1,none⟩ (.int .i64 x.byr)).setCell ⟨b9,i * 6+2,none⟩ (.int .i64 x.slr)).setCell ⟨b9,i * 6+3,none⟩ (.int .i64 x.sec)).setCell ⟨b9,i * 6+4,none⟩ (.int .i64 x.qty)).setCell ⟨b9,i * 6+5,none⟩ (.int .i64 x.prc)).setCell ⟨b9,(i+1) * 6,none⟩ (.int .i64 y.id)).setCell ⟨b9,(i+1) * 6+1,none⟩ (.int .i64 y.byr)).setCell ⟨b9,(i+1) * 6+2,none⟩ (.int .i64 y.slr)).setCell ⟨b9,(i+1) * 6+3,none⟩ (.int .i64 y.sec)).setCell ⟨b9,(i+1) * 6+4,none⟩ (.int .i64 y.qty)).setCell ⟨b9,(i+1) * 6+5,none⟩ (.int .i64 y.prc))):=
 (((((((((((((h.setCell (p:=⟨b9,i * 6,none⟩) hb (.int .i64 x.id)).setCell (p:=⟨b9,i * 6+1,none⟩) hb (.int .i64 x.byr)).setCell (p:=⟨b9,i * 6+2,none⟩) hb (.int .i64 x.slr)).setCell (p:=⟨b9,i * 6+3,none⟩) hb (.int .i64 x.sec)).setCell (p:=⟨b9,i * 6+4,none⟩) hb (.int .i64 x.qty)).setCell (p:=⟨b9,i * 6+5,none⟩) hb (.int .i64 x.prc)).setCell (p:=⟨b9,(i+1) * 6,none⟩) hb (.int .i64 y.id)).setCell (p:=⟨b9,(i+1) * 6+1,none⟩) hb (.int .i64 y.byr)).setCell (p:=⟨b9,(i+1) * 6+2,none⟩) hb (.int .i64 y.slr)).setCell (p:=⟨b9,(i+1) * 6+3,none⟩) hb (.int .i64 y.sec)).setCell (p:=⟨b9,(i+1) * 6+4,none⟩) hb (.int .i64 y.qty)).setCell (p:=⟨b9,(i+1) * 6+5,none⟩) hb (.int .i64 y.prc)).drew)
theorem vT {w:World}{base:Nat}{e:TypeId}{size:Nat}{v:Value}{n:Nat}{xs:List Value}(h:w.ownsRow base e size v n xs):w.drew.ownsRow base e size v n xs:=be h rfl
theorem vU {W5:World}{B b9 c9 n:Nat}{L1:List Tr}(hn:L1.length=n)(h:W5.ownsRow B 58 6 (.slice (some ⟨b9,0,none⟩) n c9) n (flat eTr L1))(i:Nat)(hi:i+1<n)(x y:Tr):(World.drew ((((((((((((W5.setCell ⟨b9,i * 6,none⟩ (.int .i64 x.id)).setCell ⟨b9,i * 6+1,none⟩ (.int .i64 x.byr)).setCell ⟨b9,i * 6+2,none⟩ (.int .i64 x.slr)).setCell ⟨b9,i * 6+3,none⟩ (.int .i64 x.sec)).setCell ⟨b9,i * 6+4,none⟩ (.int .i64 x.qty)).setCell ⟨b9,i * 6+5,none⟩ (.int .i64 x.prc)).setCell ⟨b9,(i+1) * 6,none⟩ (.int .i64 y.id)).setCell ⟨b9,(i+1) * 6+1,none⟩ (.int .i64 y.byr)).setCell ⟨b9,(i+1) * 6+2,none⟩ (.int .i64 y.slr)).setCell ⟨b9,(i+1) * 6+3,none⟩ (.int .i64 y.sec)).setCell ⟨b9,(i+1) * 6+4,none⟩ (.int .i64 y.qty)).setCell ⟨b9,(i+1) * 6+5,none⟩ (.int .i64 y.prc))).ownsRow B 58 6 (.slice (some ⟨b9,0,none⟩) n c9) n (flat eTr ((L1.set i x).set (i+1) y)):=
 vT (lV (by rw [AH];exact hn) (lV hn h i (by omega) x) (i+1) hi y)
def RTradesPost (T:List Tr)(w:World)(e:Ending)(w':World):Prop:=∃v L,e=.returned v∧w'.ownsRow w.heap.size 58 6 v L.length (flat eTr L)∧L.Perm T∧Rsg Tr.id L∧Bw w w'
theorem vV {w:World}{B:Nat}{v:Value}{L:List Tr}{b c n:Nat}(hv:v=.slice (some ⟨b,0,none⟩) n c)(h:w.ownsRow B 58 6 v L.length (flat eTr L)):∀i x,L[i]?=some x→(w.cell? ⟨b,i * 6,none⟩=some (.int .i64 x.id)∧w.cell? ⟨b,i * 6+1,none⟩=some (.int .i64 x.byr)∧w.cell? ⟨b,i * 6+2,none⟩=some (.int .i64 x.slr)∧w.cell? ⟨b,i * 6+3,none⟩=some (.int .i64 x.sec)∧w.cell? ⟨b,i * 6+4,none⟩=some (.int .i64 x.qty)∧w.cell? ⟨b,i * 6+5,none⟩=some (.int .i64 x.prc))∧∀j,w.frozen? ⟨b,i * 6+j,none⟩=false:=by
 intro i x a;obtain ⟨hil,rfl⟩:=AA.1 a;have d:=Sl.own kTr h;obtain ⟨a',cap',hv',_,_,_,hc'⟩:=d;obtain ⟨b',off,ha,hbb,hcl⟩:=hc' (by omega);rw [hv,ha] at hv';simp only [Value.slice.injEq,Option.some.injEq,Addr.mk.injEq] at hv';obtain ⟨⟨rfl,rfl,_⟩,_⟩:=hv';obtain ⟨r0,r1,r2,r3,r4,r5⟩:=l4 (hcl i hil);rw [Av] at r0 r1 r2 r3 r4 r5;refine ⟨⟨r0,r1,r2,r3,r4,r5⟩,fun j=>?_⟩;rw [hv] at h;obtain ⟨_,h2⟩:=h;rcases h2 with ⟨h,_⟩ | ⟨g,cap',cur,hv,hg,hh,_⟩
 ·simp at h
 ·simp only [Value.slice.injEq,Option.some.injEq,Addr.mk.injEq] at hv;obtain ⟨⟨rfl,_⟩,_⟩:=hv;exact Blk.free hh _
theorem fq {w:World}{B g:Nat}{vm vs vc vl:Value}{C:Cfg}{T:List Tr}(h:QAt w B g vm vs vc vl C T)(hn:T.length≤100000)(hnd:(T.map (·.id)).Nodup):Calls Tryz.prog 17 #[ptr g] w (RTradesPost T w):=by
 have HQ:=aa h;obtain ⟨ad,aM,rfl,h0,h1,h2,hc⟩:=Sl.own ii h.rows;have HC:=aa hc;have p8:=h.blk.c 8;have ah:=h.blk.lt;unfold maxLen at h2;obtain ⟨i0,hi,hz0,hz1,hz2⟩:=info_parts rC;have aA:=aa hnd;have HP:Hid (∀v L w',w'.ownsRow w.heap.size 58 6 v L.length (flat eTr L)→L.Perm T→Rsg Tr.id L→Bw w w'→RTradesPost T w (.returned v) w'):=aa (fun v L w' g1 g2 g3 g4=>⟨v,L,rfl,g1,g2,g3,g4⟩);clear h hc h0 hnd;go_enter Tryz.func17,Tryz.ntmps17;go_wp2_with fail;go_loopw [4,3] (fun vi vo wr=>∃(k:Nat) (L:List Tr),k≤T.length∧vi=.int .i64 k∧wr.ownsRow w.heap.size 58 6 vo L.length (flat eTr L)∧L.Perm (T.take k)∧Rsg Tr.id L∧Bw w wr) (fun vi _ _=>T.length - (intOf vi).toNat)
 case atStart=>exact ⟨0,[],Af _,rfl,⟨by simp [flat],Or.inl ⟨rfl,rfl⟩⟩,by simp,List.Pairwise.nil,zZ _ _⟩
 case round=>
  obtain ⟨k,L,hk,rfl,ho,ab,ai,A⟩:=hrel;have HO:=aa ho;have s:=aa ab;have R:=aa ai;have u:=aa A;have q8:=(A.c (p:=⟨g,8,none⟩) ah).trans p8;obtain ⟨no,ko,rfl⟩:=ag ho;clear ho ab ai A;by_cases hlt:k<T.length
  ·obtain ⟨b,l,rfl,r,ap⟩:=HC.o (by omega);obtain ⟨r0,r1,r2,r3,r4,r5⟩:=vK (ap k hlt);have aU:(0:Int)≤(k:Int):=by omega
   have aT:(k:Int)<(T.length:Int):=by omega
   have HH:=aa (fun W (hq:QAt W B g vm vs vc (.slice (some ⟨b,l,none⟩) T.length aM) C T)=>gY hq k hlt hn);have U:Hid (T.take (k+1)=T.take k++[T[k]]):=aa (z9 hlt);have Z:Hid (T[k].id∉L.map (·.id)):=aa (by
    intro hm;have h1:(T.take (k+1)).map (·.id)=(T.take k).map (·.id)++[T[k].id]:=by rw [U.o,AI];rfl
    have h2:((T.take (k+1)).map (·.id)).Nodup:=by rw [List.map_take];exact aA.o.sublist (List.take_sublist _ _)
    rw [h1,List.nodup_append] at h2;exact h2.2.2 _ ((s.o.map _).mem_iff.1 hm) _ (by simp) rfl)
   have aw:Hid (L.length=k):=aa (by rw [s.o.length_eq,Aa];omega);have aW:L.length≤100000:=by rw [aw.o];omega
   clear ap;generalize T[k]=x at *;go_wp2_with fail;refine (HH.o _ (HQ.o.keep u.o)).mono ?_;rintro e w3 ⟨rfl,m,rfl⟩;have O:=aa (aj u.o m);have al:Hid ((wr.drewN m).ownsRow w.heap.size 58 6 (.slice no L.length ko) L.length (flat eTr L)):=aa (be HO.o rfl);have aX:=(O.o.c (p:=⟨g,8,none⟩) ah).trans p8;have s0:=(O.o.c (p:=⟨b,l+k * 8,none⟩) r).trans r0;have s1:=(O.o.c (p:=⟨b,l+k * 8+1,none⟩) r).trans r1;have s2:=(O.o.c (p:=⟨b,l+k * 8+2,none⟩) r).trans r2;have s3:=(O.o.c (p:=⟨b,l+k * 8+3,none⟩) r).trans r3;have s4:=(O.o.c (p:=⟨b,l+k * 8+4,none⟩) r).trans r4;have s5:=(O.o.c (p:=⟨b,l+k * 8+5,none⟩) r).trans r5;generalize wr.drewN m=W3 at *;have Y:=O.o
   go_wp2_with (at_builtin;refine aq kTr (by decide) yK _ rfl _ _ 49 rfl w.heap.size 58 i0 (.agg #[.int .i64 0,.int .i64 0,.int .i64 0,.int .i64 0,.int .i64 0,.int .i64 0]) 48 Tryz.underlying49 hi hz0 hz1 hz2 (by rfl) (.slice no L.length ko) L rfl (al.o.alloc _) (some ⟨W3.heap.size,0,none⟩) 1 [⟨x.id,x.byr,x.slr,x.sec,x.qty,x.prc⟩] rfl (Sl.one1b eTr kTr _ 58 _ (by rfl) _ (by simp)) (by show L.length+1≤maxLen;unfold maxLen;omega) (by show (L.length+1) * 48≤_;omega) (Y.alloc Y.size (.cells #[.int .i64 (x.id),.int .i64 (x.byr),.int .i64 (x.slr),.int .i64 (x.sec),.int .i64 (x.qty),.int .i64 (x.prc)] 58)).size ?_;intro v' w2 n H aI;have b4:=(Y.alloc Y.size (.cells #[.int .i64 (x.id),.int .i64 (x.byr),.int .i64 (x.slr),.int .i64 (x.sec),.int .i64 (x.qty),.int .i64 (x.prc)] 58)).grown H (Y.alloc Y.size _).size (fun q hq=>(al.o.lt q hq).1);clear H aI)
   have ae:=ag n;obtain ⟨a,c9,M⟩:=vQ n (by simp);rw [z8] at M;have ax:=aa M;have N:=aa n;have aE:=aa b4;have aJ:Hid ((⟨x.id,x.byr,x.slr,x.sec,x.qty,x.prc⟩:Tr)=x):=aa rfl;rw [aJ.o] at N;have ac:v'=.slice (some ⟨a,0,none⟩) (L.length+1) c9:=M;subst ac;clear n b4 ae M ax s0 s1 s2 s3 s4 s5 r0 r1 r2 r3 r4 r5;go_wp2_with fail;go_loopw [5] (fun vk wr=>∃(j:Nat) (d:List Tr),vk=.int .i64 j∧Bub L x j d∧wr.ownsRow w.heap.size 58 6 (.slice (some ⟨a,0,none⟩) (L.length+1) c9) d.length (flat eTr d)∧Bw w wr) (fun vk _=>(intOf vk).toNat)
   case atStart=>exact ⟨L.length,L++[x],rfl,Bub.start L x,N.o,aE.o⟩
   case round=>
    obtain ⟨j,d,rfl,t,J,G⟩:=hrel;obtain ⟨u1,u2,u3⟩:=t.at;have z:=aa t;have V:=aa J;have E:=aa G;have ak:=aa (vV rfl J);have I:=aa u1;have av:Hid (w.heap.size≤a):=aa (vR J);have au:=aa u3;clear t J G u1 u3;by_cases hj0:j=0
    ·have HJ:=aa hj0;have az:Hid (decide (0<j)=false):=aa (dF (by omega));have D:=aa (z.o.done R.o Z.o (fun i y hi=>by rw [HJ.o] at hi;exact absurd hi (Nat.succ_ne_zero i)));have X:Hid (d.Perm (T.take (k+1))):=aa (by rw [U.o];exact D.o.2.trans (s.o.append_right [x]));clear hj0;go_wp2_with fail;have aP:=az.o;go_quiet (fail)
     have F:=aa (aj E.o nq);have f:Hid ((wr.drewN nq).ownsRow w.heap.size 58 6 (.slice (some ⟨a,0,none⟩) (L.length+1) c9) d.length (flat eTr d)):=aa (be V.o rfl);go_wp2_with fail;go_roundw
     case rel=>exact ⟨k+1,d,by omega,by go_num,f.o,X.o,D.o.1,F.o⟩
     case measure=>exact ar (by omega)
    ·obtain ⟨i,rfl⟩:∃i,j=i+1:=⟨j - 1,by omega⟩;have aQ:i<d.length:=by rw [I.o];omega
     obtain ⟨y,hy⟩:∃y,d[i]?=some y:=⟨_,Ab aQ⟩;obtain ⟨⟨a0,a1,a2,a3,a4,a5⟩,K⟩:=ak.o i y hy;obtain ⟨⟨d0,d1,d2,d3,d4,d5⟩,df⟩:=ak.o (i+1) x au.o;have aP:(decide ((0:Int)<((i+1:Nat):Int)))=true:=dT (by omega);have e1:wrap64 (((i+1:Nat):Int) - 1)=(i:Int):=by unfold wrap64;omega
     have v1:(0:Int)≤(i:Int):=by omega
     have v2:(i:Int)<((L.length+1:Nat):Int):=by omega
     have v3:(0:Int)≤((i+1:Nat):Int):=by omega
     have v4:((i+1:Nat):Int)<((L.length+1:Nat):Int):=by omega
     have HY:=aa hy;by_cases hgt:x.id<y.id
     ·have aH:decide (x.id<y.id)=true:=dT hgt;have aC:=aa (z.o.next hy hgt);clear hy hj0 hgt;go_wp2_with fail;go_quiet (fail)
      have F:=aa (aj E.o nq);have f:Hid ((wr.drewN nq).ownsRow w.heap.size 58 6 (.slice (some ⟨a,0,none⟩) (L.length+1) c9) d.length (flat eTr d)):=aa (be V.o rfl);have P:=aa (vV rfl f.o);clear a0 a1 a2 a3 a4 a5 K d0 d1 d2 d3 d4 d5 df;generalize wr.drewN nq=W5 at *;obtain ⟨⟨a0,a1,a2,a3,a4,a5⟩,K⟩:=P.o i y HY.o;obtain ⟨⟨d0,d1,d2,d3,d4,d5⟩,df⟩:=P.o (i+1) x au.o;have an:=K 0;have aS:=K 1;have aO:=K 2;have aB:=K 3;have ay:=K 4;have aR:=K 5;have am:=df 0;have aG:=df 1;have aL:=df 2;have aN:=df 3;have aD:=df 4;have aF:=df 5;rw [AU] at an am;clear K df;go_wp2_with fail;go_region
      have aK:Hid (((d.set i x).set (i+1) y).length=L.length+1):=aa (by rw [AH,AH];exact I.o);have S:=aa (vU I.o (by rw [I.o] at f;exact f.o) i (by omega) x y);have Q:=aa (vS av.o F.o i x y);revert S Q
      generalize World.drew ((((((((((((W5.setCell ⟨a,i * 6,none⟩ (.int .i64 x.id)).setCell ⟨a,i * 6+1,none⟩ (.int .i64 x.byr)).setCell ⟨a,i * 6+2,none⟩ (.int .i64 x.slr)).setCell ⟨a,i * 6+3,none⟩ (.int .i64 x.sec)).setCell ⟨a,i * 6+4,none⟩ (.int .i64 x.qty)).setCell ⟨a,i * 6+5,none⟩ (.int .i64 x.prc)).setCell ⟨a,(i+1) * 6,none⟩ (.int .i64 y.id)).setCell ⟨a,(i+1) * 6+1,none⟩ (.int .i64 y.byr)).setCell ⟨a,(i+1) * 6+2,none⟩ (.int .i64 y.slr)).setCell ⟨a,(i+1) * 6+3,none⟩ (.int .i64 y.sec)).setCell ⟨a,(i+1) * 6+4,none⟩ (.int .i64 y.qty)).setCell ⟨a,(i+1) * 6+5,none⟩ (.int .i64 y.prc))=W8;intro S Q;clear a0 a1 a2 a3 a4 a5 d0 d1 d2 d3 d4 d5 an aS aO aB ay aR am aG aL aN aD aF;go_wp2_with fail;go_roundw
      case rel=>exact ⟨i,_,by go_num,aC.o,by rw [aK.o];exact S.o,Q.o⟩
      case measure=>simp [intOf]
     ·have aH:decide (x.id<y.id)=false:=dF hgt;have D:=aa (z.o.done R.o Z.o (fun i' y' hi' hy'=>by
       obtain rfl:i'=i:=by omega
       rw [HY.o] at hy';cases hy'
       omega))
      have X:Hid (d.Perm (T.take (k+1))):=aa (by rw [U.o];exact D.o.2.trans (s.o.append_right [x]));clear hy hj0 hgt;go_wp2_with fail;go_quiet (fail)
      have F:=aa (aj E.o nq);have f:Hid ((wr.drewN nq).ownsRow w.heap.size 58 6 (.slice (some ⟨a,0,none⟩) (L.length+1) c9) d.length (flat eTr d)):=aa (be V.o rfl);go_wp2_with fail;go_roundw
      case rel=>exact ⟨k+1,d,by omega,by go_num,f.o,X.o,D.o.1,F.o⟩
      case measure=>exact ar (by omega)
  ·obtain rfl:k=T.length:=by omega
   have aV:¬ ((T.length:Int)<(T.length:Int)):=by omega
   have ao:T.take T.length=T:=Ae (zY _);rw [ao] at s;clear ao;go_wp2_with fail;go_ret;exact HP.o _ L _ HO.o s.o R.o u.o
theorem rf {w0 w:World}{B2 T1 k1 n1 T2 k2 n2:Nat}{u v:Value}{xs ys:List Value}(hu:w.ownsRow w0.heap.size T1 k1 u n1 xs)(hv:w0.ownsRow B2 T2 k2 v n2 ys):Apart u v:=by
 cases hq:u.ownBlock with
 | none=>exact Or.inl hq
 | some q=>
  right
  intro e;have a:=(hu.lt q hq).1;have b:=(hv.lt q (e ▸ hq)).2;omega
def preJ (K F:List Lg)(j:Nat):List Lg:=K++F.take j
def RQLegsPost (T:List Tr)(w:World)(e:Ending)(w':World):Prop:=∃v L,e=.returned v∧L.Perm T∧Rsg Tr.id L∧w'.ownsRow w.heap.size 120 3 v (L.flatMap lg4).length (flat eLg (L.flatMap lg4))∧Bw w w'
theorem od {w:World}{B g:Nat}{vm vs vc vl:Value}{C:Cfg}{T:List Tr}(h:QAt w B g vm vs vc vl C T)(hn:T.length≤10000)(hnd:(T.map (·.id)).Nodup)(hg:∀t∈T,TrGood t):Calls Tryz.prog 20 #[ptr g] w (RQLegsPost T w):=by
 have HT:=aa (fq h (by omega) hnd);have HG:=aa hg;obtain ⟨i0,hi,aj,an,Z⟩:=info_parts bt;have HP:Hid (∀v L w',L.Perm T→Rsg Tr.id L→w'.ownsRow w.heap.size 120 3 v (legsK L L.length).length (flat eLg (legsK L L.length))→Bw w w'→RQLegsPost T w (.returned v) w'):=aa (fun v L w' g1 g2 g3 g4=>⟨v,L,rfl,g1,g2,by
  have ax:legsK L L.length=L.flatMap lg4:=by unfold legsK;rw [Ap]
  rw [ax] at g3;exact g3,g4⟩)
 clear h hnd hg;go_enter Tryz.func20,Tryz.ntmps20;go_wp2_with fail;refine HT.o.mono ?_;rintro e R ⟨v1,L,rfl,d,r,Q,c1⟩;have hS:=Sl.own kTr d;obtain ⟨ad,cap,rfl,_,h1,h2,hc⟩:=hS;have HC:=aa hc;unfold maxLen at h2;have ae:=aa r;have X:=aa Q;have aF:L.length≤10000:=by rw [r.length_eq];exact hn
 have ac:Hid (∀x∈L,TrGood x):=aa (fun x hx=>HG.o x (r.mem_iff.1 hx));have C1:=aa c1;have al:=aa (iT L);have ay:=aa (gC L);clear d r Q c1 hc HT HG;go_wp2_with fail;go_loopw [5,3] (fun vi vo wr=>∃k:Nat,k≤L.length∧vi=.int .i64 k∧wr.ownsRow R.heap.size 120 3 vo (legsK L k).length (flat eLg (legsK L k))∧Bw R wr) (fun vi _ _=>L.length - (intOf vi).toNat)
 case atStart=>exact ⟨0,Af _,rfl,⟨by simp [flat,legsK],Or.inl ⟨by simp [legsK],by simp [legsK]⟩⟩,zZ _ _⟩
 case round=>
  obtain ⟨k,hk,rfl,ho,z⟩:=hrel;have V:=aa ho;have a:=aa z;obtain ⟨no,ko,rfl⟩:=ag ho;clear ho z;by_cases hlt:k<L.length
  ·obtain ⟨b,i,rfl,f,U⟩:=HC.o (by omega);obtain ⟨r0,r1,r2,r3,r4,r5⟩:=l4 (U k hlt);have q0:=(a.o.c (p:=⟨b,i+k * 6,none⟩) f).trans r0;have q1:=(a.o.c (p:=⟨b,i+k * 6+1,none⟩) f).trans r1;have q2:=(a.o.c (p:=⟨b,i+k * 6+2,none⟩) f).trans r2;have q3:=(a.o.c (p:=⟨b,i+k * 6+3,none⟩) f).trans r3;have q4:=(a.o.c (p:=⟨b,i+k * 6+4,none⟩) f).trans r4;have q5:=(a.o.c (p:=⟨b,i+k * 6+5,none⟩) f).trans r5;have aB:(0:Int)≤(k:Int):=by omega
   have aA:(k:Int)<(L.length:Int):=by omega
   have ap:=aa (fun W=>re L[k] (ac.o _ (Ag hlt)) W);have I:=aa (ay.o k hlt);have ao:=al.o k;clear U r0 r1 r2 r3 r4 r5;obtain ⟨K,hK⟩:∃K,legsK L k=K:=⟨_,rfl⟩;rw [hK] at V ao I ⊢;clear hK;generalize L[k]=x at *;obtain ⟨F,hF⟩:∃F,lg4 x=F:=⟨_,rfl⟩;have s:Hid (F.length=4):=aa (by rw [←hF];rfl);have HF:=aa hF;have aG:K.length≤40000:=by omega
   go_wp2_with fail;refine (ap.o _).mono ?_;rintro e w4 ⟨u4,rfl,l,c4⟩;rw [HF.o] at l;have av:=aa (ah V.o c4);have B4:=aa (a.o.trans (c4.mono a.o.size));have N:Apart u4 (.slice no K.length ko):=rf l V.o;have ak:=aa N;have am:Hid (w4.ownsRow wr.heap.size 120 3 u4 F.length (flat eLg F)):=aa (by rw [s.o];exact l);obtain ⟨a6,c6,hu6⟩:=ag l;subst hu6;clear l c4 hF N;go_wp2_with fail;obtain ⟨wo,rfl⟩:∃wo,wo=wr:=⟨_,rfl⟩;have af:Hid (preJ K F 0=K):=aa (by simp [preJ]);go_loopw [8,3] (fun vj vo wq=>∃j:Nat,j≤4∧vj=.int .i64 j∧wq.ownsRow R.heap.size 120 3 vo (preJ K F j).length (flat eLg (preJ K F j))∧wq.ownsRow wo.heap.size 120 3 (.slice a6 4 c6) F.length (flat eLg F)∧Apart (.slice a6 4 c6) vo∧Bw R wq) (fun vi _ _=>4 - (intOf vi).toNat)
   case atStart=>exact ⟨0,Af _,rfl,by rw [af.o];exact av.o,am.o,ak.o,B4.o⟩
   case round=>
    obtain ⟨j,hj,rfl,H,D,A,n⟩:=hrel;have m:=aa H;have O:=aa D;have E:=aa A;have G:=n;have Y:(preJ K F j).length≤40004:=by unfold preJ;rw [z8,Aa,s.o];omega
    obtain ⟨n5,k5,rfl⟩:=ag H;obtain ⟨a7,c7,hu7,_,_,_,hcc⟩:=Sl.own kLg D;clear H D A n;by_cases hj4:j<4
    ·have aC:(0:Int)≤(j:Int):=by omega
     have aH:(j:Int)<4:=by omega
     have J:j<F.length:=by rw [s.o];exact hj4
     obtain ⟨b7,o7,S,az,u⟩:=hcc (by omega);simp only [Value.slice.injEq] at hu7;obtain ⟨rfl,hx4,rfl⟩:=hu7;clear hx4;subst S;obtain ⟨z0,z1,z2⟩:=ch (u j J);have P:Hid (preJ K F j++[F[j]]=preJ K F (j+1)):=aa (by unfold preJ;rw [z9 J,Au]);clear u hcc;obtain ⟨M,hM⟩:∃M,preJ K F j=M:=⟨_,rfl⟩;rw [hM] at m E Y P ⊢;clear hM;generalize F[j]=y at *;go_wp2_with (at_builtin;refine aq kLg (by decide) bL _ rfl _ _ 66 rfl R.heap.size 120 i0 (.agg #[.int .i64 0,.int .i64 0,.int .i64 0]) 24 Tryz.underlying66 hi aj an Z (by rfl) (.slice n5 M.length k5) M rfl (m.o.alloc _) (some ⟨wr.heap.size,0,none⟩) 1 [⟨y.mem,y.ass,y.amt⟩] rfl (Sl.one1b eLg kLg _ 120 _ (by rfl) _ rfl) (by show M.length+1≤maxLen;unfold maxLen;omega) (by show (M.length+1) * 24≤_;omega) (G.alloc G.size (.cells #[.int .i64 y.mem,.int .i64 y.ass,.int .i64 y.amt] 120)).size ?_;intro v' w9 d hgrow hat;have b9:=(G.alloc G.size (.cells #[.int .i64 y.mem,.int .i64 y.ass,.int .i64 y.amt] 120)).grown hgrow (G.alloc G.size _).size (fun q hq=>(m.o.lt q hq).1);have au:=aa (dz (O.o.alloc _) hgrow E.o);have ai:=aa (cN (O.o.alloc _) E.o hat);rw [show M++[(⟨y.mem,y.ass,y.amt⟩:Lg)]=preJ K F (j+1) from P.o] at d;obtain ⟨n2,k2,rfl⟩:=ag d;have ab:=aa d;clear hgrow hat d)
     go_roundw
     case rel=>exact ⟨j+1,by omega,by go_num,ab.o,au.o,ai.o,b9⟩
     case measure=>exact ar (by omega)
    ·have aE:¬ ((j:Int)<4):=by omega
     have HJ:Hid (preJ K F j=legsK L (k+1)):=aa (by unfold preJ;rw [Ae (by rw [s.o];omega),I.o,HF.o]);rw [HJ.o] at m ⊢;clear hcc hu7;go_wp2_with fail;go_roundw
     case rel=>exact ⟨k+1,by omega,by go_num,m.o,G⟩
     case measure=>exact ar (by omega)
  ·obtain rfl:k=L.length:=by omega
   have aD:¬ ((L.length:Int)<(L.length:Int)):=by omega
   go_wp2_with fail;go_ret;refine HP.o _ L _ ae.o X.o ?_ (C1.o.trans (a.o.mono C1.o.size));exact aw V.o C1.o.size
def amtK (l:List Lg)(m a:Int)(k:Nat):List Int:=amtL (l.take k) ⟨m,a⟩
theorem rh (l:List Lg)(m a:Int)(k:Nat)(h:k<l.length):amtK l m a (k+1)=amtK l m a k++if l[k].mem=m∧l[k].ass=a then [l[k].amt] else []:=by
 unfold amtK amtL;rw [z9 h,List.filter_append,AI];congr 1
 by_cases hc:l[k].mem=m∧l[k].ass=a
 ·rw [if_pos hc];have:sdOf l[k]=⟨m,a⟩:=by unfold sdOf;rw [hc.1,hc.2]
  simp [this]
 ·rw [if_neg hc];have:sdOf l[k]≠⟨m,a⟩:=fun h=>hc (by unfold sdOf at h;injection h with h1 h2;exact ⟨h1,h2⟩)
  simp [this]
theorem lW (l:List Lg)(m a:Int)(k:Nat):(amtK l m a k).length≤l.length:=by
 unfold amtK amtL;rw [Ad];exact z5 (AV _ _) (by rw [Aa];omega)
def OwedPost (n:Int)(w:World)(e:Ending)(w':World):Prop:=e=.returned (.tuple #[.int .i64 (if In64 n then n else 0),.int .i64 (if In64 n then 0 else 2)])∧Bw w w'
theorem rj (v:Value)(l:List Lg)(m a:Int)(w:World)(hv:Sl eLg 3 w v l)(hn:l.length≤100000)(h64:∀x∈l,In64 x.amt):Calls Tryz.prog 21 #[v,.int .i64 m,.int .i64 a] w (OwedPost (netOf l ⟨m,a⟩) w):=by
 obtain ⟨ad,T,rfl,Q,h1,P,I⟩:=hv;unfold maxLen at P;have V:=aa I;have Z:=aa (lW l m a);have HS:=aa (rh l m a);have K:Hid (amtK l m a l.length=amtL l ⟨m,a⟩):=aa (by unfold amtK;rw [Ap]);have U:Hid (∀x∈amtL l ⟨m,a⟩,In64 x):=aa (fun x hx=>by
  unfold amtL at hx;obtain ⟨y,W,rfl⟩:=AD.1 hx;exact h64 y (AS.1 W).1)
 obtain ⟨n,t⟩:∃n,netOf l ⟨m,a⟩=n:=⟨_,rfl⟩;have X:Hid (sumL (amtL l ⟨m,a⟩)=n):=aa t;rw [t];have F:Hid ((amtL l ⟨m,a⟩).length≤100000):=aa (by rw [←K.o];exact z5 (lW l m a l.length) hn);have M:Hid (∀w',Bw w w'→OwedPost n w (.returned (.tuple #[.int .i64 (if In64 n then n else 0),.int .i64 (if In64 n then 0 else 2)])) w'):=aa (fun w' h=>⟨rfl,h⟩);obtain ⟨i0,hi,hz0,hz1,hz2⟩:=info_parts cT;clear I h64 Q t;go_enter Tryz.func21,Tryz.ntmps21;go_wp2_with fail;go_loopw [9,8] (fun vi vo wr=>∃(k:Nat),k≤l.length∧vi=.int .i64 k∧wr.ownsRow w.heap.size 2 1 vo (amtK l m a k).length (flat eI (amtK l m a k))∧Bw w wr) (fun vi _ _=>l.length - (intOf vi).toNat)
 case atStart=>exact ⟨0,Af _,rfl,⟨by simp [flat,amtK,amtL],Or.inl ⟨rfl,rfl⟩⟩,zZ _ _⟩
 case round=>
  obtain ⟨k,hk,rfl,G,d⟩:=hrel;have u:=aa G;have g:=aa d;obtain ⟨no,ko,rfl⟩:=ag G;clear G;by_cases hlt:k<l.length
  ·obtain ⟨b,s,rfl,r,C⟩:=V.o (by omega);obtain ⟨r0,r1,r2⟩:=ch (C k hlt);have q0:=(d.c (p:=⟨b,s+k * 3,none⟩) r).trans r0;have q1:=(d.c (p:=⟨b,s+k * 3+1,none⟩) r).trans r1;have q2:=(d.c (p:=⟨b,s+k * 3+2,none⟩) r).trans r2;have N:(0:Int)≤(k:Int):=by omega
   have R:(k:Int)<(l.length:Int):=by omega
   have f:=aa (HS.o k hlt);have E:=Z.o k;have i:=d;clear C r0 r1 r2 d;generalize l[k]=x at *;by_cases hx:x.mem=m∧x.ass=a
   ·rw [if_pos hx] at f;have H:(x.mem==m)=true:=by simpa using hx.1
    have O:(x.ass==a)=true:=by simpa using hx.2
    have HX:=aa hx;clear hx;obtain ⟨L,B⟩:∃L,amtK l m a k=L:=⟨_,rfl⟩;rw [B] at f u E ⊢;clear B;go_wp2_with (at_builtin;refine aq kI (by decide) dL _ rfl _ _ 45 rfl w.heap.size 2 i0 (.int .i64 0) 8 Tryz.underlying45 hi hz0 hz1 hz2 (by rfl) (.slice no L.length ko) L rfl (u.o.alloc _) (some ⟨wr.heap.size,0,none⟩) 1 [x.amt] rfl (Sl.one1b eI kI _ 2 _ (by rfl) _ rfl) (by show L.length+1≤maxLen;unfold maxLen;omega) (by show (L.length+1) * 8≤_;omega) (i.alloc i.size (.cells #[.int .i64 x.amt] 2)).size ?_;intro v' w2 hown hgrow hat;have b4:=(i.alloc i.size (.cells #[.int .i64 x.amt] 2)).grown hgrow (i.alloc i.size _).size (fun q hq=>(u.o.lt q hq).1);rw [←f.o] at hown;obtain ⟨n2,k2,rfl⟩:=ag hown;clear hgrow hat)
    go_roundw
    case rel=>exact ⟨k+1,by omega,by go_num,hown,b4⟩
    case measure=>exact ar (by omega)
   ·rw [if_neg hx,Bm] at f;have A:Hid (wr.ownsRow w.heap.size 2 1 (.slice no (amtK l m a k).length ko) (amtK l m a (k+1)).length (flat eI (amtK l m a (k+1)))):=aa (by rw [f.o];exact u.o);have D:x.mem≠m∨(x.mem=m∧x.ass≠a):=by omega
    clear hx;rcases D with e1 | ⟨e1,e2⟩
    ·have H:(x.mem==m)=false:=by simpa using e1
     clear e1;go_wp2_with fail;go_roundw
     case rel=>exact ⟨k+1,by omega,by go_num,A.o,i⟩
     case measure=>exact ar (by omega)
    ·have H:(x.mem==m)=true:=by simpa using e1
     have O:(x.ass==a)=false:=by simpa using e2
     clear e1 e2;go_wp2_with fail;go_roundw
     case rel=>exact ⟨k+1,by omega,by go_num,A.o,i⟩
     case measure=>exact ar (by omega)
  ·obtain rfl:k=l.length:=by omega
   have S:¬ ((l.length:Int)<(l.length:Int)):=by omega
   rw [K.o] at u ⊢;have j:=aa (vv _ _ wr (Sl.own kI u.o) F.o U.o);rw [X.o] at j;obtain ⟨J,z⟩:∃J,(if In64 n then n else 0)=J:=⟨_,rfl⟩;obtain ⟨ev,hev⟩:∃ev,(if In64 n then (0:Int) else 2)=ev:=⟨_,rfl⟩;rw [z,hev] at j M;clear z hev;go_wp2_with (go_at_call 54;refine j.o.mono ?_;rintro e w5 ⟨rfl,c5⟩;have Y:=aa (g.o.trans (c5.mono g.o.size)))
   go_ret2;exact M.o _ Y.o
theorem tr_ne {a b:Tr}(h:a≠b):a.id≠b.id∨(a.id=b.id∧(a.byr≠b.byr∨(a.byr=b.byr∧(a.slr≠b.slr∨(a.slr=b.slr∧(a.sec≠b.sec∨(a.sec=b.sec∧(a.qty≠b.qty∨(a.qty=b.qty∧a.prc≠b.prc))))))))):=by
 obtain ⟨f,i,d,c,g,j⟩:=a;obtain ⟨b1,b2,b3,b4,b5,b6⟩:=b;simp only [ne_eq,Tr.mk.injEq] at h ⊢;omega
theorem vW {A B:List Tr}(hl:A.length=B.length)(h:∀j (h1:j<A.length) (h2:j<B.length),A[j]=B[j]):A=B:=List.ext_getElem hl h
def SamePost (A B:List Tr)(w:World)(e:Ending)(w':World):Prop:=∃r,e=.returned (.bool r)∧(r=true↔A=B)∧Bw w w'
theorem rl (u v:Value)(A B:List Tr)(w:World)(hu:Sl eTr 6 w u A)(hv:Sl eTr 6 w v B)(hn:A.length≤100000)(hm:B.length≤100000):Calls Tryz.prog 15 #[u,v] w (SamePost A B w):=by
 obtain ⟨a1,Z,rfl,_,P,L,J⟩:=hu;obtain ⟨a2,c2,rfl,_,h3,h4,hB⟩:=hv;have Q:=aa J;have M:=aa hB;unfold maxLen at L h4;clear J hB;by_cases hl:(A.length:Int)=B.length
 rotate_left
 ·have I:((A.length:Int) != B.length)=true:=by simpa using hl
  have r:Hid (false=true↔A=B):=aa (iff_of_false (by simp) (fun h=>hl (by rw [h])));clear hl;go_enter Tryz.func15,Tryz.ntmps15;go_wp2_with fail;refine bodyPost_ret (v:=.bool false) (by simp [results,Tryz.results15,go_sem]) rfl ?_;exact ⟨_,rfl,r.o,zZ _ _⟩
 ·have I:((A.length:Int) != B.length)=false:=by simpa using hl
  have R:Hid (A.length=B.length):=aa (by omega);obtain ⟨n,g⟩:∃n,A.length=n:=⟨_,rfl⟩;have i:B.length=n:=by omega
  have z:=aa g;have F:=aa i;rw [g,i] at I ⊢;rw [g] at P;rw [i] at h3;rw [g] at hn;clear hl g i hm;go_enter Tryz.func15,Tryz.ntmps15;go_wp2_with fail;go_loopw [5] (fun vi wr=>∃(k:Nat),k≤n∧vi=.int .i64 k∧Bw w wr∧∀j (E:j<A.length) (D:j<B.length),j<k→A[j]=B[j]) (fun vi _=>n - (intOf vi).toNat)
  case atStart=>exact ⟨0,Af _,rfl,zZ _ _,fun j _ _ h=>absurd h (Nat.not_lt_zero _)⟩
  case round=>
   obtain ⟨k,W,rfl,l,s⟩:=hrel;have a:=aa l;have t:=aa s;clear l s;by_cases hlt:k<n
   ·have E:k<A.length:=by rw [z.o];exact hlt
    have D:k<B.length:=by rw [F.o];exact hlt
    obtain ⟨b,f,rfl,d,C⟩:=Q.o (by omega);obtain ⟨b',off',rfl,hbb',hcl'⟩:=M.o (by omega);obtain ⟨r0,r1,r2,r3,r4,r5⟩:=l4 (C k E);obtain ⟨s0,s1,s2,s3,s4,s5⟩:=l4 (hcl' k D);have S:=(a.o.c (p:=⟨b,f+k * 6,none⟩) d).trans r0;have y0:=(a.o.c (p:=⟨b',off'+k * 6,none⟩) hbb').trans s0;have x1:=(a.o.c (p:=⟨b,f+k * 6+1,none⟩) d).trans r1;have V:=(a.o.c (p:=⟨b',off'+k * 6+1,none⟩) hbb').trans s1;have x2:=(a.o.c (p:=⟨b,f+k * 6+2,none⟩) d).trans r2;have y2:=(a.o.c (p:=⟨b',off'+k * 6+2,none⟩) hbb').trans s2;have U:=(a.o.c (p:=⟨b,f+k * 6+3,none⟩) d).trans r3;have X:=(a.o.c (p:=⟨b',off'+k * 6+3,none⟩) hbb').trans s3;have T:=(a.o.c (p:=⟨b,f+k * 6+4,none⟩) d).trans r4;have y4:=(a.o.c (p:=⟨b',off'+k * 6+4,none⟩) hbb').trans s4;have x5:=(a.o.c (p:=⟨b,f+k * 6+5,none⟩) d).trans r5;have Y:=(a.o.c (p:=⟨b',off'+k * 6+5,none⟩) hbb').trans s5;have K:(0:Int)≤(k:Int):=by omega
    have N:(k:Int)<(n:Int):=by omega
    have q:Hid (A[k]≠B[k]→(false=true↔A=B)):=aa (fun h=>iff_of_false (by simp) (fun e=>h (by subst e;rfl)));have m:Hid (A[k]=B[k]→∀j (E:j<A.length) (D:j<B.length),j<k+1→A[j]=B[j]):=aa (fun h j q1 q2 hjk=>by
     by_cases e:j=k
     ·subst e;exact h
     ·exact t.o j q1 q2 (by omega))
    clear C hcl' r0 r1 r2 r3 r4 r5 s0 s1 s2 s3 s4 s5;generalize A[k]=x at *;generalize B[k]=y at *;clear E D;by_cases hxy:x=y
    ·subst hxy;have r:=aa (m.o rfl);clear m q;go_wp2_with fail;go_quiet (fail)
     have H:=aa (aj a.o nq);go_wp2_with fail;go_roundw
     case rel=>exact ⟨k+1,by omega,by go_num,H.o,r.o⟩
     case measure=>exact ar (by omega)
    ·have r:=aa (q.o hxy);have G:=tr_ne hxy;clear m q hxy;rcases G with e1 | ⟨e1,e2 | ⟨e2,e3 | ⟨e3,e4 | ⟨e4,e5 | ⟨e5,e6⟩⟩⟩⟩⟩
     all_goals
      go_wp2_with fail;go_quiet (fail)
      go_wp2_with fail;refine bodyPost_ret (v:=.bool false) (by simp [results,Tryz.results15,go_sem]) rfl ?_;exact ⟨_,rfl,r.o,aj a.o _⟩
   ·obtain rfl:k=n:=by omega
    have O:¬ ((k:Int)<(k:Int)):=by omega
    have r:Hid (true=true↔A=B):=aa (iff_of_true rfl (vW R.o (fun j q1 q2=>t.o j q1 q2 (by rw [←z.o];exact q1))));go_wp2_with fail;refine bodyPost_ret (v:=.bool true) (by simp [results,Tryz.results15,go_sem]) rfl ?_;exact ⟨_,rfl,⟨fun _=>r.o.1 trivial,fun _=>rfl⟩,a.o⟩
structure AccOk (T:List Tr):Prop where
 good:∀x∈T,TrGood x
 gross:grL T≤288230376151711744
 units:∀a,unL T a≤274877906944
theorem ro:AccOk []:=⟨by simp,by simp [grL],fun a=>by simp [unL]⟩
theorem oe {C:Cfg}{T:List Tr}(h:AccOk T){t:Tr}(hf:TrFit t):AccOk (accS C T t):=by
 unfold accS;split
 ·rename_i b
  refine ⟨fun x hx=>?_,?_,fun a=>?_⟩
  ·rcases AJ.1 hx with hx | hx
   ·exact h.good x hx
   ·rw [List.mem_singleton.1 hx];exact (bO hf b.1).1
  ·rw [dY];exact b.2.2.2.2.1
  ·rw [gH];split
   ·rename_i e;subst e;exact b.2.2.2.2.2
   ·have:=h.units a;omega
 ·exact h
theorem rp {C:Cfg}{l:List Tr}(h:∀t∈l,TrFit t):∀k,AccOk (accL C (l.take k)):=by
 intro k;induction k with
 | zero=>rw [List.take_zero];exact ro
 | succ k ih=>
  by_cases hk:k<l.length
  ·rw [dG C l k hk];exact oe ih (h _ (Ag hk))
  ·rw [Ae (by omega)];rw [Ae (by omega)] at ih;exact ih
def TrR (C:Cfg)(l:List Tr)(k _m:Nat)(Y:YS):Prop:=Trading C (accL C (l.take k)) 0 (k+2) Y
theorem vX {B:Nat}{C:Cfg}(hv:Valid C)(l:List Tr):DoTo B (Y0 C) openC fun _ _ Y=>TrR C l 0 0 Y:=by
 have:=lK (B:=B) hv
 unfold TrR;rw [List.take_zero];exact this
theorem vY {B:Nat}{C:Cfg}{l:List Tr}(hin:∀t∈l,TrIn t)(hn:l.length≤60)(k:Nat)(hk:k<l.length)(m:Nat)(Y:YS)(h:TrR C l k m Y):DoTo B Y (tradeC l[k]) fun er _ Y'=>TrR C l (k+1) (if er=0 then m+1 else m) Y':=by
 have:=jg (B:=B) h (by omega) l[k] (hin _ (Ag hk))
 unfold TrR;rw [dG C l k hk];exact this
theorem QAt.modT {w w' w0:World}{B g:Nat}{vm vs vc vl:Value}{C:Cfg}{T:List Tr}{TS:List TypeId}(h:QAt w B g vm vs vc vl C T)(m:ModT B TS [] w w')(h1:55∉TS)(h2:115∉TS)(hc:CSl w0 vm vs vc C)(hB:w0.heap.size≤B)(hb:Bw w0 w):QAt w' B g vm vs vc vl C T:=
 ⟨h.blk.modT m h1,hc.keep (dI m hB hb),ai h.rows m h2,h.l1⟩
theorem QAt.start {w:World}{B:Nat}{vm vs vc:Value}{C:Cfg}(hc:CSl w vm vs vc C)(hB:B≤w.heap.size):QAt (w.alloc (.cells (refC vm vs vc C (.slice none 0 0)) 55)) B w.heap.size vm vs vc (.slice none 0 0) C []:=
 ⟨Blk.new w 55 _,hc.keep Bn,cd _ B 115 8 eRow,hB⟩
theorem rq {B:Nat}{A:YA}{Y:YS}{w:World}{g:Nat}(e:A.gy=g)(h:DyA w B A Y)(ok:YOk Y):Calls Tryz.prog 16 #[ptr g] w (RPo eTr 58 6 Y.G.list w):=by
 subst e;exact lG h ok
theorem zW {B:Nat}{A:YA}{Y:YS}{w:World}{g:Nat}{l:List Ob}(e:A.gy=g)(h:DyA w B A Y)(ok:YOk Y)(he:Y.D.obs=l):Calls Tryz.prog 19 #[ptr g] w (CPo eOb 71 6 l w):=by
 subst e he;exact uM h ok
theorem rt (u v:Value)(L:List Tr)(w:World)(hu:Sl eTr 6 w u L)(hv:Sl eTr 6 w v L)(hn:L.length≤100000):Calls Tryz.prog 15 #[u,v] w fun e w'=>e=.returned (.bool true)∧Bw w w':=
 (rl u v L L w hu hv hn hn).mono fun e w' ⟨r,he,hr,hb⟩=>⟨by rw [he,hr.2 rfl],hb⟩
structure NetFacts (C:Cfg)(L:List Tr)(nets:List Lg)(Y:YS):Prop where
 cut:CutAt C L Y
 acc:Accept C L
 ok:NetsOk C L nets
 obs:Y.D.obs=nets.map (obOf 1)
theorem vZ {C:Cfg}{L T:List Tr}{D:GS}{Y:YS}(hd:RegRel D T)(hC:D.C=C)(hc:CutAt C D.list Y)(hp:L.Perm T)(hr:Rsg Tr.id L):∃nets,NetFacts C L nets Y:=by
 have e:=lP hd hp hr;have a:=d8 hd;rw [e] at hc a;rw [hC] at a;obtain ⟨nets,b,c,_⟩:=hc.nets;exact ⟨nets,hc,a,b,c⟩
theorem yE {C:Cfg}{L:List Tr}(ha:Accept C L)(v:Value)(m a:Int)(w:World)(hv:Sl eLg 3 w v (L.flatMap lg4))(hn:(L.flatMap lg4).length≤100000)(h64:∀x∈L.flatMap lg4,In64 x.amt):Calls Tryz.prog 21 #[v,.int .i64 m,.int .i64 a] w fun e w'=>e=.returned (.tuple #[.int .i64 (netOf (L.flatMap lg4) ⟨m,a⟩),.int .i64 0])∧Bw w w':=by
 have h:=rj v _ m a w hv hn h64;unfold OwedPost at h;rw [if_pos (tV ha ⟨m,a⟩),if_pos (tV ha ⟨m,a⟩)] at h;exact h
theorem yF {L:List Tr}(h:∀t∈L,TrGood t):∀x∈L.flatMap lg4,In64 x.amt:=by
 intro x a;obtain ⟨t,ht,a⟩:=List.mem_flatMap.1 a;have b:=(h t ht).v0;have c:=(h t ht).q0;unfold In64;simp only [lg4,Aq,Be,or_false] at a;rcases a with rfl | rfl | rfl | rfl <;> dsimp only <;> omega
theorem lX (vm vs vc v:Value)(C:Cfg)(l:List Tr)(w:World)(hc:CSl w vm vs vc C)(hl:Sl eTr 6 w v l)(hin:∀t∈l,TrIn t)(hw:Words w):Calls Tryz.prog 4 #[cfgV vm vs vc C,v] w fun e w'=>e=.returned (.bool true)∧Bw w w':=by
 obtain ⟨P,O,rfl,_⟩:=hc.m;obtain ⟨avs,kvs,rfl,_⟩:=hc.s;obtain ⟨avc,kvc,rfl,_,_,hkvc,hcyc⟩:=hc.c;obtain ⟨W1,hW1⟩:∃W1,w.alloc (.cells (cfgC (.slice P C.mem.length O) (.slice avs C.secs.length kvs) (.slice avc C.cyc.length kvc) C) 26)=W1:=⟨_,rfl⟩;have b1:Bw w W1:=by rw [←hW1];exact Bn
 have U:=aa b1;have HB:Hid (Blk W1 w.heap.size 26 (cfgC (.slice P C.mem.length O) (.slice avs C.secs.length kvs) (.slice avc C.cyc.length kvc) C)):=aa (by rw [←hW1];exact Blk.new w 26 _);have aC:=aa hW1;have HC:=aa (hc.keep b1);have HL:=aa (hl.keep b1);have aS:=aa (hw.keep b1);have ak:=aa (ra _ _ _ C W1 (hc.keep b1) none 0 0 0);have aA:=aa (fun W (h:Bw w W)=>qW W (hw.keep h));have al:=aa hin;have a7:=aa hcyc;obtain ⟨ad,a2,rfl,_,h1,h2,_⟩:=hl;unfold maxLen at h2;clear hc hw hin b1 hW1 hcyc;by_cases hv:Valid C
 rotate_left
 ·go_enter Tryz.func4,Tryz.ntmps4;go_wp2_with fail;rw [show w.alloc (.cells #[.slice P C.mem.length O,.slice avs C.secs.length kvs,.slice avc C.cyc.length kvc,.int .i64 C.line,.int .i64 C.capital,.int .i64 C.lead,.int .i64 C.trades,.int .i64 C.bids] 26)=W1 from aC.o];refine ak.o.mono ?_;rintro e w2 ⟨b,rfl,hb,I⟩;obtain rfl:b=false:=by
   cases b with
   | false=>rfl
   | true=>exact absurd (hb.1 rfl).1 hv
  have L2:=aa (U.o.trans (I.mono U.o.size));clear hb I;go_wp2_with (go_at_call 7;refine (aA.o _ L2.o).mono ?_;rintro e w3 ⟨rfl,c3⟩)
  go_ret;exact ⟨rfl,L2.o.trans (c3.mono L2.o.size)⟩
 by_cases hlen:l.length≤60
 rotate_left
 ·have bq:(60:Int)<(l.length:Int):=by omega
  go_enter Tryz.func4,Tryz.ntmps4;go_wp2_with fail;rw [show w.alloc (.cells #[.slice P C.mem.length O,.slice avs C.secs.length kvs,.slice avc C.cyc.length kvc,.int .i64 C.line,.int .i64 C.capital,.int .i64 C.lead,.int .i64 C.trades,.int .i64 C.bids] 26)=W1 from aC.o];refine ak.o.mono ?_;rintro e w2 ⟨b,rfl,hb,I⟩;obtain rfl:b=true:=hb.2 ⟨hv,by decide⟩;have L2:=aa (U.o.trans (I.mono U.o.size));clear hb I;go_wp2_with (go_at_call 7;refine (aA.o _ L2.o).mono ?_;rintro e w3 ⟨rfl,c3⟩)
  go_ret;exact ⟨rfl,L2.o.trans (c3.mono L2.o.size)⟩
 have a8:¬ (60:Int)<(l.length:Int):=by omega
 have HV:=aa hv;have ab:Hid (0<l.length→∃b d,ad=some ⟨b,d,none⟩∧b<W1.heap.size∧∀i (h:i<l.length) j x,(eTr l[i])[j]?=some x→W1.cell? ⟨b,d+i * 6+j,none⟩=some x):=aa (by
  obtain ⟨a',c',bx,_,_,_,ay⟩:=HL.o;obtain ⟨rfl,rfl⟩:ad=a'∧a2=c':=by simpa using bx
  exact ay)
 have Z:Hid (∀t∈l,TrFit t):=aa (fun t ht=>⟨(al.o t ht).qty,(al.o t ht).prc⟩);have Q:=aa (rp (C:=C) Z.o);go_enter Tryz.func4,Tryz.ntmps4;go_wp2_with fail;rw [show w.alloc (.cells #[.slice P C.mem.length O,.slice avs C.secs.length kvs,.slice avc C.cyc.length kvc,.int .i64 C.line,.int .i64 C.capital,.int .i64 C.lead,.int .i64 C.trades,.int .i64 C.bids] 26)=W1 from aC.o];refine ak.o.mono ?_;rintro e w2 ⟨b,rfl,hb,I⟩;obtain rfl:b=true:=hb.2 ⟨hv,by decide⟩;have L2:=aa I;have K2:=aa (HB.o.keep I);have s0:=K2.o.c 0;have s1:=K2.o.c 1;have s2:=K2.o.c 2;have s3:=K2.o.c 3;have s4:=K2.o.c 4;have s5:=K2.o.c 5;have s6:=K2.o.c 6;have s7:=K2.o.c 7;have HT:=aa (lI _ _ _ (.slice ad l.length a2) C l w2 (HC.o.keep I) hv (aS.o.keep I) (HL.o.keep I) (by omega) (TrR C l) (fun B=>vX hv l) (fun B k hk m Y h=>vY al.o hlen k hk m Y h));clear hb I ak aS hv;go_wp2_with fail;refine HT.o.mono ?_;rintro e w3 ⟨B,A,m,Y,rfl,hB2,hday,hY,c3⟩;have D3:=aa hday;have HY:=aa hY;have L3:=aa (L2.o.trans (c3.mono L2.o.size));have K3:=aa (HB.o.keep L3.o);have aj:W1.heap.size≤B:=z5 L2.o.size hB2;have bf:B≤w3.heap.size:=hday.lt;obtain ⟨g,hg⟩:∃g,A.gy=g:=⟨_,rfl⟩;obtain ⟨q,hq⟩:∃q,w3.heap.size=q:=⟨_,rfl⟩;have HG:=aa hg;have Q4:=aa (QAt.start (HC.o.keep L3.o) bf);rw [hq] at Q4;have HQ:=aa hq;rw [hg];clear hday hY c3 HT hg hq K2 s0 s1 s2 s3 s4 s5 s6 s7;have s0:=K3.o.c 0;have s1:=K3.o.c 1;have s2:=K3.o.c 2;have s3:=K3.o.c 3;have s4:=K3.o.c 4;have s5:=K3.o.c 5;have s6:=K3.o.c 6;have s7:=K3.o.c 7
 go_wp2_with fail;rw [HQ.o];go_loopw [8] (fun vi wr=>∃(k:Nat) (vl:Value),k≤l.length∧vi=.int .i64 k∧DyA wr B A Y∧QAt wr B q (.slice P C.mem.length O) (.slice avs C.secs.length kvs) (.slice avc C.cyc.length kvc) vl C (accL C (l.take k))∧Bw W1 wr) (fun vi _=>l.length - (intOf vi).toNat)
 case atStart=>exact ⟨0,.slice none 0 0,Af _,rfl,D3.o.alloc _,by rw [List.take_zero];exact Q4.o,L3.o.alloc L3.o.size _⟩
 case round=>
  obtain ⟨k,vl,hk,rfl,aW,aM,a5⟩:=hrel;have D4:=aa aW;have Q4:=aa aM;have L4:=aa a5;clear aW aM a5;by_cases hlt:k<l.length
  ·obtain ⟨b,d,rfl,u,z⟩:=ab.o (by omega);obtain ⟨r0,r1,r2,r3,r4,r5⟩:=l4 (z k hlt);have q0:=(L4.o.c (p:=⟨b,d+k * 6,none⟩) u).trans r0;have q1:=(L4.o.c (p:=⟨b,d+k * 6+1,none⟩) u).trans r1;have q2:=(L4.o.c (p:=⟨b,d+k * 6+2,none⟩) u).trans r2;have q3:=(L4.o.c (p:=⟨b,d+k * 6+3,none⟩) u).trans r3;have q4:=(L4.o.c (p:=⟨b,d+k * 6+4,none⟩) u).trans r4;have q5:=(L4.o.c (p:=⟨b,d+k * 6+5,none⟩) u).trans r5;have bh:(0:Int)≤(k:Int):=by omega
   have bc:(k:Int)<(l.length:Int):=by omega
   have be:=lL C l k;have am:=Q.o k;have aq:=aa (rb Q4.o (by omega) HV.o am.good am.gross am.units l[k] (Z.o _ (Ag hlt)) W1 HC.o aj L4.o);rw [←dG C l k hlt] at aq;clear z r0 r1 r2 r3 r4 r5 be am;generalize l[k]=t at *;go_wp2_with (go_at_call 14;refine aq.o.mono ?_;rintro e w5 ⟨r,v5,rfl,a4,ax⟩;have Q5:=aa a4;have D5:=aa (D4.o.modO ax (by decide));have L5:=aa (dI ax aj L4.o);clear a4 ax)
   go_roundw
   case rel=>exact ⟨k+1,v5,by omega,by go_num,D5.o,Q5.o,L5.o⟩
   case measure=>exact ar (by omega)
  ·obtain rfl:k=l.length:=by omega
   have bz:¬ ((l.length:Int)<(l.length:Int)):=by omega
   obtain ⟨T,hT⟩:∃T,accL C (l.take l.length)=T:=⟨_,rfl⟩;have ah:Hid (Trading C T 0 (l.length+2) Y):=aa (by rw [←hT];exact HY.o);have bw:T.length≤60:=by rw [←hT];exact z5 (lL C l _) hlen
   have bm:Hid (AccOk T):=aa (by rw [←hT];exact Q.o _);rw [hT] at Q4;have aQ:=aa (rq HG.o D4.o ah.o.ok);clear hT HY Q Z ab al;go_wp2_with fail;refine aQ.o.mono ?_;rintro e w5 ⟨v5,rfl,o5,c5⟩;have D5:=aa (D4.o.keep c5);have Q5:=aa (Q4.o.keep c5);have L5:=aa (L4.o.trans (c5.mono L4.o.size));have O5:=aa (Sl.own kTr o5);have aU:=aa (fq Q5.o (by omega) (jk ah.o.rel));clear o5 c5 aQ;go_wp2_with fail;refine aU.o.mono ?_;rintro e w6 ⟨v6,L,rfl,o6,hperm,hrise,c6⟩;have aY:=aa hperm;have aL:=aa hrise;have bH:L.length≤60:=by rw [hperm.length_eq];exact bw
   have V:Y.G.list=L:=lP ah.o.rel hperm hrise;rw [V] at O5;have D6:=aa (D5.o.keep c6);have Q6:=aa (Q5.o.keep c6);have L6:=aa (L5.o.trans (c6.mono L5.o.size));have R:=aa (rt v5 v6 L w6 (O5.o.keep c6) (Sl.own kTr o6) (by omega));clear o6 c6 aU hperm hrise V D5 Q5 L5 O5;go_wp2_with fail;refine R.o.mono ?_;rintro e w7 ⟨rfl,c7⟩;have D7:=aa (D6.o.keep c7);have Q7:=aa (Q6.o.keep c7);have L7:=aa (L6.o.trans (c7.mono L6.o.size));clear c7 R D6 Q6 L6;obtain ⟨x,lc,hcy,hx,_,hx1,hx2,hx3,_⟩:=eS HV.o;obtain ⟨n,hn⟩:∃n:Nat,x.cut=(n:Int):=⟨x.cut.toNat,by omega⟩;have bF:1≤n:=by omega
   have bL:n≤1000:=by omega
   have av:0<C.cyc.length:=by rw [hcy];simp
   obtain ⟨cb,co,rfl,aF,au⟩:=a7.o av;have z0:w7.cell? ⟨cb,co,none⟩=some (.int .i64 (n:Int)):=by
    have hz:=au 0 av 0 (.int .i64 (n:Int)) (by rw [←hn];simp only [hcy,Aw];rfl);rw [Nat.zero_mul,AU] at hz;exact (L7.o.c (p:=⟨cb,co,none⟩) (AR aF U.o.size)).trans ((U.o.c (p:=⟨cb,co,none⟩) aF).trans hz)
   have bI:(0:Int)<(C.cyc.length:Int):=by omega
   have k2:=(HB.o.keep L7.o).c 2;have aI:=aa (eW HG.o D7.o n (by omega) (TickR C T n (l.length+2)) ⟨fun _=>ah.o,fun e=>by omega⟩ (fun i hi Y1 h1=>gW (by rw [hx,hn]) (by omega) i hi Y1 h1));clear hcy hx hx1 hx2 hx3 hn au;go_wp2_with fail;refine aI.o.mono ?_;rintro e w8 ⟨A8,Y8,rfl,ac,aO⟩;obtain ⟨D,hd1,hd2,hd3⟩:=aO.2 rfl;obtain ⟨nets,nf⟩:=vZ hd1 hd2 hd3 aY.o aL.o;have K:=aa nf;have D8:=aa ac.at';have G8:=aa (ac.gy.trans HG.o);have L8:=aa (dI ac.mod aj L7.o);have Q8:=aa (Q7.o.modT ac.mod (by decide) (by decide) HC.o aj L7.o);have aX:=aa (zW G8.o D8.o nf.cut.ok nf.obs);clear ac aO hd1 hd2 hd3 nf D7 L7 Q7 z0 k2 aI aF;go_wp2_with fail;refine aX.o.mono ?_;rintro e w9 ⟨v9,rfl,o9,c9⟩;have O9:=aa (Sl.own kOb o9);have D9:=aa (D8.o.keep c9);have L9:=aa (L8.o.trans (c9.mono L8.o.size));have ap:=aa (od (Q8.o.keep c9) (by omega) (jk ah.o.rel) bm.o.good);clear o9 c9 aX D8 L8 Q8;go_wp2_with fail;refine ap.o.mono ?_;rintro e w10 ⟨v10,M2,rfl,hp2,hr2,o10,c10⟩;obtain rfl:L=M2:=(i4 Tr.id _ _ hr2 aL.o (hp2.trans aY.o.symm)).symm;have bd:=aa (Sl.own kLg o10);have a0:=aa (O9.o.keep c10);have bD:=aa (D9.o.keep c10);have M:=aa (L9.o.trans (c10.mono L9.o.size));have J:=aa (HB.o.keep M.o);clear o10 c10 hp2 hr2 ap O9 D9 L9;obtain ⟨a9,k9,rfl,_,_,h9,hc9⟩:=a0.o;rw [Ad];have ba:Hid (0<nets.length→∃b d,a9=some ⟨b,d,none⟩∧b<w10.heap.size∧∀i (h:i<nets.length) j x,(eOb (obOf 1 nets[i]))[j]?=some x→w10.cell? ⟨b,d+i * 6+j,none⟩=some x):=aa (fun h=>by
    obtain ⟨b,d,e1,e2,e3⟩:=hc9 (by rw [Ad];exact h);refine ⟨b,d,e1,e2,fun i hi j x hx=>e3 i (by rw [Ad];exact hi) j x ?_⟩;rw [AW];exact hx)
   have bA:=K.o.ok.len;have bE:=HV.o.m2;have bJ:=HV.o.s2;have bv:Hid ((L.flatMap lg4).length≤100000):=aa (by rw [eP];omega);have ap:=aa (yF K.o.acc.good);unfold maxLen at h9;clear hc9 a0;have bu:=J.o.c 0;have bn:=J.o.c 1;go_wp2_with fail;go_loopw [12,11] (fun va vf wr=>∃(a f:Nat),a≤C.secs.length+1∧va=.int .i64 a∧vf=.int .i64 f∧f≤2048∧IsC nets a 1 f∧Bw w10 wr) (fun va _ _=>C.secs.length+1 - (intOf va).toNat)
   case atStart=>exact ⟨0,0,Af _,rfl,rfl,by decide,uW K.o.acc K.o.ok,zZ _ _⟩
   case round=>
    obtain ⟨a,f,ha,rfl,rfl,hf,aH,ao⟩:=hrel;have aP:=aa aH;have S:=aa ao;have bl:=(J.o.keep ao).c 0;have bg:=(J.o.keep ao).c 1;clear aH ao;by_cases hlt:a≤C.secs.length
    ·have bp:(a:Int)≤(C.secs.length:Int):=by omega
     go_wp2_with fail;go_loopw [14,13,11] (fun vmm vss vf wr=>∃(j f2:Nat) (E s:Int),j≤C.mem.length∧vmm=.int .i64 E∧vss=.int .i64 s∧vf=.int .i64 f2∧(1≤E∧E≤17)∧f2≤2048∧Hid (E=(j:Int)+1)∧IsC nets a E f2∧IsS (L.flatMap lg4) a j s∧Bw w10 wr) (fun vmm _ _ _=>C.mem.length+1 - (intOf vmm).toNat)
     case atStart=>exact ⟨0,f,1,0,Af _,rfl,rfl,rfl,by decide,hf,aa rfl,aP.o,uZ _ _,S.o⟩
     case round=>
      obtain ⟨j,f2,E,s,hj,rfl,rfl,rfl,bK,bo,ag,aT,aK,an⟩:=hrel;have a3:=aa aT;have R:=aa aK;have ai:=aa an;have br:=(J.o.keep an).c 0;have bb:=(J.o.keep an).c 1;clear aT aK an bl bg bu bn;by_cases hjl:j<C.mem.length
      ·have aJ:E≤(C.mem.length:Int):=by have:=ag.o;omega
       obtain ⟨N,hN⟩:∃N,netOf (L.flatMap lg4) ⟨E,(a:Int)⟩=N:=⟨_,rfl⟩;have aD:=aa hN;have aV:=aa (yE K.o.acc v10 E a _ (bd.o.keep ai.o) bv.o ap.o);rw [hN] at aV;clear hN;go_wp2_with (go_at_call 21;refine aV.o.mono ?_;rintro e x1 ⟨rfl,c1⟩;have bs:=aa (ai.o.trans (c1.mono ai.o.size));clear c1)
       go_loopw [17,15,11] (fun vi vn vf wr=>∃(i f3:Nat) (nn:Int),i≤nets.length∧vi=.int .i64 i∧vn=.int .i64 nn∧vf=.int .i64 f3∧IsN nets E a N i nn∧IsF nets E a i f3∧Bw w10 wr) (fun vi _ _ _=>nets.length - (intOf vi).toNat)
       case atStart=>exact ⟨0,f2,N,Af _,rfl,rfl,rfl,uY _ _ _ _,uV a3.o,bs.o⟩
       case round=>
        obtain ⟨i,f3,nn,hi,rfl,rfl,rfl,a6,az,aw⟩:=hrel;have aG:=aa a6;have aB:=aa az;have y:=aa aw;have bi:=zN az bA;have bG:=(J.o.keep aw).c 0;clear a6 az aw br bb;by_cases hil:i<nets.length
        ·obtain ⟨b,d,rfl,u,z⟩:=ba.o (by omega);have r0:=(y.o.c (p:=⟨b,d+i * 6,none⟩) u).trans (z i hil 0 _ rfl);have r1:=(y.o.c (p:=⟨b,d+i * 6+1,none⟩) u).trans (z i hil 1 _ rfl);have r2:=(y.o.c (p:=⟨b,d+i * 6+2,none⟩) u).trans (z i hil 2 _ rfl);have r3:=(y.o.c (p:=⟨b,d+i * 6+3,none⟩) u).trans (z i hil 3 _ rfl);have r4:=(y.o.c (p:=⟨b,d+i * 6+4,none⟩) u).trans (z i hil 4 _ rfl);have r5:=(y.o.c (p:=⟨b,d+i * 6+5,none⟩) u).trans (z i hil 5 _ rfl);have bh:(0:Int)≤(i:Int):=by omega
         have bc:(i:Int)<(nets.length:Int):=by omega
         have a1:=aa (fun h=>zO K.o.ok aD.o hil h aG.o aB.o);have ae:=aa (fun h=>yp hil h aG.o aB.o);have aE:Hid (hitP E a nets[i]=(decide (nets[i].mem=E)&&decide (nets[i].ass=(a:Int)))):=aa rfl;clear z;generalize nets[i]=x at *;simp only [obOf] at r0 r1 r2 r3 r4 r5;by_cases e1:x.mem=E
         ·by_cases e2:x.ass=(a:Int)
          ·obtain ⟨rfl,aR,rfl,H,F⟩:=a1.o (by rw [aE.o];simp [e1,e2]);have d0:(nn==0)=false:=by simpa using aR
           have X:=aa H;have af:=aa F;clear e1 e2 aR H F;simp only at r1 r2 r3
           go_wp2_with fail;go_roundw
           case rel=>exact ⟨i+1,f3+1,0,by omega,by go_num,rfl,by go_num,X.o,af.o,y.o⟩
           case measure=>exact ar (by omega)
          ·obtain ⟨H,F⟩:=ae.o (by rw [aE.o];simp [e2]);have X:=aa H;have af:=aa F;have d1:(x.mem==E)=true:=by simpa using e1
           have d2:(x.ass==(a:Int))=false:=by simpa using e2
           clear e1 e2 H F;go_wp2_with fail;go_roundw
           case rel=>exact ⟨i+1,f3,nn,by omega,by go_num,rfl,rfl,X.o,af.o,y.o⟩
           case measure=>exact ar (by omega)
         ·obtain ⟨H,F⟩:=ae.o (by rw [aE.o];simp [e1]);have X:=aa H;have af:=aa F;have d1:(x.mem==E)=false:=by simpa using e1
          clear e1 H F;go_wp2_with fail;go_roundw
          case rel=>exact ⟨i+1,f3,nn,by omega,by go_num,rfl,rfl,X.o,af.o,y.o⟩
          case measure=>exact ar (by omega)
        ·obtain rfl:i=nets.length:=by omega
         have bz:¬ ((nets.length:Int)<(nets.length:Int)):=by omega
         obtain rfl:nn=0:=yo K.o.ok (by rw [aD.o];exact aG.o);have bk:=aa (yk aB.o);have bC:=aa (u8 R.o ag.o aD.o);go_wp2_with fail;go_roundw
         case rel=>exact ⟨j+1,f3,E+1,wrap64 (s+N),by omega,by go_num,by go_num,rfl,by have:=ag.o;omega,bi,aa (by have:=ag.o;omega),bk.o,bC.o,y.o⟩
         case measure=>simp [intOf];omega
      ·have aN:=ag.o;obtain rfl:j=C.mem.length:=by omega
       have aJ:¬ E≤(C.mem.length:Int):=by omega
       obtain rfl:s=0:=yq K.o.acc R.o;have bj:Hid (IsC nets ((a:Int)+1) 1 f2):=aa (uX K.o.acc K.o.ok (by rw [←aN];exact a3.o));clear aN;go_wp2_with fail;go_roundw
       case rel=>exact ⟨a+1,f2,by omega,by go_num,rfl,bo,bj.o,ai.o⟩
       case measure=>exact ar (by omega)
    ·obtain rfl:a=C.secs.length+1:=by omega
     have bp:¬ ((C.secs.length+1:Nat):Int)≤(C.secs.length:Int):=by omega
     obtain rfl:f=nets.length:=yl K.o.acc K.o.ok aP.o;have aZ:=aa (aA.o _ (U.o.trans ((M.o.trans (S.o.mono M.o.size)).mono U.o.size)));go_wp2_with (first
      | (go_at_call 7;refine aZ.o.mono ?_;rintro e x2 ⟨rfl,I⟩;have bB:=aa (lS G8.o ((bD.o.keep S.o).keep I) K.o.cut.phs);have bt:=aa ((U.o.trans ((M.o.trans (S.o.mono M.o.size)).mono U.o.size)).trans (I.mono (z5 U.o.size (z5 M.o.size S.o.size))));clear I)
      | (go_at_call 22;refine bB.o.mono ?_;rintro e x3 ⟨rfl,rfl⟩))
     go_ret;exact ⟨rfl,bt.o⟩
end
end Go.Proofs.YtmhohaanddglbaaGreatDoor
namespace Go.Proofs.YtmhohaanddglbaaGreatDoor
open Go.ChangeShapes Go.WideShapes Go.Deep
section
variable {H:Type}{enc:TypeId×Value→H}{P:Program}{w:World}{base:Nat}{spare:Nat→Bool}{held:Bool}
theorem eD {t e:TypeId}{fs:Array Field}{fuel:Nat}{cs:List Value}{x:DataW H×List MemPlace}(ht:P.underlying t=some (.slice e))(he:P.underlying e=some (.struct fs))
  (hone:oneCellFields P fs=true) (hC:P.cellsOf e=fs.size) (h:DataW.trod enc P w base spare held fuel t cs=some x) :
  (cs=[.slice none 0 0]∧x=(.nil,[]))∨
  ∃(a:Addr) (len cap m:Nat) (D:Nat→DataW H) (Pl:Nat→List MemPlace),cs=[.slice (some a) len cap]∧base≤a.block∧len≤cap∧cap≤maxLen∧m=(if spare a.block then cap else len)∧
   x=(.slice ((List.range len).map D) ((List.range (m - len)).map fun j=>D (len+j)),MemPlace.row a (m * fs.size)++(List.range m).flatMap Pl)∧
   ∀i,i<m→∃(ys:List (DataW H×List MemPlace)) (n:Nat),D i=.agg (ys.map (·.1))∧Pl i=ys.flatMap (·.2)∧ys.length=fs.size∧
    ∀(j:Nat) (f:Field),fs[j]?=some f→∃(v:Value) (y:DataW H×List MemPlace),w.cell? (a.add (i * fs.size+j))=some v∧ys[j]?=some y∧DataW.trod enc P w base spare held n f.type [v]=some y:=by
 rcases open_slice ht h with h0 | ⟨a,len,cap,m,n,D,Pl,hcs,hb,hl,hm,hmm,hx,hi⟩
 ·exact .inl h0
 ·refine .inr ⟨a,len,cap,m,D,Pl,hcs,hb,hl,hm,hmm,by rw [hC] at hx;exact hx,fun i him=>?_⟩;obtain ⟨b,p,k⟩:=hi i him;rw [hC] at p;obtain ⟨ys,n',hn',hy,hlen,hyl,hf⟩:=DataW.trod_struct he k;obtain ⟨_,hcl,hat⟩:=World.cells?_some p;simp only [Prod.mk.injEq] at hy;refine ⟨ys,n',hy.1,hy.2,hyl,fun j f hj=>?_⟩;obtain ⟨ho,hk⟩:=hone_of hone j f hj;have l:j<fs.size:=(Array.getElem?_eq_some_iff.1 hj).1;have d:=hat j l;have q:b[j]?=some (b[j]'(by omega)):=Ab (by omega);have o:=hf j f hj;rw [ho,hk] at o;have c:(b.drop j).take 1=[b[j]'(by omega)]:=by
   rw [Bi (by omega)];rfl
  rw [c] at o;have g:ys[j]?=some (ys[j]'(by omega)):=Ab (by omega);refine ⟨_,_,?_,g,o.trans g⟩;rw [←Go.Deep.add_add,d,q]
theorem g6 {W:World}{x:Addr}{v:Value}(h:W.cell? x=some v):x=⟨x.block,x.off,none⟩:=by
 obtain ⟨b,o,s⟩:=x;cases s with
 | none=>rfl
 | some s=>
  unfold World.cell? at h;simp at h;split at h <;> simp_all
theorem lY {W:World}{b o:Nat}{v:Value}(h:W.cell? ⟨b,o,none⟩=some v):b<W.heap.size:=by
 rcases Az b W.heap.size with h' | h'
 ·exact h'
 ·simp [World.cell?,AO h'] at h
theorem fit64 {n:Int}(h:(Lit.int .i64 n).wf=true):In64 n:=by
 simp [Lit.wf,IntKind.min,IntKind.max,IntKind.signed,IntKind.bits] at h
 unfold In64;omega
theorem dJ {α:Type}(en:α→List Value)(k:Nat)(dec:(Nat→Int)→α)(hk:∀f,en (dec f)=(List.range k).map fun j=>.int .i64 (f j))(hk0:0<k){t e:TypeId}{fs:Array Field}(ht:P.underlying t=some (.slice e))(he:P.underlying e=some (.struct fs))(hfs:fs.size=k)
  (hone:oneCellFields P fs=true) (hC:P.cellsOf e=fs.size) (hint:∀(j:Nat) (f:Field),fs[j]?=some f→P.underlying f.type=some (.int .i64)) {fuel:Nat} {v:Value} {x:DataW H×List MemPlace} (h:DataW.trod enc P w 0 (fun _=>true) true fuel t [v]=some x) :
  ∃l:List α,Sl en k w v l∧∀y∈l,∃f:Nat→Int,y=dec f∧∀j,j<k→In64 (f j):=by
 rcases eD ht he hone hC h with ⟨hcs,_⟩ | ⟨a,n,c,m,D,Pl,hcs,_,hl,hm,hmm,_,hi⟩
 ·simp at hcs;subst hcs;exact ⟨[],Sl.nil en k w,by simp⟩
 ·simp at hcs;subst hcs;simp only [if_true] at hmm;have r:∀i,∃f:Nat→Int,i<n→∀j,j<k→w.cell? (a.add (i * k+j))=some (.int .i64 (f j))∧In64 (f j):=by
   intro i;by_cases d:i<n
   ·obtain ⟨G,F,_,_,_,s⟩:=hi i (by omega);have C:∀j,∃z:Int,j<k→w.cell? (a.add (i * k+j))=some (.int .i64 z)∧In64 z:=by
     intro j;by_cases g:j<k
     ·have q:j<fs.size:=by omega
      obtain ⟨u,y,o,_,E⟩:=s j fs[j] (Array.getElem?_eq_getElem q);obtain ⟨z,e0,_,w0⟩:=DataW.trod_int (hint j _ (Array.getElem?_eq_getElem q)) E;simp at e0;subst e0;rw [hfs] at o;exact ⟨z,fun _=>⟨o,fit64 w0⟩⟩
     ·exact ⟨0,fun h=>absurd h g⟩
    obtain ⟨f,p⟩:=Classical.axiomOfChoice C;exact ⟨f,fun _ j g=>p j g⟩
   ·exact ⟨fun _=>0,fun h=>absurd h d⟩
  obtain ⟨f,p⟩:=Classical.axiomOfChoice r;have b:((List.range n).map fun i=>dec (f i)).length=n:=by simp
  refine ⟨(List.range n).map fun i=>dec (f i),⟨some a,c,by rw [b],fun h=>(by cases h),by rw [b];exact hl,hm,fun h0=>?_⟩,fun y hy=>?_⟩
  ·rw [b] at h0;have B:=(p 0 h0 0 hk0).1;have A:a=⟨a.block,a.off,none⟩:=g6 (v:=.int .i64 (f 0 0)) (by simpa [Addr.add] using B);refine ⟨a.block,a.off,by rw [←A],?_,fun i d j u o=>?_⟩
   ·rw [A,add_plain] at B;exact lY B
   ·rw [b] at d;simp only [AW,List.getElem_range] at o;rw [hk] at o;have g:j<k:=by
     have:=(AA.1 o).1
     simpa using this
    rw [List.getElem?_map,List.getElem?_range g] at o;simp at o;have z:=(p i d j g).1;rw [A,add_plain] at z;rw [←o,Nat.add_assoc];exact z
  ·simp only [AD,List.mem_range] at hy;obtain ⟨i,d,rfl⟩:=hy;exact ⟨f i,rfl,fun j C=>(p i d j C).2⟩
theorem ru {r:Reach}{b0:Nat}{t:TypeId}{f0 f1 f2 f3 f4 f5 f6 f7:Field}{v:Value}{d:DataW H}{p:List MemPlace}(hs:P.underlying t=some (.struct #[f0,f1,f2,f3,f4,f5,f6,f7]))(hone:oneCellFields P #[f0,f1,f2,f3,f4,f5,f6,f7]=true)(hC:P.cellsOf t=8)
  (hv:Value.okWide P w r b0 t v) (h:DataW.Trod enc P w base spare held t v d p) :
  ∃(v0 v1 v2 v3 v4 v5 v6 v7:Value) (y0 y1 y2 y3 y4 y5 y6 y7:DataW H×List MemPlace) (n:Nat),v=.agg #[v0,v1,v2,v3,v4,v5,v6,v7]∧DataW.trod enc P w base spare held n f0.type [v0]=some y0∧DataW.trod enc P w base spare held n f1.type [v1]=some y1∧DataW.trod enc P w base spare held n f2.type [v2]=some y2∧DataW.trod enc P w base spare held n f3.type [v3]=some y3∧DataW.trod enc P w base spare held n f4.type [v4]=some y4∧DataW.trod enc P w base spare held n f5.type [v5]=some y5∧DataW.trod enc P w base spare held n f6.type [v6]=some y6∧DataW.trod enc P w base spare held n f7.type [v7]=some y7:=by
 obtain ⟨f,rfl,a⟩:=okWide_struct hs hv;obtain ⟨l⟩:=f;match l,a.trans hC with
 | [c0,c1,c2,c3,c4,c5,c6,c7],_=>
  obtain ⟨b,c⟩:=h;obtain ⟨xs,n,_,hx,_,hlen,hg⟩:=DataW.trod_struct hs c;obtain ⟨o0,k0⟩:=hone_of hone 0 f0 rfl;obtain ⟨o1,k1⟩:=hone_of hone 1 f1 rfl;obtain ⟨o2,k2⟩:=hone_of hone 2 f2 rfl;obtain ⟨o3,k3⟩:=hone_of hone 3 f3 rfl;obtain ⟨o4,k4⟩:=hone_of hone 4 f4 rfl;obtain ⟨o5,k5⟩:=hone_of hone 5 f5 rfl;obtain ⟨o6,k6⟩:=hone_of hone 6 f6 rfl;obtain ⟨o7,k7⟩:=hone_of hone 7 f7 rfl;match xs,hlen with
  | [y0,y1,y2,y3,y4,y5,y6,y7],_=>
   exact ⟨c0,c1,c2,c3,c4,c5,c6,c7,y0,y1,y2,y3,y4,y5,y6,y7,n,rfl,by simpa [Value.cells,o0,k0] using hg 0 f0 rfl,by simpa [Value.cells,o1,k1] using hg 1 f1 rfl,by simpa [Value.cells,o2,k2] using hg 2 f2 rfl,by simpa [Value.cells,o3,k3] using hg 3 f3 rfl,by simpa [Value.cells,o4,k4] using hg 4 f4 rfl,by simpa [Value.cells,o5,k5] using hg 5 f5 rfl,by simpa [Value.cells,o6,k6] using hg 6 f6 rfl,by simpa [Value.cells,o7,k7] using hg 7 f7 rfl⟩
end
abbrev zeroCfg:Value:=.agg #[.slice none 0 0,.slice none 0 0,.slice none 0 0,.int .i64 0,.int .i64 0,.int .i64 0,.int .i64 0,.int .i64 0]
section
variable {H:Type}{enc:TypeId×Value→H}
theorem dK {P:Program}{fs:Array Field}(h:∀f∈fs.toList,P.underlying f.type=some (.int .i64)):∀(j:Nat) (f:Field),fs[j]?=some f→P.underlying f.type=some (.int .i64):=fun j f hj=>
 h f (by have:=Array.mem_of_getElem? hj;exact this.val)
theorem wb {W:World}{r:Reach}{b0:Nat}{v:Value}{d:DataW H}{p:List MemPlace}(hv:Value.okWide Tryz.prog W r b0 26 v)(h:DataW.Trod enc Tryz.prog W 0 (fun _=>true) true 26 v d p) :
  ∃(vm vs vc:Value) (C:Cfg),v=cfgV vm vs vc C∧CSl W vm vs vc C:=by
 obtain ⟨s,q,i,y,A,G,z,I,E,B,J,F,D,K,x,u,n,rfl,t,g,b,c,j,m,l,k⟩:=ru Tryz.underlying26 (by kernel_rfl) (by kernel_rfl) hv h;obtain ⟨a3,e3,_,w3⟩:=DataW.trod_int Tryz.underlying2 c;obtain ⟨a4,e4,_,w4⟩:=DataW.trod_int Tryz.underlying2 j;obtain ⟨a5,e5,_,w5⟩:=DataW.trod_int Tryz.underlying3 m;obtain ⟨a6,e6,_,w6⟩:=DataW.trod_int Tryz.underlying3 l;obtain ⟨a7,e7,_,w7⟩:=DataW.trod_int Tryz.underlying3 k;simp at e3 e4 e5 e6 e7;subst e3 e4 e5 e6 e7;obtain ⟨lm,sm,_⟩:=dJ eMb 2 (fun f=>⟨f 0,f 1⟩) (fun _=>rfl) (by decide) Tryz.underlying22 Tryz.underlying125 rfl (by kernel_rfl) (by kernel_rfl) (dK (by intro f hf;simp at hf;first | (rcases hf with rfl | rfl | rfl | rfl | rfl | rfl <;> (first | exact Tryz.underlying2 | exact Tryz.underlying3)) | (rcases hf with rfl | rfl | rfl | rfl <;> (first | exact Tryz.underlying2 | exact Tryz.underlying3)) | (rcases hf with rfl | rfl <;> (first | exact Tryz.underlying2 | exact Tryz.underlying3)))) t;obtain ⟨ls,ss,_⟩:=dJ eSc 2 (fun f=>⟨f 0,f 1⟩) (fun _=>rfl) (by decide) Tryz.underlying23 Tryz.underlying127 rfl (by kernel_rfl) (by kernel_rfl) (dK (by intro f hf;simp at hf;first | (rcases hf with rfl | rfl | rfl | rfl | rfl | rfl <;> (first | exact Tryz.underlying2 | exact Tryz.underlying3)) | (rcases hf with rfl | rfl | rfl | rfl <;> (first | exact Tryz.underlying2 | exact Tryz.underlying3)) | (rcases hf with rfl | rfl <;> (first | exact Tryz.underlying2 | exact Tryz.underlying3)))) g
 obtain ⟨a,o,_⟩:=dJ eCy 4 (fun f=>⟨f 0,f 1,f 2,f 3⟩) (fun _=>rfl) (by decide) Tryz.underlying24 Tryz.underlying63 rfl (by kernel_rfl) (by kernel_rfl) (dK (by intro f hf;simp at hf;first | (rcases hf with rfl | rfl | rfl | rfl | rfl | rfl <;> (first | exact Tryz.underlying2 | exact Tryz.underlying3)) | (rcases hf with rfl | rfl | rfl | rfl <;> (first | exact Tryz.underlying2 | exact Tryz.underlying3)) | (rcases hf with rfl | rfl <;> (first | exact Tryz.underlying2 | exact Tryz.underlying3)))) b;exact ⟨s,q,i,⟨lm,ls,a,a3,a4,a5,a6,a7⟩,rfl,⟨sm,ss,o⟩⟩
theorem lZ {W:World}{a:Option Addr}{n c:Nat}{d:DataW H}{p:List MemPlace}(h:DataW.Trod enc Tryz.prog W 0 (fun _=>true) true 49 (.slice a n c) d p) :
  ∃l:List Tr,Sl eTr 6 W (.slice a n c) l∧∀t∈l,TrIn t:=by
 obtain ⟨g,b⟩:=h;have i:DataW.trod enc Tryz.prog W 0 (fun _=>true) true g 49 [.slice a n c]=some (d,p):=by simpa [Value.cells] using b
 obtain ⟨l,j,k⟩:=dJ eTr 6 (fun f=>⟨f 0,f 1,f 2,f 3,f 4,f 5⟩) (fun _=>rfl) (by decide) Tryz.underlying49 Tryz.underlying58 rfl (by kernel_rfl) (by kernel_rfl) (dK (by intro f b;simp at b;first | (rcases b with rfl | rfl | rfl | rfl | rfl | rfl <;> (first | exact Tryz.underlying2 | exact Tryz.underlying3)) | (rcases b with rfl | rfl | rfl | rfl <;> (first | exact Tryz.underlying2 | exact Tryz.underlying3)) | (rcases b with rfl | rfl <;> (first | exact Tryz.underlying2 | exact Tryz.underlying3)))) i;refine ⟨l,j,fun t ht=>?_⟩;obtain ⟨f,rfl,hj⟩:=k t ht;exact ⟨hj 0 (by decide),hj 1 (by decide),hj 2 (by decide),hj 3 (by decide),hj 4 (by decide),hj 5 (by decide)⟩
end
end Go.Proofs.YtmhohaanddglbaaGreatDoor
