/- Texts of the proof of TopNets, joined: Gen, Num, Num2, Types, Small, Conf, Conf2, Conf3, New, New2, New3, Frame. -/
import Derived.Test.YtmhohaanddglbaaGreatDoorProg
import Derived.WalkKit
import Derived.WalkSpells
import Derived.Lib.Hide
import Derived.Outline
import Derived.IntWalk
import Derived.Below
import Derived.Laws.AppendOwn
import Derived.Laws.Rows
import Derived.WideShapes
import Derived.Deep.QuietTactic
import Derived.BigQuiet
import Derived.RegionTactic
import Derived.Laws.EntriesVeiled
import Derived.Laws.Externs
import Derived.Deep.RegionHeld3
import Derived.Deep.DrawnRows
import Derived.Great.BuildSlice
import Derived.Laws.CopyOwn
import Derived.WalkLawsBesides
import Derived.Laws.MakeOwn
set_option linter.all false
set_option maxRecDepth 100000
set_option maxHeartbeats 16000000
namespace Go.RowKit
theorem Hid.o {p:Prop}(h:Hid p):p:=h.out
def Below.c:=@Below.cell
abbrev Bw (w w':World):Prop:=Below w.heap.size w w'
end Go.RowKit
namespace Go
def World.grownBy.c:=@World.grownBy.cell
end Go
namespace Go.Proofs.YtmhohaanddglbaaGreatDoor
open Go.RowKit
theorem aa {p:Prop}(h:p):Go.RowKit.Hid p:=Go.Lib.hid h
theorem Bn {w:World}{o:Obj}:Below w.heap.size w (w.alloc o):=(Below.refl _ _).alloc (Nat.le_refl _) o
def zY:=@Nat.le_refl
def zZ:=@Go.RowKit.Below.refl
def z4:=@List.setIfInBounds_toArray
def z5:=@Nat.le_trans
def z6:=@List.set_cons_zero
def z7:=@List.set_cons_succ
def z8:=@List.length_append
def z9:=@List.take_succ_eq_append_getElem
def Aa:=@List.length_take
def Ab:=@List.getElem?_eq_getElem
def Ad:=@List.length_map
def Ae:=@List.take_of_length_le
def Af:=@Nat.zero_le
def Ag:=@List.getElem_mem
def Ah:=@List.getD_eq_getElem?_getD
def Ai:=@List.length_singleton
def Aj:=@Go.WideShapes.add_plain
def Ak:=@List.length_filterMap_le
def Al:=@List.length_drop
def Am:=@List.map_cons
def An:=@Go.RowKit.Below.heap_setCell
def Ao:=@List.getElem_of_mem
def Ap:=@List.take_length
def Aq:=@List.mem_cons
def Ar:=@List.eq_nil_of_length_eq_zero
def As:=@List.mem_cons_self
def At:=@List.any_eq_true
def Au:=@List.append_assoc
def Av:=@Nat.zero_add
def Aw:=@List.getElem_cons_zero
def Ax:=@Go.IntWalk.i64_in
def Ay:=@List.length_cons
def Az:=@Nat.lt_or_ge
def AA:=@List.getElem?_eq_some_iff
def AB:=@List.sum_cons
def AC:=@List.getElem?_append_left
def AD:=@List.mem_map
def AE:=@List.getElem?_take
def AF:=@Nat.mul_le_mul_right
def AG:=@List.mem_cons_of_mem
def AH:=@List.length_set
def AI:=@List.map_append
def AJ:=@List.mem_append
def AK:=@List.getElem?_append_right
def AL:=@List.length_nil
def AM:=@List.getElem?_toArray
def AN:=@List.mem_filterMap
def AO:=@Array.getElem?_eq_none
def AP:=@List.size_toArray
def AQ:=@Int.lt_or_le
def AR:=@Nat.lt_of_lt_of_le
def AS:=@List.mem_filter
def AT:=@Go.World.drewN_drewN
def AU:=@Nat.add_zero
def AV:=@List.length_filter_le
def AW:=@List.getElem_map
def AY:=@List.ext_getElem?
def AZ:=@Go.World.cell?_of_block
def A0:=@Nat.mul_one
def A9:=@List.getElem_cons_succ
def Ba:=@Go.World.ownsRow_made
def Bb:=@Nat.min_eq_left
def Bc:=@List.length_replicate
def Be:=@List.not_mem_nil
def Bf:=@Array.getElem?_setIfInBounds_ne
def Bg:=@List.nodup_iff_pairwise_ne
def Bh:=@List.mem_of_mem_drop
def Bi:=@List.drop_eq_getElem_cons
def Bj:=@List.any_eq_false
def Bk:=@Array.getElem?_setIfInBounds
def Bl:=@List.nil_append
def Bm:=@List.append_nil
def Blk (w:World)(g:Nat)(T:TypeId)(cs:Array Value):Prop:=w.heap[g]?=some (.cells cs T (0,0))
theorem Blk.lt {w:World}{g:Nat}{T:TypeId}{cs:Array Value}(h:Blk w g T cs):g<w.heap.size:=by
 unfold Blk at h;rcases Az g w.heap.size with h' | h'
 ·exact h'
 ·simp [AO h'] at h
theorem Blk.c {w:World}{g:Nat}{T:TypeId}{cs:Array Value}(h:Blk w g T cs)(j:Nat):w.cell? ⟨g,j,none⟩=cs[j]?:=by
 unfold Blk at h;simp [World.cell?,h]
theorem Blk.free {w:World}{g:Nat}{T:TypeId}{cs:Array Value}(h:Blk w g T cs)(j:Nat):w.frozen? ⟨g,j,none⟩=false:=by
 unfold Blk at h;simp [World.frozen?,h]
theorem Blk.new (w:World)(T:TypeId)(cs:Array Value):Blk (w.alloc (.cells cs T)) w.heap.size T cs:=heap_alloc_new _ _
theorem Blk.alloc {w:World}{g:Nat}{T:TypeId}{cs:Array Value}(h:Blk w g T cs)(o:Obj):Blk (w.alloc o) g T cs:=(Below.heap_alloc w o g h.lt).trans h
theorem Blk.keep {w w':World}{g:Nat}{T:TypeId}{cs:Array Value}(h:Blk w g T cs)(hb:Bw w w'):Blk w' g T cs:=(hb.block g h.lt).trans h
theorem Blk.set {w:World}{g:Nat}{T:TypeId}{cs:Array Value}(h:Blk w g T cs)(i:Nat)(v:Value):Blk (w.setCell ⟨g,i,none⟩ v) g T (cs.setIfInBounds i v):=heap_setCell_same w g i cs T v h
theorem Blk.far {w:World}{g k:Nat}{T:TypeId}{cs:Array Value}(h:Blk w g T cs)(i:Nat)(v:Value)(hk:g≠k):Blk (w.setCell ⟨k,i,none⟩ v) g T cs:=(An w ⟨k,i,none⟩ v g hk).trans h
structure Mod (S:List Nat)(w w':World):Prop where
 os:w'.os=w.os
 tape:w'.tape=w.tape
 output:w'.output=w.output
 size:w.heap.size≤w'.heap.size
 far:∀k,k<w.heap.size→k∉S→w'.heap[k]?=w.heap[k]?
theorem Mod.refl (S:List Nat)(w:World):Mod S w w:=⟨rfl,rfl,rfl,zY _,fun _ _ _=>rfl⟩
theorem Mod.trans {S:List Nat}{u v w:World}(h:Mod S u v)(k:Mod S v w):Mod S u w:=
 ⟨k.os.trans h.os,k.tape.trans h.tape,k.output.trans h.output,z5 h.size k.size,fun i hi hb=>(k.far i (AR hi h.size) hb).trans (h.far i hi hb)⟩
theorem Mod.below {S:List Nat}{w w':World}(h:Bw w w'):Mod S w w':=⟨h.os,h.tape,h.output,h.size,fun k hk _=>h.block k hk⟩
theorem Mod.drew {S:List Nat}{w w':World}(h:Mod S w w'):Mod S w w'.drew:=⟨h.os,h.tape,h.output,h.size,h.far⟩
theorem Mod.alloc {S:List Nat}{w w':World}(h:Mod S w w')(o:Obj):Mod S w (w'.alloc o):=
 h.trans (Mod.below Bn)
theorem Mod.set {S:List Nat}{w w':World}(h:Mod S w w')(g i:Nat)(v:Value)(hg:g∈S∨w.heap.size≤g):Mod S w (w'.setCell ⟨g,i,none⟩ v):=
 ⟨h.os,h.tape,h.output,by simpa [World.setCell] using h.size,fun k hk hb=>(An w' ⟨g,i,none⟩ v k (by
  rintro rfl;rcases hg with hg | hg
  ·exact hb hg
  ·omega)).trans (h.far k hk hb)⟩
theorem Mod.low {S:List Nat}{w0 w w':World}(h:Mod S w w')(hb:Bw w0 w)(hS:∀k∈S,w0.heap.size≤k):Bw w0 w':=
 ⟨h.os.trans hb.os,h.tape.trans hb.tape,h.output.trans hb.output,z5 hb.size h.size,fun k hk=>(h.far k (AR hk hb.size) (fun hm=>by have:=hS k hm;omega)).trans (hb.block k hk)⟩
def Sl {α:Type}(enc:α→List Value)(k:Nat)(W:World)(v:Value)(l:List α):Prop:=
 ∃a cap,v=.slice a l.length cap∧(a=none→cap=0)∧l.length≤cap∧cap≤maxLen∧(0<l.length→∃b off,a=some ⟨b,off,none⟩∧b<W.heap.size∧∀i (h:i<l.length) j x,(enc l[i])[j]?=some x→W.cell? ⟨b,off+i * k+j,none⟩=some x)
theorem Sl.keep {α:Type}{enc:α→List Value}{k:Nat}{W W':World}{v:Value}{l:List α}(h:Sl enc k W v l)(hb:Bw W W'):Sl enc k W' v l:=by
 obtain ⟨a,d,f,g,n,o,m⟩:=h;refine ⟨a,d,f,g,n,o,fun h0=>?_⟩;obtain ⟨b,off,ha,hlt,hcl⟩:=m h0;exact ⟨b,off,ha,AR hlt hb.size,fun i hi j x hx=>(hb.c (p:=⟨b,off+i * k+j,none⟩) hlt).trans (hcl i hi j x hx)⟩
theorem Sl.nil {α:Type}(enc:α→List Value)(k:Nat)(W:World):Sl enc k W (.slice none 0 0) []:=⟨none,0,rfl,fun _=>rfl,by simp,by unfold maxLen;omega,fun h=>by simp at h⟩
def flat {α:Type}(enc:α→List Value)(l:List α):List Value:=(l.map enc).flatten
theorem aI {α:Type}(enc:α→List Value)(l m:List α):flat enc (l++m)=flat enc l++flat enc m:=by simp [flat]
theorem aC {α:Type}(enc:α→List Value)(k:Nat)(hk:∀x,(enc x).length=k)(l:List α):(flat enc l).length=l.length * k:=by
 induction l with
 | nil=>simp [flat]
 | cons c l ih=>
  simp only [flat,Am,List.flatten_cons,z8,Ay] at ih ⊢;rw [ih,hk,Nat.add_mul,Nat.one_mul,Nat.add_comm]
theorem og {α:Type}(enc:α→List Value)(k:Nat)(hk:∀x,(enc x).length=k)(l:List α):∀(i:Nat)(h:i<l.length)(j:Nat),j<k→(flat enc l)[i * k+j]?=(enc l[i])[j]?:=by
 induction l with
 | nil=>intro i h;simp at h
 | cons c l ih=>
  intro i h j b;have a:flat enc (c :: l)=enc c++flat enc l:=by simp [flat]
  rw [a];cases i with
  | zero=>rw [AC (by rw [hk];omega)];simp
  | succ i=>
   have e:(i+1) * k=i * k+k:=by rw [Nat.add_mul,Nat.one_mul]
   rw [AK (by rw [hk,e];omega)];have:=ih i (by simpa using h) j b
   rw [show (i+1) * k+j - (enc c).length=i * k+j from by rw [hk,e];omega,this];rfl
theorem Sl.own {α:Type}{enc:α→List Value}{k:Nat}{T:TypeId}{W:World}{base:Nat}{v:Value}{l:List α}(hk:∀x,(enc x).length=k)(h:W.ownsRow base T k v l.length (flat enc l)):Sl enc k W v l:=by
 obtain ⟨f,c⟩:=h;rcases c with ⟨rfl,h0⟩ | ⟨g,cap,cur,rfl,_,hg,h1,h2,h3,h4⟩
 ·exact ⟨none,0,by rw [h0],fun _=>rfl,by omega,by unfold maxLen;omega,fun h=>by omega⟩
 ·refine ⟨some ⟨g,0,none⟩,cap,rfl,(fun h=>by cases h),h1,h2,fun h0=>⟨g,0,rfl,?_,fun i hi j x hx=>?_⟩⟩
  ·rcases Az g W.heap.size with h' | h'
   ·exact h'
   ·simp [AO h'] at hg
  ·have d:j<k:=by rw [←hk l[i]];exact (AA.1 hx).1
   have b:=og enc k hk l i hi j d;have a:i * k+j<l.length * k:=by
    have:i * k+k≤l.length * k:=by rw [←Nat.succ_mul];exact AF k hi
    omega
   rw [←h4,AE,if_pos a,hx] at b;rw [←b,Av];simp [World.cell?,hg]
theorem cR {w:World}{base:Nat}{e:TypeId}{size:Nat}{v:Value}{n:Nat}{xs:List Value}(h:w.ownsRow base e size v n xs):∀k,v.ownBlock=some k→base≤k:=fun k hk=>(h.lt k hk).1
theorem au {w w':World}{base:Nat}{e:TypeId}{size:Nat}{v:Value}{n:Nat}{xs:List Value}(h:w.ownsRow base e size v n xs)(hk:∀g,v.ownBlock=some g→w'.heap[g]?=w.heap[g]?):w'.ownsRow base e size v n xs:=by
 obtain ⟨b,a⟩:=h;refine ⟨b,?_⟩;rcases a with a | ⟨g,cap,cur,rfl,hg,hh,r⟩
 ·exact Or.inl a
 ·exact Or.inr ⟨g,cap,cur,rfl,hg,(hk g rfl).trans hh,r⟩
theorem ah {w w':World}{base:Nat}{e:TypeId}{size:Nat}{v:Value}{n:Nat}{xs:List Value}(h:w.ownsRow base e size v n xs)(hb:Bw w w'):w'.ownsRow base e size v n xs:=
 au h fun g hg=>hb.block g (h.lt g hg).2
theorem aw {w:World}{base B:Nat}{e:TypeId}{size:Nat}{v:Value}{n:Nat}{xs:List Value}(h:w.ownsRow base e size v n xs)(hb:B≤base):w.ownsRow B e size v n xs:=by
 obtain ⟨b,a⟩:=h;refine ⟨b,?_⟩;rcases a with a | ⟨g,cap,cur,hv,hg,r⟩
 ·exact Or.inl a
 ·exact Or.inr ⟨g,cap,cur,hv,z5 hb hg,r⟩
def eI (n:Int):List Value:=[.int .i64 n]
theorem Sl.ints {W:World}{v:Value}{l:List Int}(h:Sl eI 1 W v l):∃a cap,v=.slice a l.length cap∧l.length≤cap∧cap≤maxLen∧(0<l.length→∃b off,a=some ⟨b,off,none⟩∧b<W.heap.size∧∀i (h:i<l.length),W.cell? ⟨b,off+i,none⟩=some (.int .i64 l[i])):=by
 obtain ⟨a,cap,c,_,f,g,d⟩:=h;refine ⟨a,cap,c,f,g,fun h0=>?_⟩;obtain ⟨b,off,ha,hlt,hcl⟩:=d h0;refine ⟨b,off,ha,hlt,fun i hi=>?_⟩;have:=hcl i hi 0 (.int .i64 l[i]) rfl
 rwa [A0,AU] at this
def In64 (n:Int):Prop:=-9223372036854775808≤n∧n≤9223372036854775807
instance (n:Int):Decidable (In64 n):=by unfold In64;infer_instance
theorem dT {p:Prop} [Decidable p](h:p):decide p=true:=decide_eq_true h
theorem dF {p:Prop} [Decidable p](h:¬ p):decide p=false:=decide_eq_false h
theorem aj {n:Nat}{w w':World}(h:Below n w w')(k:Nat):Below n w (w'.drewN k):=⟨h.1,h.2,h.3,h.4,h.5⟩
theorem Sl.news {α:Type}{enc:α→List Value}{k:Nat}{W:World}{ad:Addr}{cap:Nat}{l:List α}(hk:∀x,(enc x).length=k)(h0:0<k)(h:Sl enc k W (.slice (some ad) l.length cap) l) :
  ∀j u,(flat enc l)[j]?=some u→W.cell? (ad.add j)=some u:=by
 intro j u g;obtain ⟨a,cap',hv,_,_,_,hc⟩:=h;obtain ⟨rfl,_,_⟩:a=some ad∧l.length=l.length∧cap=cap':=by
  simp at hv;exact ⟨hv.1.symm,rfl,hv.2⟩
 have n:j<l.length * k:=by rw [←aC enc k hk l];exact (AA.1 g).1
 have c:j / k<l.length:=by rw [Nat.div_lt_iff_lt_mul h0];exact n
 obtain ⟨b,d,m,_,f⟩:=hc (Nat.lt_of_le_of_lt (Af _) c);obtain rfl:ad=⟨b,d,none⟩:=by simpa using m
 have o:j % k<k:=Nat.mod_lt _ h0;have e:=og enc k hk l (j / k) c (j % k) o;have i:j / k * k+j % k=j:=by rw [Nat.mul_comm];exact Nat.div_add_mod j k
 rw [i,g] at e;have:=f (j / k) c (j % k) u e.symm
 rw [Aj,←i,←Nat.add_assoc];exact this
def fitM (n:Int):Int×Int:=if In64 n then (n,0) else (0,2)
theorem bV {n:Int}(h:In64 n):fitM n=(n,0):=by unfold fitM;rw [if_pos h]
theorem eE {n:Int}(h:¬ In64 n):fitM n=(0,2):=by unfold fitM;rw [if_neg h]
theorem aQ {a b c d:Int}(h:(a,b)=(c,d)):Ending.returned (.tuple #[.int .i64 a,.int .i64 b])=.returned (.tuple #[.int .i64 c,.int .i64 d]):=by
 obtain ⟨rfl,rfl⟩:=Prod.mk.inj h;rfl
theorem ik {n:Int}(h:9223372036854775807<n)(h2:n≤27670116110564327423):wrap64 n=n - 18446744073709551616:=by unfold wrap64;omega
theorem fH {n:Int}(h:n< -9223372036854775808)(h2:-27670116110564327424≤n):wrap64 n=n+18446744073709551616:=by unfold wrap64;omega
theorem jn (a b:Int)(ha:In64 a)(hb:In64 b)(w:World):Calls Tryz.prog 281 #[.int .i64 a,.int .i64 b] w fun e w'=>e=.returned (.tuple #[.int .i64 (fitM (a+b)).1,.int .i64 (fitM (a+b)).2])∧w=w':=by
 by_cases h:In64 (a+b)
 ·rw [bV h];unfold In64 at ha hb h;obtain ⟨i,j⟩:=h;rcases AQ a 0 with ga | ga <;> rcases AQ b 0 with gb | gb <;> rcases AQ (a+b) 0 with gc | gc
  all_goals first
   | (exfalso;omega)
   | (have c:decide (a<0)=true:=dT ga);(have d:decide (b<0)=true:=dT gb);(have f:decide (a+b<0)=true:=dT gc)
   | (have c:decide (a<0)=false:=dF (by omega));(have d:decide (b<0)=false:=dF (by omega));(have f:decide (a+b<0)=false:=dF (by omega))
   | (have c:decide (a<0)=true:=dT ga);(have d:decide (b<0)=false:=dF (by omega))
   | (have c:decide (a<0)=false:=dF (by omega));(have d:decide (b<0)=true:=dT gb)
  all_goals
   go_enter Tryz.func281,Tryz.ntmps281;go_wp2;go_ret2;exact ⟨rfl,rfl⟩
 ·rw [eE h];unfold In64 at ha hb h;rcases AQ a 0 with ga | ga <;> rcases AQ b 0 with gb | gb
  ·have g:wrap64 (a+b)=a+b+18446744073709551616:=fH (by omega) (by omega);have c:decide (a<0)=true:=dT ga;have d:decide (b<0)=true:=dT gb;have f:decide (a+b+18446744073709551616<0)=false:=dF (by omega);go_enter Tryz.func281,Tryz.ntmps281;go_wp2;go_ret2;exact ⟨rfl,rfl⟩
  ·exfalso;omega
  ·exfalso;omega
  ·have g:wrap64 (a+b)=a+b - 18446744073709551616:=ik (by omega) (by omega);have c:decide (a<0)=false:=dF (by omega);have d:decide (b<0)=false:=dF (by omega);have f:decide (a+b - 18446744073709551616<0)=true:=dT (by omega);go_enter Tryz.func281,Tryz.ntmps281;go_wp2;go_ret2;exact ⟨rfl,rfl⟩
theorem fz (a b:Int)(ha:In64 a)(hb:In64 b)(w:World):Calls Tryz.prog 204 #[.int .i64 a,.int .i64 b] w fun e w'=>e=.returned (.tuple #[.int .i64 (fitM (a - b)).1,.int .i64 (fitM (a - b)).2])∧w=w':=by
 by_cases h:In64 (a - b)
 ·rw [bV h];unfold In64 at ha hb h;obtain ⟨i,j⟩:=h;rcases AQ a 0 with ga | ga <;> rcases AQ b 0 with gb | gb <;> rcases AQ (a - b) 0 with gc | gc
  all_goals first
   | (exfalso;omega)
   | (have c:decide (a<0)=true:=dT ga);(have d:decide (b<0)=true:=dT gb)
   | (have c:decide (a<0)=false:=dF (by omega));(have d:decide (b<0)=false:=dF (by omega))
   | (have c:decide (a<0)=true:=dT ga);(have d:decide (b<0)=false:=dF (by omega));(have f:decide (a - b<0)=true:=dT gc)
   | (have c:decide (a<0)=false:=dF (by omega));(have d:decide (b<0)=true:=dT gb);(have f:decide (a - b<0)=false:=dF (by omega))
  all_goals
   go_enter Tryz.func204,Tryz.ntmps204;go_wp2;go_ret2;exact ⟨rfl,rfl⟩
 ·rw [eE h];unfold In64 at ha hb h;rcases AQ a 0 with ga | ga <;> rcases AQ b 0 with gb | gb
  ·exfalso;omega
  ·have g:wrap64 (a - b)=a - b+18446744073709551616:=fH (by omega) (by omega);have c:decide (a<0)=true:=dT ga;have d:decide (b<0)=false:=dF (by omega);have f:decide (a - b+18446744073709551616<0)=false:=dF (by omega);go_enter Tryz.func204,Tryz.ntmps204;go_wp2;go_ret2;exact ⟨rfl,rfl⟩
  ·have g:wrap64 (a - b)=a - b - 18446744073709551616:=ik (by omega) (by omega);have c:decide (a<0)=false:=dF (by omega);have d:decide (b<0)=true:=dT gb;have f:decide (a - b - 18446744073709551616<0)=true:=dT (by omega);go_enter Tryz.func204,Tryz.ntmps204;go_wp2;go_ret2;exact ⟨rfl,rfl⟩
  ·exfalso;omega
theorem bW (a:Int)(ha:In64 a)(w:World):Calls Tryz.prog 312 #[.int .i64 a] w fun e w'=>e=.returned (.tuple #[.int .i64 (fitM (-a)).1,.int .i64 (fitM (-a)).2])∧w=w':=by
 go_enter Tryz.func312,Tryz.ntmps312;go_wp2_with fail;refine (fz 0 a (by unfold In64;omega) ha _).mono ?_;rintro e b ⟨rfl,rfl⟩;rw [Int.zero_sub];go_wp2_with fail;go_ret2;exact ⟨rfl,rfl⟩
def overM (a b:Int):Int:=if a≤b then 0 else if In64 (a - b) then a - b else 9223372036854775807
theorem fI (a b:Int)(ha:In64 a)(hb:In64 b)(w:World):Calls Tryz.prog 166 #[.int .i64 a,.int .i64 b] w fun e w'=>e=.returned (.int .i64 (overM a b))∧w=w':=by
 by_cases h:a≤b
 ·have f:decide (a≤b)=true:=dT h;have c:Hid (overM a b=0):=aa (by unfold overM;rw [if_pos h]);clear h;go_enter Tryz.func166,Tryz.ntmps166;go_wp2_with fail;go_ret;exact ⟨by rw [c.o];rfl,rfl⟩
 ·have f:decide (a≤b)=false:=dF h;by_cases h2:In64 (a - b)
  ·have c:Hid (overM a b=a - b):=aa (by unfold overM;rw [if_neg h,if_pos h2]);have d:=aa (bV h2);clear h h2;go_enter Tryz.func166,Tryz.ntmps166;go_wp2_with fail;refine (fz a b ha hb _).mono ?_;rintro e g ⟨rfl,rfl⟩;rw [d.o];go_wp2_with fail;go_ret;exact ⟨by rw [c.o];rfl,rfl⟩
  ·have c:Hid (overM a b=9223372036854775807):=aa (by unfold overM;rw [if_neg h,if_neg h2]);have d:=aa (eE h2);clear h h2;go_enter Tryz.func166,Tryz.ntmps166;go_wp2_with fail;refine (fz a b ha hb _).mono ?_;rintro e g ⟨rfl,rfl⟩;rw [d.o];go_wp2_with fail;go_ret;exact ⟨by rw [c.o];rfl,rfl⟩
theorem yG (x y c:Int)(hx:0≤x)(hy:0≤y)(hc:0≤c)(hc1:c≤1)(w:World):(callFunc 286 #[.int .u64 x,.int .u64 y,.int .u64 c]).run Tryz.prog w=.ok (.value (.tuple #[.int .u64 ((x+y+c) % 18446744073709551616),.int .u64 ((x+y+c) / 18446744073709551616)])) w:=by
 rw [run_callFunc_extern Tryz.func286 (by kernel_rfl) (by kernel_rfl) (by kernel_rfl) (e:=add64Entry) (by kernel_rfl),run_add64 x y c hx hy hc hc1];rfl
theorem cg (a:Int)(ha:In64 a)(w:World):Calls Tryz.prog 283 #[.int .i64 a] w fun e w'=>e=.returned (.int .u64 (a.natAbs:Nat))∧w=w':=by
 unfold In64 at ha;obtain ⟨d,f⟩:=ha;by_cases h:a<0
 ·have c:decide (a<0)=true:=dT h;have b:Hid (IntKind.u64.wrap (-IntKind.u64.wrap a)=(a.natAbs:Nat)):=aa (by simp [IntKind.wrap,IntKind.signed,IntKind.bits];omega);go_enter Tryz.func283,Tryz.ntmps283;go_wp2;go_ret;exact ⟨by rw [←b.o];rfl,rfl⟩
 ·have c:decide (a<0)=false:=dF h;have b:Hid (a=(a.natAbs:Nat)):=aa (by omega);go_enter Tryz.func283,Tryz.ntmps283;go_wp2;go_ret;exact ⟨by rw [←b.o];rfl,rfl⟩
theorem wc (a:Int)(ha:In64 a)(p q:Nat)(lo hi:Int)(l0:0≤lo)(l1:lo<18446744073709551616)(k0:0≤hi)(k1:hi<18446744073709551616)(hpq:p≠q)(w:World)(h1:w.cell? ⟨p,0,none⟩=some (.int .u64 lo))(h2:w.cell? ⟨q,0,none⟩=some (.int .u64 hi))(f1:w.frozen? ⟨p,0,none⟩=false)(f2:w.frozen? ⟨q,0,none⟩=false):Calls Tryz.prog 285 #[.int .i64 a,.pointer (some ⟨p,0,none⟩),.pointer (some ⟨q,0,none⟩)] w fun e w'=>e=.returned (.tuple #[])∧w'=(w.setCell ⟨p,0,none⟩ (.int .u64 ((lo+a) % 18446744073709551616))).setCell ⟨q,0,none⟩ (.int .u64 ((hi+(lo+a) / 18446744073709551616) % 18446744073709551616)):=by
 unfold In64 at ha;obtain ⟨C,A⟩:=ha;obtain ⟨am,ham⟩:∃am,IntKind.u64.wrap a=am:=⟨_,rfl⟩;have y:0≤am∧am<18446744073709551616∧(lo+am) % 18446744073709551616=(lo+a) % 18446744073709551616:=by
  rw [←ham];simp [IntKind.wrap,IntKind.signed,IntKind.bits];omega
 obtain ⟨v,B,l⟩:=y;have m:=fun W=>yG lo am 0 l0 v (by omega) (by omega) W
 rw [Int.add_zero,l] at m;have k:0≤(lo+am) / 18446744073709551616∧(lo+am) / 18446744073709551616≤1:=by omega
 obtain ⟨b,f⟩:∃b,IntKind.u64.wrap (a / 9223372036854775808)=b:=⟨_,rfl⟩;have s:0≤b∧(hi+b+(lo+am) / 18446744073709551616) % 18446744073709551616=(hi+(lo+a) / 18446744073709551616) % 18446744073709551616:=by
  have r:am=a % 18446744073709551616:=by rw [←ham];simp [IntKind.wrap,IntKind.signed,IntKind.bits]
  have j:b=(a / 9223372036854775808) % 18446744073709551616:=by rw [←f];simp [IntKind.wrap,IntKind.signed,IntKind.bits]
  clear ham f m l k h1 h2 f1 f2 hpq;rcases AQ a 0 with g | g
  ·have h:a / 9223372036854775808=-1:=by omega
   have i:am=a+18446744073709551616:=by omega
   have d:b=18446744073709551615:=by rw [j,h];decide
   have o:(lo+am) / 18446744073709551616=(lo+a) / 18446744073709551616+1:=by rw [i];omega
   rw [d,o];clear r j h i d o;generalize (lo+a) / 18446744073709551616=t;omega
  ·have h:a / 9223372036854775808=0:=by omega
   have i:am=a:=by omega
   have d:b=0:=by rw [j,h];decide
   rw [d,i];clear r j h i d;generalize (lo+a) / 18446744073709551616=t;omega
 obtain ⟨u,n⟩:=s;have x:=fun W=>yG hi b ((lo+am) / 18446744073709551616) k0 u k.1 k.2 W
 rw [n] at x;have c:q≠p:=Ne.symm hpq;clear n l k;have z:(w.setCell ⟨p,0,none⟩ (.int .u64 ((lo+a) % 18446744073709551616))).cell? ⟨q,0,none⟩=some (.int .u64 hi):=by rw [←h2];refine AZ (w:=w) ?_;exact An _ _ _ _ c
 have D:(w.setCell ⟨p,0,none⟩ (.int .u64 ((lo+a) % 18446744073709551616))).frozen? ⟨q,0,none⟩=false:=by rw [←f2];refine World.frozen?_of_block (w:=w) ?_;exact An _ _ _ _ c
 go_enter Tryz.func285,Tryz.ntmps285;go_wp2_with fail;go_end0;exact ⟨rfl,rfl⟩
def sumL (l:List Int):Int:=l.sum
def sumM (l:List Int):Int×Int:=fitM (sumL l)
def All64 (l:List Int):Prop:=∀n∈l,In64 n
theorem rv {l:List Int}{k:Nat}(h:k<l.length):sumL (l.take (k+1))=sumL (l.take k)+l[k]:=by
 unfold sumL;rw [z9 h,List.sum_append];simp
theorem oQ (l:List Int)(h:All64 l):-9223372036854775808 * (l.length:Int)≤sumL l∧sumL l≤9223372036854775808 * (l.length:Int):=by
 induction l with
 | nil=>simp [sumL]
 | cons a l ih=>
  have b:=h a (by simp);have c:=ih (fun n hn=>h n (by simp [hn]));unfold In64 at b;simp only [sumL,AB,Ay] at c ⊢;push_cast
  omega
structure SumRel (l:List Int)(w wr:World)(k:Nat):Prop where
 lo:wr.heap[w.heap.size+1]?=some (.cells #[.int .u64 (sumL (l.take k) % 18446744073709551616)] 102 (0,0))
 hi:wr.heap[w.heap.size]?=some (.cells #[.int .u64 (sumL (l.take k) / 18446744073709551616 % 18446744073709551616)] 102 (0,0))
 low:Bw w wr
theorem we {S:Int}(h:In64 S):(S / 18446744073709551616 % 18446744073709551616 != IntKind.u64.wrap (wrap64 (S % 18446744073709551616) / 9223372036854775808))=false∧wrap64 (S % 18446744073709551616)=S:=by
 unfold In64 at h;have e:wrap64 (S % 18446744073709551616)=S:=by unfold wrap64;omega
 refine ⟨?_,e⟩;rw [e];have:IntKind.u64.wrap (S / 9223372036854775808)=S / 18446744073709551616 % 18446744073709551616:=by
  simp only [IntKind.wrap,IntKind.signed,IntKind.bits];rcases AQ S 0 with g | g
  ·have b:S / 9223372036854775808=-1:=by omega
   have a:S / 18446744073709551616=-1:=by omega
   rw [b,a];decide
  ·have b:S / 9223372036854775808=0:=by omega
   have a:S / 18446744073709551616=0:=by omega
   rw [b,a];decide
 rw [this];simp
theorem yR {S:Int}(h:¬ In64 S)(h1:-9223372036854775808000000≤S)(h2:S≤9223372036854775808000000):(S / 18446744073709551616 % 18446744073709551616 != IntKind.u64.wrap (wrap64 (S % 18446744073709551616) / 9223372036854775808))=true:=by
 unfold In64 at h;obtain ⟨t,b⟩:∃t,wrap64 (S % 18446744073709551616) / 9223372036854775808=t:=⟨_,rfl⟩;have a:(t=0∧S % 18446744073709551616<9223372036854775808)∨(t=-1∧9223372036854775808≤S % 18446744073709551616):=by
  rw [←b];unfold wrap64;omega
 rw [b,bne_iff_ne];intro e;rcases a with ⟨rfl,a⟩ | ⟨rfl,a⟩
 ·have:IntKind.u64.wrap 0=0:=by decide
  rw [this] at e;omega
 ·have:IntKind.u64.wrap (-1)=18446744073709551615:=by decide
  rw [this] at e;omega
theorem rx {l:List Int}{k:Nat}{S x:Int}{w wr:World}(hst:sumL (l.take (k+1))=S+x)(hlo:wr.heap[w.heap.size+1]?=some (.cells #[.int .u64 (S % 18446744073709551616)] 102 (0,0)))
  (hhi:wr.heap[w.heap.size]?=some (.cells #[.int .u64 (S / 18446744073709551616 % 18446744073709551616)] 102 (0,0))) (hb:Bw w wr) :
  SumRel l w ((wr.setCell ⟨w.heap.size+1,0,none⟩ (.int .u64 ((S % 18446744073709551616+x) % 18446744073709551616))).setCell ⟨w.heap.size,0,none⟩ (.int .u64 ((S / 18446744073709551616 % 18446744073709551616+(S % 18446744073709551616+x) / 18446744073709551616) % 18446744073709551616))) (k+1):=by
 have b:(S % 18446744073709551616+x) % 18446744073709551616=(S+x) % 18446744073709551616:=by omega
 have a:(S / 18446744073709551616 % 18446744073709551616+(S % 18446744073709551616+x) / 18446744073709551616) % 18446744073709551616=(S+x) / 18446744073709551616 % 18446744073709551616:=by
  have:(S+x) / 18446744073709551616=S / 18446744073709551616+(S % 18446744073709551616+x) / 18446744073709551616:=by omega
  rw [this];generalize S / 18446744073709551616=u;generalize (S % 18446744073709551616+x) / 18446744073709551616=t;omega
 rw [b,a];refine ⟨?_,?_,(hb.setCell (p:=⟨w.heap.size+1,0,none⟩) (by simp) _).setCell (p:=⟨w.heap.size,0,none⟩) (by simp) _⟩
 ·rw [hst,An _ _ _ _ (by simp)];exact heap_setCell_same _ _ 0 _ 102 _ hlo
 ·rw [hst];exact heap_setCell_same _ _ 0 _ 102 _ ((An _ _ _ _ (by simp)).trans hhi)
theorem aW (v:Value)(l:List Int)(w:World)(hv:Sl eI 1 w v l)(h64:All64 l)(hn:l.length≤1000000) :
  Calls Tryz.prog 230 #[v] w fun e w'=>e=.returned (.tuple #[.int .i64 (sumM l).1,.int .i64 (sumM l).2])∧Bw w w':=by
 obtain ⟨a,J,rfl,M,z,h⟩:=hv.ints;unfold maxLen at z;have n:=aa h;have r:=aa h64;clear h h64;have K:SumRel l w ((w.alloc (.cells #[.int .u64 0] 102)).alloc (.cells #[.int .u64 0] 102)) 0:=by
  refine ⟨?_,?_,Bn.alloc (by simp) _⟩
  ·exact heap_alloc2_new _ _ _
  ·exact heap_alloc2_old _ _ _
 go_enter Tryz.func230,Tryz.ntmps230;go_wp2_with fail;generalize ((w.alloc (.cells #[.int .u64 0] 102)).alloc (.cells #[.int .u64 0] 102))=W0 at *;go_loopw [12] (fun i wr=>∃k:Nat,k≤l.length∧i=.int .i64 k∧SumRel l w wr k) (fun i _=>l.length - (intOf i).toNat)
 case atStart=>exact ⟨0,Af _,rfl,K⟩
 case round=>
  obtain ⟨k,O,rfl,g,f,d⟩:=hrel;by_cases hlt:k<l.length
  ·obtain ⟨b,u,rfl,y,s⟩:=n.o (by omega);have L:=(d.c (p:=⟨b,u+k,none⟩) y).trans (s k hlt);have C:=r.o l[k] (Ag hlt);have t:=aa (rv hlt);have I:=aa C;have H:w.heap.size≠w.heap.size+1:=by omega
   clear s C;generalize l[k]=x at *;have m:=aa g;have j:=aa f;clear g f;generalize sumL (l.take k)=S at *;go_wp2_with fail;refine (wc x I.o (w.heap.size+1) w.heap.size (S % 18446744073709551616) (S / 18446744073709551616 % 18446744073709551616) (by omega) (by omega) (by omega) (by omega) (by omega) _ (Blk.c m.o 0) (Blk.c j.o 0) (Blk.free m.o 0) (Blk.free j.o 0)).mono ?_;rintro e N ⟨rfl,rfl⟩;have R:=aa (rx t.o m.o j.o d);generalize ((wr.setCell _ _).setCell _ _)=W2 at *;clear m j d L;go_wp2_with fail;go_roundw
   case rel=>exact ⟨k+1,by omega,by go_num,R.o⟩
   case measure=>simp [intOf];omega
  ·rw [Ae (by omega)] at g f;have q:=oQ l r.o;have E:=Blk.c g 0;have G:=Blk.c f 0;by_cases hin:In64 (sumL l)
   ·obtain ⟨F,D⟩:=we hin;rw [D] at F;have A:=aa D;have B:Hid (sumM l=(sumL l,0)):=aa (bV hin);clear hin q g f;generalize sumL l=S at *;go_wp2_with fail;go_ret2;exact ⟨aQ (by rw [B.o];exact Prod.ext A.o rfl),d⟩
   ·have F:=yR hin (by omega) (by omega);have B:Hid (sumM l=(0,2)):=aa (eE hin);clear hin q g f;generalize sumL l=S at *;go_wp2_with fail;go_ret2;exact ⟨by rw [B.o];rfl,d⟩
theorem aH {α:Type}{enc:α→List Value}(h:∀x,∀u∈enc x,u.oneCell'=true)(l:List α):∀u∈flat enc l,u.oneCell'=true:=by
 intro u a;simp only [flat,List.mem_flatten,AD] at a;obtain ⟨_,⟨x,_,rfl⟩,a⟩:=a;exact h x u a
def CPo {α:Type}(enc:α→List Value)(T:TypeId)(k:Nat)(l:List α)(w:World)(e:Ending)(w':World):Prop:=
 ∃v,e=.returned v∧w'.ownsRow w.heap.size T k v l.length (flat enc l)∧Bw w w'
theorem kI (x:Int):(eI x).length=1:=rfl
theorem dL (x:Int):∀u∈eI x,u.oneCell'=true:=by intro u a;simp [eI] at a;subst a;rfl
structure Mb where
 coll:Int
 fund:Int
  deriving DecidableEq
abbrev vMb (x:Mb):Value:=.agg #[.int .i64 x.coll,.int .i64 x.fund]
abbrev cMb (x:Mb):Array Value:=#[.int .i64 x.coll,.int .i64 x.fund]
def eMb (x:Mb):List Value:=[.int .i64 x.coll,.int .i64 x.fund]
theorem kMb (x:Mb):(eMb x).length=2:=rfl
theorem yH (x:Mb):∀u∈eMb x,u.oneCell'=true:=by intro u a;simp [eMb] at a;rcases a with rfl | rfl <;> rfl
theorem ry:(Tryz.prog.info? 125).map (fun i=>(i.zero,i.size,i.bytes))=some (some (.agg #[.int .i64 0,.int .i64 0]),2,16):=by kernel_rfl
theorem rz {W:World}{b o:Nat}{x:Mb}(h:∀j u,(eMb x)[j]?=some u→W.cell? ⟨b,o+j,none⟩=some u):W.cell? ⟨b,o,none⟩=some (.int .i64 x.coll)∧W.cell? ⟨b,o+1,none⟩=some (.int .i64 x.fund):=by
 exact ⟨h 0 _ rfl,h 1 _ rfl⟩
theorem wg (v:Value)(l:List Mb)(w:World)(hv:Sl eMb 2 w v l)(hn:l.length≤1000000):Calls Tryz.prog 66 #[v] w (CPo eMb 125 2 l w):=by
 have i:=hv;obtain ⟨a,g,rfl,p,x,s,m⟩:=hv;unfold maxLen at s;have h:=aa i;clear m i;obtain ⟨i0,hi,hz0,hz1,hz2⟩:=info_parts ry;have u:=fun (w:World) (a:Option Addr) (n c:Nat)=>Lib.run_eql_slice_nil (P:=Tryz.prog) w 22 125 a n c 0 0 Tryz.underlying22
 cases a with
 | none=>
  obtain rfl:=p rfl;obtain rfl:l=[]:=Ar (by omega);go_enter Tryz.func66,Tryz.ntmps66;go_wp2;go_ret;exact ⟨_,rfl,⟨rfl,Or.inl ⟨rfl,rfl⟩⟩,zZ _ _⟩
 | some ad=>
  have f:=aa (Ba (base:=w.heap.size) (e:=125) (size:=2) w #[] 0 (zY _) (by unfold maxLen;omega) rfl);have j:=aa (Sl.news kMb (by decide) (h.o.keep ((zZ _ _).alloc (zY _) (.cells #[] 125))));go_enter Tryz.func66,Tryz.ntmps66;go_wp2_with (at_builtin;refine wpList_append_own _ rfl _ _ 22 rfl w.heap.size 125 i0 (.agg #[.int .i64 0,.int .i64 0]) 2 16 Tryz.underlying22 hi hz0 hz1 hz2 rfl (by decide) _ 0 [] rfl f.o ad l.length g (flat eMb l) rfl (aC eMb 2 kMb l) j.o (aH yH l) ?c3 ?c4 ?c5 ?_)
  case c3=>unfold maxLen;omega
  case c4=>omega
  case c5=>simp
  intro t r d b _;have q:Bw w r:=Bn.grown b (by simp) (fun k hk=>by simp [Value.ownBlock] at hk;omega);clear b;go_wp2;go_ret;exact ⟨_,rfl,d,q⟩
structure Sc where
 prc:Int
 cap:Int
  deriving DecidableEq
abbrev vSc (x:Sc):Value:=.agg #[.int .i64 x.prc,.int .i64 x.cap]
abbrev cSc (x:Sc):Array Value:=#[.int .i64 x.prc,.int .i64 x.cap]
def eSc (x:Sc):List Value:=[.int .i64 x.prc,.int .i64 x.cap]
theorem kSc (x:Sc):(eSc x).length=2:=rfl
theorem yI (x:Sc):∀u∈eSc x,u.oneCell'=true:=by intro u a;simp [eSc] at a;rcases a with rfl | rfl <;> rfl
theorem rA:(Tryz.prog.info? 127).map (fun i=>(i.zero,i.size,i.bytes))=some (some (.agg #[.int .i64 0,.int .i64 0]),2,16):=by kernel_rfl
theorem atSc {W:World}{b o:Nat}{x:Sc}(h:∀j u,(eSc x)[j]?=some u→W.cell? ⟨b,o+j,none⟩=some u):W.cell? ⟨b,o,none⟩=some (.int .i64 x.prc)∧W.cell? ⟨b,o+1,none⟩=some (.int .i64 x.cap):=by
 exact ⟨h 0 _ rfl,h 1 _ rfl⟩
theorem wh (v:Value)(l:List Sc)(w:World)(hv:Sl eSc 2 w v l)(hn:l.length≤1000000):Calls Tryz.prog 67 #[v] w (CPo eSc 127 2 l w):=by
 have i:=hv;obtain ⟨a,g,rfl,p,x,s,m⟩:=hv;unfold maxLen at s;have h:=aa i;clear m i;obtain ⟨i0,hi,hz0,hz1,hz2⟩:=info_parts rA;have u:=fun (w:World) (a:Option Addr) (n c:Nat)=>Lib.run_eql_slice_nil (P:=Tryz.prog) w 23 127 a n c 0 0 Tryz.underlying23
 cases a with
 | none=>
  obtain rfl:=p rfl;obtain rfl:l=[]:=Ar (by omega);go_enter Tryz.func67,Tryz.ntmps67;go_wp2;go_ret;exact ⟨_,rfl,⟨rfl,Or.inl ⟨rfl,rfl⟩⟩,zZ _ _⟩
 | some ad=>
  have f:=aa (Ba (base:=w.heap.size) (e:=127) (size:=2) w #[] 0 (zY _) (by unfold maxLen;omega) rfl);have j:=aa (Sl.news kSc (by decide) (h.o.keep ((zZ _ _).alloc (zY _) (.cells #[] 127))));go_enter Tryz.func67,Tryz.ntmps67;go_wp2_with (at_builtin;refine wpList_append_own _ rfl _ _ 23 rfl w.heap.size 127 i0 (.agg #[.int .i64 0,.int .i64 0]) 2 16 Tryz.underlying23 hi hz0 hz1 hz2 rfl (by decide) _ 0 [] rfl f.o ad l.length g (flat eSc l) rfl (aC eSc 2 kSc l) j.o (aH yI l) ?c3 ?c4 ?c5 ?_)
  case c3=>unfold maxLen;omega
  case c4=>omega
  case c5=>simp
  intro t r d b _;have q:Bw w r:=Bn.grown b (by simp) (fun k hk=>by simp [Value.ownBlock] at hk;omega);clear b;go_wp2;go_ret;exact ⟨_,rfl,d,q⟩
structure Cy where
 cut:Int
 fund:Int
 buyin:Int
 close:Int
  deriving DecidableEq
abbrev vCy (x:Cy):Value:=.agg #[.int .i64 x.cut,.int .i64 x.fund,.int .i64 x.buyin,.int .i64 x.close]
abbrev cCy (x:Cy):Array Value:=#[.int .i64 x.cut,.int .i64 x.fund,.int .i64 x.buyin,.int .i64 x.close]
def eCy (x:Cy):List Value:=[.int .i64 x.cut,.int .i64 x.fund,.int .i64 x.buyin,.int .i64 x.close]
theorem kCy (x:Cy):(eCy x).length=4:=rfl
theorem yJ (x:Cy):∀u∈eCy x,u.oneCell'=true:=by intro u a;simp [eCy] at a;rcases a with rfl | rfl | rfl | rfl <;> rfl
theorem rB:(Tryz.prog.info? 63).map (fun i=>(i.zero,i.size,i.bytes))=some (some (.agg #[.int .i64 0,.int .i64 0,.int .i64 0,.int .i64 0]),4,32):=by kernel_rfl
theorem wi {W:World}{b o:Nat}{x:Cy}(h:∀j u,(eCy x)[j]?=some u→W.cell? ⟨b,o+j,none⟩=some u):W.cell? ⟨b,o,none⟩=some (.int .i64 x.cut)∧W.cell? ⟨b,o+1,none⟩=some (.int .i64 x.fund)∧W.cell? ⟨b,o+2,none⟩=some (.int .i64 x.buyin)∧W.cell? ⟨b,o+3,none⟩=some (.int .i64 x.close):=by
 exact ⟨h 0 _ rfl,h 1 _ rfl,h 2 _ rfl,h 3 _ rfl⟩
theorem wj (v:Value)(l:List Cy)(w:World)(hv:Sl eCy 4 w v l)(hn:l.length≤1000000):Calls Tryz.prog 68 #[v] w (CPo eCy 63 4 l w):=by
 have i:=hv;obtain ⟨a,g,rfl,p,x,s,m⟩:=hv;unfold maxLen at s;have h:=aa i;clear m i;obtain ⟨i0,hi,hz0,hz1,hz2⟩:=info_parts rB;have u:=fun (w:World) (a:Option Addr) (n c:Nat)=>Lib.run_eql_slice_nil (P:=Tryz.prog) w 24 63 a n c 0 0 Tryz.underlying24
 cases a with
 | none=>
  obtain rfl:=p rfl;obtain rfl:l=[]:=Ar (by omega);go_enter Tryz.func68,Tryz.ntmps68;go_wp2;go_ret;exact ⟨_,rfl,⟨rfl,Or.inl ⟨rfl,rfl⟩⟩,zZ _ _⟩
 | some ad=>
  have f:=aa (Ba (base:=w.heap.size) (e:=63) (size:=4) w #[] 0 (zY _) (by unfold maxLen;omega) rfl);have j:=aa (Sl.news kCy (by decide) (h.o.keep ((zZ _ _).alloc (zY _) (.cells #[] 63))));go_enter Tryz.func68,Tryz.ntmps68;go_wp2_with (at_builtin;refine wpList_append_own _ rfl _ _ 24 rfl w.heap.size 63 i0 (.agg #[.int .i64 0,.int .i64 0,.int .i64 0,.int .i64 0]) 4 32 Tryz.underlying24 hi hz0 hz1 hz2 rfl (by decide) _ 0 [] rfl f.o ad l.length g (flat eCy l) rfl (aC eCy 4 kCy l) j.o (aH yJ l) ?c3 ?c4 ?c5 ?_)
  case c3=>unfold maxLen;omega
  case c4=>omega
  case c5=>simp
  intro t r d b _;have q:Bw w r:=Bn.grown b (by simp) (fun k hk=>by simp [Value.ownBlock] at hk;omega);clear b;go_wp2;go_ret;exact ⟨_,rfl,d,q⟩
structure Ev where
 kind:Int
 mem:Int
 ass:Int
 amt:Int
 other:Int
  deriving DecidableEq
abbrev vEv (x:Ev):Value:=.agg #[.int .i64 x.kind,.int .i64 x.mem,.int .i64 x.ass,.int .i64 x.amt,.int .i64 x.other]
abbrev cEv (x:Ev):Array Value:=#[.int .i64 x.kind,.int .i64 x.mem,.int .i64 x.ass,.int .i64 x.amt,.int .i64 x.other]
def eEv (x:Ev):List Value:=[.int .i64 x.kind,.int .i64 x.mem,.int .i64 x.ass,.int .i64 x.amt,.int .i64 x.other]
theorem kEv (x:Ev):(eEv x).length=5:=rfl
theorem oneEv (x:Ev):∀u∈eEv x,u.oneCell'=true:=by intro u a;simp [eEv] at a;rcases a with rfl | rfl | rfl | rfl | rfl <;> rfl
theorem jo:(Tryz.prog.info? 101).map (fun i=>(i.zero,i.size,i.bytes))=some (some (.agg #[.int .i64 0,.int .i64 0,.int .i64 0,.int .i64 0,.int .i64 0]),5,40):=by kernel_rfl
theorem newEv (W:World)(x:Ev)(b:Nat)(hb:W.heap.size=b):∀j u,(eEv x)[j]?=some u→(W.alloc (.cells (cEv x) 101)).cell? ((⟨b,0,none⟩:Addr).add j)=some u:=by
 subst hb;intro j u a;rw [Aj,Av,(Blk.new W 101 (cEv x)).c j];simpa [eEv] using a
theorem wk (v:Value)(l:List Ev)(w:World)(hv:Sl eEv 5 w v l)(hn:l.length≤1000000):Calls Tryz.prog 39 #[v] w (CPo eEv 101 5 l w):=by
 have i:=hv;obtain ⟨a,g,rfl,p,x,s,m⟩:=hv;unfold maxLen at s;have h:=aa i;clear m i;obtain ⟨i0,hi,hz0,hz1,hz2⟩:=info_parts jo;have u:=fun (w:World) (a:Option Addr) (n c:Nat)=>Lib.run_eql_slice_nil (P:=Tryz.prog) w 39 101 a n c 0 0 Tryz.underlying39
 cases a with
 | none=>
  obtain rfl:=p rfl;obtain rfl:l=[]:=Ar (by omega);go_enter Tryz.func39,Tryz.ntmps39;go_wp2;go_ret;exact ⟨_,rfl,⟨rfl,Or.inl ⟨rfl,rfl⟩⟩,zZ _ _⟩
 | some ad=>
  have f:=aa (Ba (base:=w.heap.size) (e:=101) (size:=5) w #[] 0 (zY _) (by unfold maxLen;omega) rfl);have j:=aa (Sl.news kEv (by decide) (h.o.keep ((zZ _ _).alloc (zY _) (.cells #[] 101))));go_enter Tryz.func39,Tryz.ntmps39;go_wp2_with (at_builtin;refine wpList_append_own _ rfl _ _ 39 rfl w.heap.size 101 i0 (.agg #[.int .i64 0,.int .i64 0,.int .i64 0,.int .i64 0,.int .i64 0]) 5 40 Tryz.underlying39 hi hz0 hz1 hz2 rfl (by decide) _ 0 [] rfl f.o ad l.length g (flat eEv l) rfl (aC eEv 5 kEv l) j.o (aH oneEv l) ?c3 ?c4 ?c5 ?_)
  case c3=>unfold maxLen;omega
  case c4=>omega
  case c5=>simp
  intro t r d b _;have q:Bw w r:=Bn.grown b (by simp) (fun k hk=>by simp [Value.ownBlock] at hk;omega);clear b;go_wp2;go_ret;exact ⟨_,rfl,d,q⟩
structure Tr where
 id:Int
 byr:Int
 slr:Int
 sec:Int
 qty:Int
 prc:Int
  deriving DecidableEq
abbrev vTr (x:Tr):Value:=.agg #[.int .i64 x.id,.int .i64 x.byr,.int .i64 x.slr,.int .i64 x.sec,.int .i64 x.qty,.int .i64 x.prc]
abbrev cTr (x:Tr):Array Value:=#[.int .i64 x.id,.int .i64 x.byr,.int .i64 x.slr,.int .i64 x.sec,.int .i64 x.qty,.int .i64 x.prc]
def eTr (x:Tr):List Value:=[.int .i64 x.id,.int .i64 x.byr,.int .i64 x.slr,.int .i64 x.sec,.int .i64 x.qty,.int .i64 x.prc]
theorem kTr (x:Tr):(eTr x).length=6:=rfl
theorem yK (x:Tr):∀u∈eTr x,u.oneCell'=true:=by intro u a;simp [eTr] at a;rcases a with rfl | rfl | rfl | rfl | rfl | rfl <;> rfl
theorem rC:(Tryz.prog.info? 58).map (fun i=>(i.zero,i.size,i.bytes))=some (some (.agg #[.int .i64 0,.int .i64 0,.int .i64 0,.int .i64 0,.int .i64 0,.int .i64 0]),6,48):=by kernel_rfl
theorem l4 {W:World}{b o:Nat}{x:Tr}(h:∀j u,(eTr x)[j]?=some u→W.cell? ⟨b,o+j,none⟩=some u):W.cell? ⟨b,o,none⟩=some (.int .i64 x.id)∧W.cell? ⟨b,o+1,none⟩=some (.int .i64 x.byr)∧W.cell? ⟨b,o+2,none⟩=some (.int .i64 x.slr)∧W.cell? ⟨b,o+3,none⟩=some (.int .i64 x.sec)∧W.cell? ⟨b,o+4,none⟩=some (.int .i64 x.qty)∧W.cell? ⟨b,o+5,none⟩=some (.int .i64 x.prc):=by
 exact ⟨h 0 _ rfl,h 1 _ rfl,h 2 _ rfl,h 3 _ rfl,h 4 _ rfl,h 5 _ rfl⟩
structure RT where
 rid:Int
 id:Int
 byr:Int
 slr:Int
 sec:Int
 qty:Int
 prc:Int
  deriving DecidableEq
abbrev vRT (x:RT):Value:=.agg #[.int .i64 x.rid,.int .i64 x.id,.int .i64 x.byr,.int .i64 x.slr,.int .i64 x.sec,.int .i64 x.qty,.int .i64 x.prc]
abbrev cRT (x:RT):Array Value:=#[.int .i64 x.rid,.int .i64 x.id,.int .i64 x.byr,.int .i64 x.slr,.int .i64 x.sec,.int .i64 x.qty,.int .i64 x.prc]
def eRT (x:RT):List Value:=[.int .i64 x.rid,.int .i64 x.id,.int .i64 x.byr,.int .i64 x.slr,.int .i64 x.sec,.int .i64 x.qty,.int .i64 x.prc]
theorem kRT (x:RT):(eRT x).length=7:=rfl
theorem il (x:RT):∀u∈eRT x,u.oneCell'=true:=by intro u a;simp [eRT] at a;rcases a with rfl | rfl | rfl | rfl | rfl | rfl | rfl <;> rfl
theorem l5:(Tryz.prog.info? 163).map (fun i=>(i.zero,i.size,i.bytes))=some (some (.agg #[.int .i64 0,.int .i64 0,.int .i64 0,.int .i64 0,.int .i64 0,.int .i64 0,.int .i64 0]),7,56):=by kernel_rfl
theorem atRT {W:World}{b o:Nat}{x:RT}(h:∀j u,(eRT x)[j]?=some u→W.cell? ⟨b,o+j,none⟩=some u):W.cell? ⟨b,o,none⟩=some (.int .i64 x.rid)∧W.cell? ⟨b,o+1,none⟩=some (.int .i64 x.id)∧W.cell? ⟨b,o+2,none⟩=some (.int .i64 x.byr)∧W.cell? ⟨b,o+3,none⟩=some (.int .i64 x.slr)∧W.cell? ⟨b,o+4,none⟩=some (.int .i64 x.sec)∧W.cell? ⟨b,o+5,none⟩=some (.int .i64 x.qty)∧W.cell? ⟨b,o+6,none⟩=some (.int .i64 x.prc):=by
 exact ⟨h 0 _ rfl,h 1 _ rfl,h 2 _ rfl,h 3 _ rfl,h 4 _ rfl,h 5 _ rfl,h 6 _ rfl⟩
theorem wl (v:Value)(l:List RT)(w:World)(hv:Sl eRT 7 w v l)(hn:l.length≤1000000):Calls Tryz.prog 120 #[v] w (CPo eRT 163 7 l w):=by
 have i:=hv;obtain ⟨a,g,rfl,p,x,s,m⟩:=hv;unfold maxLen at s;have h:=aa i;clear m i;obtain ⟨i0,hi,hz0,hz1,hz2⟩:=info_parts l5;have u:=fun (w:World) (a:Option Addr) (n c:Nat)=>Lib.run_eql_slice_nil (P:=Tryz.prog) w 160 163 a n c 0 0 Tryz.underlying160
 cases a with
 | none=>
  obtain rfl:=p rfl;obtain rfl:l=[]:=Ar (by omega);go_enter Tryz.func120,Tryz.ntmps120;go_wp2;go_ret;exact ⟨_,rfl,⟨rfl,Or.inl ⟨rfl,rfl⟩⟩,zZ _ _⟩
 | some ad=>
  have f:=aa (Ba (base:=w.heap.size) (e:=163) (size:=7) w #[] 0 (zY _) (by unfold maxLen;omega) rfl);have j:=aa (Sl.news kRT (by decide) (h.o.keep ((zZ _ _).alloc (zY _) (.cells #[] 163))));go_enter Tryz.func120,Tryz.ntmps120;go_wp2_with (at_builtin;refine wpList_append_own _ rfl _ _ 160 rfl w.heap.size 163 i0 (.agg #[.int .i64 0,.int .i64 0,.int .i64 0,.int .i64 0,.int .i64 0,.int .i64 0,.int .i64 0]) 7 56 Tryz.underlying160 hi hz0 hz1 hz2 rfl (by decide) _ 0 [] rfl f.o ad l.length g (flat eRT l) rfl (aC eRT 7 kRT l) j.o (aH il l) ?c3 ?c4 ?c5 ?_)
  case c3=>unfold maxLen;omega
  case c4=>omega
  case c5=>simp
  intro t r d b _;have q:Bw w r:=Bn.grown b (by simp) (fun k hk=>by simp [Value.ownBlock] at hk;omega);clear b;go_wp2;go_ret;exact ⟨_,rfl,d,q⟩
structure Ob where
 cycle:Int
 mem:Int
 ass:Int
 net:Int
 done:Int
 stt:Int
  deriving DecidableEq
abbrev cOb (x:Ob):Array Value:=#[.int .i64 x.cycle,.int .i64 x.mem,.int .i64 x.ass,.int .i64 x.net,.int .i64 x.done,.int .i64 x.stt]
def eOb (x:Ob):List Value:=[.int .i64 x.cycle,.int .i64 x.mem,.int .i64 x.ass,.int .i64 x.net,.int .i64 x.done,.int .i64 x.stt]
theorem kOb (x:Ob):(eOb x).length=6:=rfl
theorem jU (x:Ob):∀u∈eOb x,u.oneCell'=true:=by intro u a;simp [eOb] at a;rcases a with rfl | rfl | rfl | rfl | rfl | rfl <;> rfl
theorem jp:(Tryz.prog.info? 71).map (fun i=>(i.zero,i.size,i.bytes))=some (some (.agg #[.int .i64 0,.int .i64 0,.int .i64 0,.int .i64 0,.int .i64 0,.int .i64 0]),6,48):=by kernel_rfl
theorem g8 {W:World}{b o:Nat}{x:Ob}(h:∀j u,(eOb x)[j]?=some u→W.cell? ⟨b,o+j,none⟩=some u):W.cell? ⟨b,o,none⟩=some (.int .i64 x.cycle)∧W.cell? ⟨b,o+1,none⟩=some (.int .i64 x.mem)∧W.cell? ⟨b,o+2,none⟩=some (.int .i64 x.ass)∧W.cell? ⟨b,o+3,none⟩=some (.int .i64 x.net)∧W.cell? ⟨b,o+4,none⟩=some (.int .i64 x.done)∧W.cell? ⟨b,o+5,none⟩=some (.int .i64 x.stt):=by
 exact ⟨h 0 _ rfl,h 1 _ rfl,h 2 _ rfl,h 3 _ rfl,h 4 _ rfl,h 5 _ rfl⟩
theorem ws (v:Value)(l:List Ob)(w:World)(hv:Sl eOb 6 w v l)(hn:l.length≤1000000):Calls Tryz.prog 121 #[v] w (CPo eOb 71 6 l w):=by
 have i:=hv;obtain ⟨a,g,rfl,p,x,s,m⟩:=hv;unfold maxLen at s;have h:=aa i;clear m i;obtain ⟨i0,hi,hz0,hz1,hz2⟩:=info_parts jp;have u:=fun (w:World) (a:Option Addr) (n c:Nat)=>Lib.run_eql_slice_nil (P:=Tryz.prog) w 64 71 a n c 0 0 Tryz.underlying64
 cases a with
 | none=>
  obtain rfl:=p rfl;obtain rfl:l=[]:=Ar (by omega);go_enter Tryz.func121,Tryz.ntmps121;go_wp2;go_ret;exact ⟨_,rfl,⟨rfl,Or.inl ⟨rfl,rfl⟩⟩,zZ _ _⟩
 | some ad=>
  have f:=aa (Ba (base:=w.heap.size) (e:=71) (size:=6) w #[] 0 (zY _) (by unfold maxLen;omega) rfl);have j:=aa (Sl.news kOb (by decide) (h.o.keep ((zZ _ _).alloc (zY _) (.cells #[] 71))));go_enter Tryz.func121,Tryz.ntmps121;go_wp2_with (at_builtin;refine wpList_append_own _ rfl _ _ 64 rfl w.heap.size 71 i0 (.agg #[.int .i64 0,.int .i64 0,.int .i64 0,.int .i64 0,.int .i64 0,.int .i64 0]) 6 48 Tryz.underlying64 hi hz0 hz1 hz2 rfl (by decide) _ 0 [] rfl f.o ad l.length g (flat eOb l) rfl (aC eOb 6 kOb l) j.o (aH jU l) ?c3 ?c4 ?c5 ?_)
  case c3=>unfold maxLen;omega
  case c4=>omega
  case c5=>simp
  intro t r d b _;have q:Bw w r:=Bn.grown b (by simp) (fun k hk=>by simp [Value.ownBlock] at hk;omega);clear b;go_wp2;go_ret;exact ⟨_,rfl,d,q⟩
structure RH where
 rid:Int
 kind:Int
 mem:Int
 ass:Int
 amt:Int
  deriving DecidableEq
abbrev vRH (x:RH):Value:=.agg #[.int .i64 x.rid,.int .i64 x.kind,.int .i64 x.mem,.int .i64 x.ass,.int .i64 x.amt]
abbrev cRH (x:RH):Array Value:=#[.int .i64 x.rid,.int .i64 x.kind,.int .i64 x.mem,.int .i64 x.ass,.int .i64 x.amt]
def eRH (x:RH):List Value:=[.int .i64 x.rid,.int .i64 x.kind,.int .i64 x.mem,.int .i64 x.ass,.int .i64 x.amt]
theorem kRH (x:RH):(eRH x).length=5:=rfl
theorem fJ (x:RH):∀u∈eRH x,u.oneCell'=true:=by intro u a;simp [eRH] at a;rcases a with rfl | rfl | rfl | rfl | rfl <;> rfl
theorem jq:(Tryz.prog.info? 333).map (fun i=>(i.zero,i.size,i.bytes))=some (some (.agg #[.int .i64 0,.int .i64 0,.int .i64 0,.int .i64 0,.int .i64 0]),5,40):=by kernel_rfl
theorem atRH {W:World}{b o:Nat}{x:RH}(h:∀j u,(eRH x)[j]?=some u→W.cell? ⟨b,o+j,none⟩=some u):W.cell? ⟨b,o,none⟩=some (.int .i64 x.rid)∧W.cell? ⟨b,o+1,none⟩=some (.int .i64 x.kind)∧W.cell? ⟨b,o+2,none⟩=some (.int .i64 x.mem)∧W.cell? ⟨b,o+3,none⟩=some (.int .i64 x.ass)∧W.cell? ⟨b,o+4,none⟩=some (.int .i64 x.amt):=by
 exact ⟨h 0 _ rfl,h 1 _ rfl,h 2 _ rfl,h 3 _ rfl,h 4 _ rfl⟩
theorem wt (v:Value)(l:List RH)(w:World)(hv:Sl eRH 5 w v l)(hn:l.length≤1000000):Calls Tryz.prog 319 #[v] w (CPo eRH 333 5 l w):=by
 have i:=hv;obtain ⟨a,g,rfl,p,x,s,m⟩:=hv;unfold maxLen at s;have h:=aa i;clear m i;obtain ⟨i0,hi,hz0,hz1,hz2⟩:=info_parts jq;have u:=fun (w:World) (a:Option Addr) (n c:Nat)=>Lib.run_eql_slice_nil (P:=Tryz.prog) w 225 333 a n c 0 0 Tryz.underlying225
 cases a with
 | none=>
  obtain rfl:=p rfl;obtain rfl:l=[]:=Ar (by omega);go_enter Tryz.func319,Tryz.ntmps319;go_wp2;go_ret;exact ⟨_,rfl,⟨rfl,Or.inl ⟨rfl,rfl⟩⟩,zZ _ _⟩
 | some ad=>
  have f:=aa (Ba (base:=w.heap.size) (e:=333) (size:=5) w #[] 0 (zY _) (by unfold maxLen;omega) rfl);have j:=aa (Sl.news kRH (by decide) (h.o.keep ((zZ _ _).alloc (zY _) (.cells #[] 333))));go_enter Tryz.func319,Tryz.ntmps319;go_wp2_with (at_builtin;refine wpList_append_own _ rfl _ _ 225 rfl w.heap.size 333 i0 (.agg #[.int .i64 0,.int .i64 0,.int .i64 0,.int .i64 0,.int .i64 0]) 5 40 Tryz.underlying225 hi hz0 hz1 hz2 rfl (by decide) _ 0 [] rfl f.o ad l.length g (flat eRH l) rfl (aC eRH 5 kRH l) j.o (aH fJ l) ?c3 ?c4 ?c5 ?_)
  case c3=>unfold maxLen;omega
  case c4=>omega
  case c5=>simp
  intro t r d b _;have q:Bw w r:=Bn.grown b (by simp) (fun k hk=>by simp [Value.ownBlock] at hk;omega);clear b;go_wp2;go_ret;exact ⟨_,rfl,d,q⟩
structure Bd where
 seq:Int
 mem:Int
 sec:Int
 qty:Int
 prc:Int
  deriving DecidableEq
def eBd (x:Bd):List Value:=[.int .i64 x.seq,.int .i64 x.mem,.int .i64 x.sec,.int .i64 x.qty,.int .i64 x.prc]
structure Lg where
 mem:Int
 ass:Int
 amt:Int
  deriving DecidableEq
abbrev vLg (x:Lg):Value:=.agg #[.int .i64 x.mem,.int .i64 x.ass,.int .i64 x.amt]
abbrev cLg (x:Lg):Array Value:=#[.int .i64 x.mem,.int .i64 x.ass,.int .i64 x.amt]
def eLg (x:Lg):List Value:=[.int .i64 x.mem,.int .i64 x.ass,.int .i64 x.amt]
theorem kLg (x:Lg):(eLg x).length=3:=rfl
theorem bL (x:Lg):∀u∈eLg x,u.oneCell'=true:=by intro u a;simp [eLg] at a;rcases a with rfl | rfl | rfl <;> rfl
theorem bt:(Tryz.prog.info? 120).map (fun i=>(i.zero,i.size,i.bytes))=some (some (.agg #[.int .i64 0,.int .i64 0,.int .i64 0]),3,24):=by kernel_rfl
theorem ch {W:World}{b o:Nat}{x:Lg}(h:∀j u,(eLg x)[j]?=some u→W.cell? ⟨b,o+j,none⟩=some u):W.cell? ⟨b,o,none⟩=some (.int .i64 x.mem)∧W.cell? ⟨b,o+1,none⟩=some (.int .i64 x.ass)∧W.cell? ⟨b,o+2,none⟩=some (.int .i64 x.amt):=by
 exact ⟨h 0 _ rfl,h 1 _ rfl,h 2 _ rfl⟩
structure Tm where
 due:Int
 kind:Int
 mem:Int
 level:Int
  deriving DecidableEq
abbrev vTm (x:Tm):Value:=.agg #[.int .i64 x.due,.int .i64 x.kind,.int .i64 x.mem,.int .i64 x.level]
abbrev cTm (x:Tm):Array Value:=#[.int .i64 x.due,.int .i64 x.kind,.int .i64 x.mem,.int .i64 x.level]
def eTm (x:Tm):List Value:=[.int .i64 x.due,.int .i64 x.kind,.int .i64 x.mem,.int .i64 x.level]
theorem kTm (x:Tm):(eTm x).length=4:=rfl
theorem oneTm (x:Tm):∀u∈eTm x,u.oneCell'=true:=by intro u a;simp [eTm] at a;rcases a with rfl | rfl | rfl | rfl <;> rfl
theorem fK:(Tryz.prog.info? 197).map (fun i=>(i.zero,i.size,i.bytes))=some (some (.agg #[.int .i64 0,.int .i64 0,.int .i64 0,.int .i64 0]),4,32):=by kernel_rfl
theorem yL (W:World)(x:Tm)(b:Nat)(hb:W.heap.size=b):∀j u,(eTm x)[j]?=some u→(W.alloc (.cells (cTm x) 197)).cell? ((⟨b,0,none⟩:Addr).add j)=some u:=by
 subst hb;intro j u a;rw [Aj,Av,(Blk.new W 197 (cTm x)).c j];simpa [eTm] using a
theorem jV {W:World}{b o:Nat}{x:Tm}(h:∀j u,(eTm x)[j]?=some u→W.cell? ⟨b,o+j,none⟩=some u):W.cell? ⟨b,o,none⟩=some (.int .i64 x.due)∧W.cell? ⟨b,o+1,none⟩=some (.int .i64 x.kind)∧W.cell? ⟨b,o+2,none⟩=some (.int .i64 x.mem)∧W.cell? ⟨b,o+3,none⟩=some (.int .i64 x.level):=by
 exact ⟨h 0 _ rfl,h 1 _ rfl,h 2 _ rfl,h 3 _ rfl⟩
theorem im:(Tryz.prog.info? 3).map (fun i=>(i.zero,i.size,i.bytes))=some (some (.int .i64 0),1,8):=by kernel_rfl
theorem cT:(Tryz.prog.info? 2).map (fun i=>(i.zero,i.size,i.bytes))=some (some (.int .i64 0),1,8):=by kernel_rfl
theorem rD (v:Value)(l:List Int)(w:World)(hv:Sl eI 1 w v l)(hn:l.length≤1000000):Calls Tryz.prog 88 #[v] w (CPo eI 3 1 l w):=by
 have i:=hv;obtain ⟨a,g,rfl,p,x,s,m⟩:=hv;unfold maxLen at s;have h:=aa i;clear m i;obtain ⟨i0,hi,hz0,hz1,hz2⟩:=info_parts im;have u:=fun (w:World) (a:Option Addr) (n c:Nat)=>Lib.run_eql_slice_nil (P:=Tryz.prog) w 74 3 a n c 0 0 Tryz.underlying74
 cases a with
 | none=>
  obtain rfl:=p rfl;obtain rfl:l=[]:=Ar (by omega);go_enter Tryz.func88,Tryz.ntmps88;go_wp2;go_ret;exact ⟨_,rfl,⟨rfl,Or.inl ⟨rfl,rfl⟩⟩,zZ _ _⟩
 | some ad=>
  have f:=aa (Ba (base:=w.heap.size) (e:=3) (size:=1) w #[] 0 (zY _) (by unfold maxLen;omega) rfl);have j:=aa (Sl.news kI (by decide) (h.o.keep ((zZ _ _).alloc (zY _) (.cells #[] 3))));go_enter Tryz.func88,Tryz.ntmps88;go_wp2_with (at_builtin;refine wpList_append_own _ rfl _ _ 74 rfl w.heap.size 3 i0 (.int .i64 0) 1 8 Tryz.underlying74 hi hz0 hz1 hz2 rfl (by decide) _ 0 [] rfl f.o ad l.length g (flat eI l) rfl (aC eI 1 kI l) j.o (aH dL l) ?c3 ?c4 ?c5 ?_)
  case c3=>unfold maxLen;omega
  case c4=>omega
  case c5=>simp
  intro t r d b _;have q:Bw w r:=Bn.grown b (by simp) (fun k hk=>by simp [Value.ownBlock] at hk;omega);clear b;go_wp2;go_ret;exact ⟨_,rfl,d,q⟩
theorem kJ (x:Int):(eI x).length=1:=rfl
theorem oneJ (x:Int):∀u∈eI x,u.oneCell'=true:=dL x
theorem yS (v:Value)(l:List Int)(w:World)(hv:Sl eI 1 w v l)(hn:l.length≤1000000):Calls Tryz.prog 225 #[v] w (CPo eI 2 1 l w):=by
 have i:=hv;obtain ⟨a,g,rfl,p,x,s,m⟩:=hv;unfold maxLen at s;have h:=aa i;clear m i;obtain ⟨i0,hi,hz0,hz1,hz2⟩:=info_parts cT;have u:=fun (w:World) (a:Option Addr) (n c:Nat)=>Lib.run_eql_slice_nil (P:=Tryz.prog) w 45 2 a n c 0 0 Tryz.underlying45
 cases a with
 | none=>
  obtain rfl:=p rfl;obtain rfl:l=[]:=Ar (by omega);go_enter Tryz.func225,Tryz.ntmps225;go_wp2;go_ret;exact ⟨_,rfl,⟨rfl,Or.inl ⟨rfl,rfl⟩⟩,zZ _ _⟩
 | some ad=>
  have f:=aa (Ba (base:=w.heap.size) (e:=2) (size:=1) w #[] 0 (zY _) (by unfold maxLen;omega) rfl);have j:=aa (Sl.news kJ (by decide) (h.o.keep ((zZ _ _).alloc (zY _) (.cells #[] 2))));go_enter Tryz.func225,Tryz.ntmps225;go_wp2_with (at_builtin;refine wpList_append_own _ rfl _ _ 45 rfl w.heap.size 2 i0 (.int .i64 0) 1 8 Tryz.underlying45 hi hz0 hz1 hz2 rfl (by decide) _ 0 [] rfl f.o ad l.length g (flat eI l) rfl (aC eI 1 kJ l) j.o (aH oneJ l) ?c3 ?c4 ?c5 ?_)
  case c3=>unfold maxLen;omega
  case c4=>omega
  case c5=>simp
  intro t r d b _;have q:Bw w r:=Bn.grown b (by simp) (fun k hk=>by simp [Value.ownBlock] at hk;omega);clear b;go_wp2;go_ret;exact ⟨_,rfl,d,q⟩
theorem cH (n:Int)(w:World):Calls Tryz.prog 176 #[.int .i64 n] w fun e w'=>e=.returned (.bool (decide (0≤n∧n≤16)))∧w=w':=by
 rcases AQ n 0 with h | h
 ·rw [dF (show ¬ (0≤n∧n≤16) by omega)];go_enter Tryz.func176,Tryz.ntmps176;go_wp2;go_ret;exact ⟨rfl,rfl⟩
 ·rcases AQ 16 n with h2 | h2
  ·rw [dF (show ¬ (0≤n∧n≤16) by omega)];have a:decide (n≤16)=false:=dF (by omega);go_enter Tryz.func176,Tryz.ntmps176;go_wp2;go_ret;exact ⟨rfl,rfl⟩
  ·rw [dT (show (0≤n∧n≤16) by omega)];have a:decide (n≤16)=true:=dT (by omega);go_enter Tryz.func176,Tryz.ntmps176;go_wp2;go_ret;exact ⟨rfl,rfl⟩
theorem io (n:Int)(h0:0≤n)(h1:n≤16)(w:World):Calls Tryz.prog 136 #[.int .i64 n] w fun e w'=>e=.returned (.int .i64 (6+3 * n))∧w=w':=by
 have h:decide (0≤n∧n≤16)=true:=dT ⟨h0,h1⟩;go_enter Tryz.func136,Tryz.ntmps136;go_wp2_with fail;refine (cH n _).mono ?_;rintro e a ⟨rfl,rfl⟩;rw [h];go_wp2_with fail;go_ret;exact ⟨rfl,rfl⟩
def cplace (k:Int):Int:=if k=7 then 0 else if k=8 then 1 else if k=9 then 2 else -1
theorem dP (k:Int)(w:World):Calls Tryz.prog 279 #[.int .i64 k] w fun e w'=>e=.returned (.int .i64 (cplace k))∧w=w':=by
 by_cases h7:k=7
 ·subst h7;go_enter Tryz.func279,Tryz.ntmps279;go_wp2;go_ret;exact ⟨rfl,rfl⟩
 ·by_cases h8:k=8
  ·subst h8;go_enter Tryz.func279,Tryz.ntmps279;go_wp2;go_ret;exact ⟨rfl,rfl⟩
  ·by_cases h9:k=9
   ·subst h9;go_enter Tryz.func279,Tryz.ntmps279;go_wp2;go_ret;exact ⟨rfl,rfl⟩
   ·have a:Hid (cplace k=-1):=aa (by unfold cplace;rw [if_neg h7,if_neg h8,if_neg h9]);have d:(k==7)=false:=by simpa using h7
    have b:(k==8)=false:=by simpa using h8
    have c:(k==9)=false:=by simpa using h9
    clear h7 h8 h9;go_enter Tryz.func279,Tryz.ntmps279;go_wp2;go_ret;exact ⟨by rw [a.o];rfl,rfl⟩
structure Ac where
 k:Int
 m:Int
  deriving DecidableEq
abbrev aval (a:Ac):Value:=.agg #[.int .i64 a.k,.int .i64 a.m]
abbrev acs (a:Ac):Array Value:=#[.int .i64 a.k,.int .i64 a.m]
def numM (ms:Int)(a:Ac):Int×Int:=
 if cplace a.k=-1∧a.m=0∧1≤a.k∧a.k≤6 then (a.k - 1,0) else if cplace a.k≠-1∧1≤a.m∧a.m≤ms then (6+3 * (a.m - 1)+cplace a.k,0) else (0,8)
theorem l6 (ms:Int)(h0:0≤ms)(h1:ms≤16)(a:Ac)(w:World):Calls Tryz.prog 224 #[.int .i64 ms,aval a] w fun e w'=>e=.returned (.tuple #[.int .i64 (numM ms a).1,.int .i64 (numM ms a).2])∧w'=w.alloc (.cells (acs a) 81):=by
 obtain ⟨k,m⟩:=a;have i:decide (0≤ms∧ms≤16)=true:=dT ⟨h0,h1⟩;obtain ⟨p,hp⟩:∃p,cplace k=p:=⟨_,rfl⟩;have h:=aa hp;by_cases c1:p=-1∧m=0∧1≤k∧k≤6
 ·obtain ⟨rfl,rfl,n,l⟩:=c1;have f:Hid (numM ms ⟨k,0⟩=(k - 1,0)):=aa (by unfold numM;rw [if_pos ⟨hp,rfl,n,l⟩]);clear hp;go_enter Tryz.func224,Tryz.ntmps224;go_wp2_with (first | (go_at_call 279;refine (dP k _).mono ?_;rintro e g ⟨rfl,rfl⟩;rw [h.o]) | (go_at_call 176;refine (cH ms _).mono ?_;rintro e g ⟨rfl,rfl⟩;rw [i]))
  go_ret2;exact ⟨by rw [f.o];rfl,rfl⟩
 ·by_cases c2:p≠-1∧1≤m∧m≤ms
  ·obtain ⟨d,r,q⟩:=c2;have f:Hid (numM ms ⟨k,m⟩=(6+3 * (m - 1)+p,0)):=aa (by unfold numM;dsimp only;rw [hp,if_neg c1,if_pos ⟨d,r,q⟩]);have j:0≤p∧p≤2:=by
    rw [←hp] at d ⊢;unfold cplace at d ⊢;split
    ·omega
    ·split
     ·omega
     ·split
      ·omega
      ·rename_i a b c;rw [if_neg a,if_neg b,if_neg c] at d;exact absurd rfl d
   have t:(p==-1)=false:=by simpa using d
   have s:(p != -1)=true:=by simpa using d
   clear hp c1 d;go_enter Tryz.func224,Tryz.ntmps224;go_wp2_with (first | (go_at_call 279;refine (dP k _).mono ?_;rintro e g ⟨rfl,rfl⟩;rw [h.o]) | (go_at_call 176;refine (cH ms _).mono ?_;rintro e g ⟨rfl,rfl⟩;rw [i]))
   go_ret2;exact ⟨by rw [f.o];rfl,rfl⟩
  ·have f:Hid (numM ms ⟨k,m⟩=(0,8)):=aa (by unfold numM;dsimp only;rw [hp,if_neg c1,if_neg c2]);clear hp;go_enter Tryz.func224,Tryz.ntmps224;go_wp2_with (first | (go_at_call 279;refine (dP k _).mono ?_;rintro e g ⟨rfl,rfl⟩;rw [h.o]) | (go_at_call 176;refine (cH ms _).mono ?_;rintro e g ⟨rfl,rfl⟩;rw [i]))
   all_goals (go_ret2;first | exact ⟨by rw [f.o];rfl,rfl⟩ | (subst_vars;exact ⟨by rw [f.o];rfl,rfl⟩))
theorem cU {a b:Bool}(h:a=b):Ending.returned (.bool a)=.returned (.bool b):=by rw [h]
def freeM (a:Ac):Bool:=a.k==5||a.k==6||a.k==7
theorem aU (a:Ac)(w:World):Calls Tryz.prog 227 #[aval a] w fun e w'=>e=.returned (.bool (freeM a))∧w'=w.alloc (.cells (acs a) 81):=by
 obtain ⟨k,m⟩:=a;obtain ⟨b5,h5⟩:∃b,(k==5)=b:=⟨_,rfl⟩;obtain ⟨b6,h6⟩:∃b,(k==6)=b:=⟨_,rfl⟩;obtain ⟨b7,h7⟩:∃b,(k==7)=b:=⟨_,rfl⟩;have c:Hid (freeM ⟨k,m⟩=(b5||b6||b7)):=aa (by rw [←h5,←h6,←h7];simp only [freeM]);cases b5 <;> cases b6 <;> cases b7
 all_goals
  go_enter Tryz.func227,Tryz.ntmps227;go_wp2;go_ret;exact ⟨by rw [c.o];rfl,rfl⟩
def inB (n a b:Int):Bool:=decide (a≤n∧n≤b)
theorem cI (n a b:Int)(w:World):Calls Tryz.prog 130 #[.int .i64 n,.int .i64 a,.int .i64 b] w fun e w'=>e=.returned (.bool (inB n a b))∧w=w':=by
 go_enter Tryz.func130,Tryz.ntmps130;go_wp2
 all_goals (go_ret;refine ⟨cU ?_,rfl⟩;simp [inB, *])
 all_goals omega
theorem ci (n a b:Int)(w:World):Calls Tryz.prog 133 #[.int .i64 n,.int .i64 a,.int .i64 b] w fun e w'=>e=.returned (.bool (inB n a b))∧w=w':=by
 go_enter Tryz.func133,Tryz.ntmps133;go_wp2
 all_goals (go_ret;refine ⟨cU ?_,rfl⟩;simp [inB, *])
 all_goals omega
theorem rE (p:Int)(w:World):Calls Tryz.prog 81 #[.int .i64 p] w fun e w'=>e=.returned (.bool (inB p 1 4))∧w=w':=by
 go_enter Tryz.func81,Tryz.ntmps81;go_wp2
 all_goals (go_ret;refine ⟨cU ?_,rfl⟩;simp [inB, *])
 all_goals omega
def mayM (p k:Int):Bool:=
 if k==1 then p==0 else if k==2||k==3 then p==1 else if k==4||k==5||k==6 then p==2 else if k==7 then p==3 else if k==8||k==9||k==10 then inB p 1 4 else false
theorem oh (p k:Int)(w:World):Calls Tryz.prog 37 #[.int .i64 p,.int .i64 k] w fun e w'=>e=.returned (.bool (mayM p k))∧w=w':=by
 go_enter Tryz.func37,Tryz.ntmps37;go_wp2_with (go_at_call 81;refine (rE p _).mono ?_;rintro e a ⟨rfl,rfl⟩)
 all_goals (go_ret;refine ⟨cU ?_,rfl⟩;simp only [mayM, *];simp)
structure Cfg where
 mem:List Mb
 secs:List Sc
 cyc:List Cy
 line:Int
 capital:Int
 lead:Int
 trades:Int
 bids:Int
def tkM (l:List Cy):List Int:=l.flatMap fun x=>[x.cut,x.fund,x.buyin,x.close]
def CycOk:Int→List Cy→Prop
 | _,[]=>True
 | at0,x :: l=>at0<x.cut∧x.cut<x.fund∧x.fund<x.buyin∧x.buyin<x.close∧x.close≤1000∧CycOk x.close l
structure Valid (C:Cfg):Prop where
 m1:2≤C.mem.length
 m2:C.mem.length≤16
 mem:∀x∈C.mem,(0≤x.coll∧x.coll≤1099511627776)∧(0≤x.fund∧x.fund≤1099511627776)
 s1:1≤C.secs.length
 s2:C.secs.length≤8
 secs:∀x∈C.secs,(1≤x.prc∧x.prc≤1048576)∧(x.prc≤x.cap∧x.cap≤1048576)
 c1:1≤C.cyc.length
 c2:C.cyc.length≤4
 cyc:CycOk 0 C.cyc
 line:0≤C.line∧C.line≤1099511627776
 capital:0≤C.capital∧C.capital≤1099511627776
 lead:0≤C.lead∧C.lead≤1000
 trades:1≤C.trades∧C.trades≤64
 bids:1≤C.bids∧C.bids≤32
abbrev cfgV (vm vs vc:Value)(C:Cfg):Value:=.agg #[vm,vs,vc,.int .i64 C.line,.int .i64 C.capital,.int .i64 C.lead,.int .i64 C.trades,.int .i64 C.bids]
abbrev cfgC (vm vs vc:Value)(C:Cfg):Array Value:=#[vm,vs,vc,.int .i64 C.line,.int .i64 C.capital,.int .i64 C.lead,.int .i64 C.trades,.int .i64 C.bids]
structure CSl (w:World)(vm vs vc:Value)(C:Cfg):Prop where
 m:Sl eMb 2 w vm C.mem
 s:Sl eSc 2 w vs C.secs
 c:Sl eCy 4 w vc C.cyc
theorem CSl.keep {w w':World}{vm vs vc:Value}{C:Cfg}(h:CSl w vm vs vc C)(hb:Bw w w'):CSl w' vm vs vc C:=⟨h.m.keep hb,h.s.keep hb,h.c.keep hb⟩
theorem CSl.alloc {w:World}{vm vs vc:Value}{C:Cfg}(h:CSl w vm vs vc C)(o:Obj):CSl (w.alloc o) vm vs vc C:=h.keep Bn
theorem aX {n a b:Int}(h:a≤n∧n≤b):inB n a b=true:=by unfold inB;exact dT h
theorem l8 (v:Value)(l:List Mb)(w:World)(hv:Sl eMb 2 w v l)(h:∀x∈l,(0≤x.coll∧x.coll≤1099511627776)∧(0≤x.fund∧x.fund≤1099511627776))(h1:2≤l.length)(h2:l.length≤16) :
  Calls Tryz.prog 124 #[v] w fun e w'=>e=.returned (.bool true)∧Bw w w':=by
 obtain ⟨a,s,rfl,_,A,r,f⟩:=hv;unfold maxLen at r;have g:=aa f;have H:=aa h;have z:=aa (aX (n:=(l.length:Nat)) (a:=2) (b:=16) (by omega));clear f h;go_enter Tryz.func124,Tryz.ntmps124;go_wp2_with fail;go_loopw [7] (fun i wr=>∃k:Nat,k≤l.length∧i=.int .i64 k∧Bw w wr) (fun i _=>l.length - (intOf i).toNat)
 case atStart=>exact ⟨0,Af _,rfl,zZ _ _⟩
 case round=>
  obtain ⟨k,G,rfl,d⟩:=hrel;by_cases hlt:k<l.length
  ·obtain ⟨b,m,rfl,q,j⟩:=g.o (by omega);obtain ⟨q0,q1⟩:=rz (j k hlt);have E:=(d.c (p:=⟨b,m+k * 2,none⟩) q).trans q0;have F:=(d.c (p:=⟨b,m+k * 2+1,none⟩) q).trans q1;obtain ⟨hx1,hx2⟩:=H.o l[k] (Ag hlt);have B:=aa (aX hx1);have u:=aa (aX hx2);have D:(0:Int)≤(k:Int):=by omega
   have C:(k:Int)<(l.length:Int):=by omega
   clear j q0 q1 hx1 hx2;generalize l[k]=x at *;have t:=d.alloc d.size (.cells (cMb x) 125);go_wp2_with (go_at_call 130;refine (cI _ _ _ _).mono ?_;rintro e y ⟨rfl,rfl⟩;first | rw [B.o] | rw [u.o])
   go_roundw
   case rel=>exact ⟨k+1,by omega,by go_num,t⟩
   case measure=>simp [intOf];omega
  ·go_wp2_with fail;refine (ci _ _ _ _).mono ?_;rintro e y ⟨rfl,rfl⟩;rw [z.o];go_wp2_with fail;go_ret;exact ⟨rfl,d⟩
theorem wu (v:Value)(l:List Sc)(w:World)(hv:Sl eSc 2 w v l)(h:∀x∈l,(1≤x.prc∧x.prc≤1048576)∧(x.prc≤x.cap∧x.cap≤1048576))(h1:1≤l.length)(h2:l.length≤8) :
  Calls Tryz.prog 126 #[v] w fun e w'=>e=.returned (.bool true)∧Bw w w':=by
 obtain ⟨a,cap,rfl,_,z,r,f⟩:=hv;unfold maxLen at r;have g:=aa f;have H:=aa h;have y:=aa (aX (n:=(l.length:Nat)) (a:=1) (b:=8) (by omega));clear f h;go_enter Tryz.func126,Tryz.ntmps126;go_wp2_with fail;go_loopw [7] (fun i wr=>∃k:Nat,k≤l.length∧i=.int .i64 k∧Bw w wr) (fun i _=>l.length - (intOf i).toNat)
 case atStart=>exact ⟨0,Af _,rfl,zZ _ _⟩
 case round=>
  obtain ⟨k,F,rfl,d⟩:=hrel;by_cases hlt:k<l.length
  ·obtain ⟨b,m,rfl,q,j⟩:=g.o (by omega);obtain ⟨q0,q1⟩:=atSc (j k hlt);have D:=(d.c (p:=⟨b,m+k * 2,none⟩) q).trans q0;have E:=(d.c (p:=⟨b,m+k * 2+1,none⟩) q).trans q1;obtain ⟨hx1,hx2⟩:=H.o l[k] (Ag hlt);have A:=aa (aX hx1);have t:=aa (aX hx2);have C:(0:Int)≤(k:Int):=by omega
   have B:(k:Int)<(l.length:Int):=by omega
   clear j q0 q1 hx1 hx2;generalize l[k]=x at *;have s:=d.alloc d.size (.cells (cSc x) 127);go_wp2_with (go_at_call 130;refine (cI _ _ _ _).mono ?_;rintro e u ⟨rfl,rfl⟩;first | rw [A.o] | rw [t.o])
   go_roundw
   case rel=>exact ⟨k+1,by omega,by go_num,s⟩
   case measure=>simp [intOf];omega
  ·go_wp2_with fail;refine (ci _ _ _ _).mono ?_;rintro e u ⟨rfl,rfl⟩;rw [y.o];go_wp2_with fail;go_ret;exact ⟨rfl,d⟩
theorem rF (l:List Cy):∀(at0:Int),CycOk at0 l→(∀k (h:k<(tkM l).length),(if k=0 then at0 else (tkM l).getD (k - 1) 0)<(tkM l)[k]∧(tkM l)[k]≤1000):=by
 induction l with
 | nil=>intro at0 _ k h;simp [tkM] at h
 | cons x l ih=>
  intro at0 b k h;obtain ⟨h1,h2,h3,h4,h5,h6⟩:=b;have e:tkM (x :: l)=x.cut :: x.fund :: x.buyin :: x.close :: tkM l:=by simp [tkM]
  have a:=ih x.close h6;simp only [e] at h ⊢;match k,h with
  | 0,_=>exact ⟨by simpa using h1,by simp;omega⟩
  | 1,_=>exact ⟨by simpa using h2,by simp;omega⟩
  | 2,_=>exact ⟨by simpa using h3,by simp;omega⟩
  | 3,_=>exact ⟨by simpa using h4,by simpa using h5⟩
  | k+4,h=>
   have d:k<(tkM l).length:=by simpa using h
   have:=a k d
   simp only [A9];refine ⟨?_,this.2⟩;rw [if_neg (by omega)];by_cases h0:k=0
   ·subst h0;simpa using this.1
   ·obtain ⟨j,rfl⟩:∃j,k=j+1:=⟨k - 1,by omega⟩;have c:=this.1;rw [if_neg (by omega)] at c;simpa using c
theorem eF (l:List Cy):(tkM l).length=4 * l.length:=by
 induction l with
 | nil=>rfl
 | cons x l ih=>simp [tkM] at ih ⊢;omega
theorem l9 (l:List Cy)(k:Nat)(h:k<l.length):tkM (l.take (k+1))=tkM (l.take k)++[l[k].cut,l[k].fund,l[k].buyin,l[k].close]:=by
 unfold tkM;rw [z9 h,List.flatMap_append,List.flatMap_singleton]
theorem ee (l:List Int):flat eI l=l.map (Value.int .i64):=by
 induction l with
 | nil=>rfl
 | cons a l ih=>simp [flat,eI] at ih ⊢;exact ih
theorem jr (l m:List Int):flat eI (l++m)=flat eI l++flat eI m:=aI eI l m
theorem new4 (W:World)(x0 x1 x2 x3:Int)(T:TypeId)(b:Nat)(hb:W.heap.size=b):∀j u,(flat eI [x0,x1,x2,x3])[j]?=some u→(W.alloc (.cells #[.int .i64 x0,.int .i64 x1,.int .i64 x2,.int .i64 x3] T)).cell? ((⟨b,0,none⟩:Addr).add j)=some u:=by
 subst hb;intro j u a;rw [Aj,Av,(Blk.new W T _).c j];simpa [flat,eI] using a
structure TickRel (l:List Cy)(w wr:World)(k:Nat)(v:Value):Prop where
 own:wr.ownsRow w.heap.size 3 1 v (tkM (l.take k)).length (flat eI (tkM (l.take k)))
 low:Bw w wr
def IntsPost (l:List Int)(w:World)(e:Ending)(w':World):Prop:=∃v,e=.returned v∧w'.ownsRow w.heap.size 3 1 v l.length (flat eI l)∧Bw w w'
theorem ip (vm vs vc:Value)(C:Cfg)(w:World)(hc:CSl w vm vs vc C)(h4:C.cyc.length≤4):Calls Tryz.prog 34 #[cfgV vm vs vc C] w (IntsPost (tkM C.cyc) w):=by
 obtain ⟨a,q,rfl,_,B,v,h⟩:=hc.c;unfold maxLen at v;have n:=aa h;clear h hc;obtain ⟨i0,hi,hz0,hz1,hz2⟩:=info_parts im;have y:TickRel C.cyc w (w.alloc (.cells (cfgC vm vs (.slice a C.cyc.length q) C) 26)) 0 (.slice none 0 0):=⟨⟨rfl,Or.inl ⟨rfl,rfl⟩⟩,Bn⟩;go_enter Tryz.func34,Tryz.ntmps34;go_wp2_with fail;generalize (w.alloc (.cells (cfgC vm vs (.slice a C.cyc.length q) C) 26))=W0 at *;go_loopw [3,9] (fun va i wr=>∃k:Nat,k≤C.cyc.length∧i=.int .i64 k∧TickRel C.cyc w wr k va) (fun _ i _=>C.cyc.length - (intOf i).toNat)
 case atStart=>exact ⟨0,Af _,rfl,y⟩
 case round=>
  obtain ⟨k,K,rfl,f,d⟩:=hrel;by_cases hlt:k<C.cyc.length
  ·obtain ⟨b,l,rfl,m,r⟩:=n.o (by omega);obtain ⟨q0,q1,q2,q3⟩:=wi (r k hlt);have I:=(d.c (p:=⟨b,l+k * 4,none⟩) m).trans q0;have J:=(d.c (p:=⟨b,l+k * 4+1,none⟩) m).trans q1;have L:=(d.c (p:=⟨b,l+k * 4+2,none⟩) m).trans q2;have M:=(d.c (p:=⟨b,l+k * 4+3,none⟩) m).trans q3;have z:=aa (l9 C.cyc k hlt);have u:=aa (eF (C.cyc.take k));have D:(tkM (C.cyc.take k)).length≤16:=by rw [u.o,Aa];omega
   have G:(0:Int)≤(k:Int):=by omega
   have F:(k:Int)<(C.cyc.length:Int):=by omega
   clear r q0 q1 q2 q3;generalize C.cyc[k]=x at *;have s:=d.alloc d.size (.cells (cCy x) 63);have t:=aa (f.alloc (.cells (cCy x) 63));clear f;go_wp2_with (at_builtin;refine wpList_append_own _ rfl _ _ 74 rfl w.heap.size 3 i0 (.int .i64 0) 1 8 Tryz.underlying74 hi hz0 hz1 hz2 rfl (by decide) _ _ _ rfl (t.o.alloc _) ⟨wr.heap.size+1,0,none⟩ 4 4 (flat eI [x.cut,x.fund,x.buyin,x.close]) rfl rfl ?c1 ?c2 ?c3 ?c4 ?c5 ?_)
   case c1=>exact new4 _ _ _ _ _ 3 _ (by simp)
   case c2=>exact aH dL _
   case c3=>unfold maxLen;omega
   case c4=>omega
   case c5=>have:=d.size;simp;omega
   intro E H g j _;have R:TickRel C.cyc w H (k+1) E:=⟨by rw [z.o,jr,z8];exact g,(s.alloc s.size _).grown j (by have:=d.size;simp;omega) (cR t.o)⟩;clear g j t s;go_wp2;go_roundw
   case rel=>exact ⟨k+1,by omega,by go_num,R⟩
   case measure=>simp [intOf];omega
  ·rw [Ae (by omega)] at f;have A:=aa f;clear f;go_wp2;go_ret;exact ⟨_,rfl,A.o,d⟩
theorem oR (vm vs vc:Value)(C:Cfg)(w:World)(hc:CSl w vm vs vc C)(hv:Valid C):Calls Tryz.prog 128 #[cfgV vm vs vc C] w fun e w'=>e=.returned (.bool true)∧Bw w w':=by
 have t:=aa hc;have p:=aa (rF C.cyc 0 hv.cyc);have u:=aa (aX (n:=(C.cyc.length:Nat)) (a:=1) (b:=4) (by have:=hv.c1;have:=hv.c2;omega));have G:=hv.c2;have A:=eF C.cyc;have l:=aa (Blk.new w 26 (cfgC vm vs vc C));obtain ⟨K,q,rfl,_,_,j,_⟩:=hc.c;unfold maxLen at j;clear hc hv;go_enter Tryz.func128,Tryz.ntmps128;go_wp2_with fail;refine (ip vm vs _ C _ (t.o.alloc _) G).mono ?_;rintro e m ⟨v,rfl,hown,c1⟩;have s:Bw w m:=Bn.trans (c1.mono (by simp));have r:=aa (l.o.keep c1);have h:=(Sl.own kI hown).ints;clear c1 l hown;obtain ⟨a,cap,rfl,hc1,hc2,hcell⟩:=h;unfold maxLen at hc2;have d:=aa hcell;clear hcell;have J:=r.o.c 2;go_wp2_with fail;go_loop [3,9] (fun la i=>∃k:Nat,k≤(tkM C.cyc).length∧i=.int .i64 k∧la=.int .i64 (if k=0 then 0 else (tkM C.cyc).getD (k - 1) 0)) (fun _ i=>(tkM C.cyc).length - (intOf i).toNat)
 case atStart=>exact ⟨0,Af _,rfl,rfl⟩
 case round=>
  obtain ⟨k,I,rfl,rfl⟩:=hrel;by_cases hlt:k<(tkM C.cyc).length
  ·obtain ⟨b,z,rfl,D,f⟩:=d.o (by omega);have H:=f k hlt;obtain ⟨hx1,hx2⟩:=p.o k hlt;have E:Hid ((tkM C.cyc).getD k 0=(tkM C.cyc)[k]):=aa (by rw [Ah,Ab hlt];rfl);clear f;generalize (tkM C.cyc)[k]=x at *;generalize (if k=0 then 0 else (tkM C.cyc).getD (k - 1) 0)=y at *;have B:decide (x≤y)=false:=dF (by omega);go_wp2_with fail;go_round
   case rel=>exact ⟨k+1,by omega,by go_num,by rw [if_neg (by omega),Nat.add_sub_cancel,E.o]⟩
   case measure=>simp [intOf];omega
  ·have F:k=(tkM C.cyc).length:=by omega
   have g:(if k=0 then (0:Int) else (tkM C.cyc).getD (k - 1) 0)≤1000:=by
    by_cases h0:k=0
    ·rw [if_pos h0];omega
    ·rw [if_neg h0];have:=(p.o (k - 1) (by omega)).2
     rw [Ah,Ab (by omega)];exact this
   generalize (if k=0 then (0:Int) else (tkM C.cyc).getD (k - 1) 0)=y at *;have B:decide (y≤1000)=true:=dT g;go_wp2_with (go_at_call 133;refine (ci _ _ _ _).mono ?_;rintro e m ⟨rfl,rfl⟩;rw [u.o])
   go_ret;exact ⟨rfl,s⟩
theorem yT (vm vs vc:Value)(C:Cfg)(g:Nat)(w:World)(hb:Blk w g 26 (cfgC vm vs vc C))(hc:CSl w vm vs vc C)(hv:Valid C):Calls Tryz.prog 123 #[.pointer (some ⟨g,0,none⟩)] w fun e w'=>e=.returned (.bool false)∧Bw w w':=by
 have d:=aa hc;have a:=aa hv;have f:=hb.c 0;have k:=hb.c 1;have i:=hb.c 2;have j:=hb.c 3;have q:=hb.c 4;have h:=hb.c 5;have p:=hb.c 6;have n:=hb.c 7;clear hc hv hb;go_enter Tryz.func123,Tryz.ntmps123;go_wp2_with fail;refine (l8 _ _ _ d.o.m a.o.mem a.o.m1 a.o.m2).mono ?_;rintro e l ⟨rfl,b⟩;go_wp2_with fail;go_ret;exact ⟨rfl,b⟩
theorem yU (vm vs vc:Value)(C:Cfg)(g:Nat)(w:World)(hb:Blk w g 26 (cfgC vm vs vc C))(hc:CSl w vm vs vc C)(hv:Valid C):Calls Tryz.prog 125 #[.pointer (some ⟨g,0,none⟩)] w fun e w'=>e=.returned (.bool false)∧Bw w w':=by
 have d:=aa hc;have a:=aa hv;have f:=hb.c 0;have k:=hb.c 1;have i:=hb.c 2;have j:=hb.c 3;have p:=hb.c 4;have h:=hb.c 5;have n:=hb.c 6;have m:=hb.c 7;clear hc hv hb;go_enter Tryz.func125,Tryz.ntmps125;go_wp2_with fail;refine (wu _ _ _ d.o.s a.o.secs a.o.s1 a.o.s2).mono ?_;rintro e l ⟨rfl,b⟩;go_wp2_with fail;go_ret;exact ⟨rfl,b⟩
theorem yV (vm vs vc:Value)(C:Cfg)(g:Nat)(w:World)(hb:Blk w g 26 (cfgC vm vs vc C))(hc:CSl w vm vs vc C)(hv:Valid C):Calls Tryz.prog 127 #[.pointer (some ⟨g,0,none⟩)] w fun e w'=>e=.returned (.bool false)∧Bw w w':=by
 have d:=aa hc;have b:=aa hv;have f:=hb.c 0;have k:=hb.c 1;have i:=hb.c 2;have j:=hb.c 3;have p:=hb.c 4;have h:=hb.c 5;have n:=hb.c 6;have m:=hb.c 7;clear hc hv hb;go_enter Tryz.func127,Tryz.ntmps127;go_wp2_with fail;refine (oR _ _ _ C _ d.o b.o).mono ?_;rintro e l ⟨rfl,a⟩;go_wp2_with fail;go_ret;exact ⟨rfl,a⟩
theorem yW (vm vs vc:Value)(C:Cfg)(g:Nat)(w:World)(hb:Blk w g 26 (cfgC vm vs vc C))(hc:CSl w vm vs vc C)(hv:Valid C):Calls Tryz.prog 129 #[.pointer (some ⟨g,0,none⟩)] w fun e w'=>e=.returned (.bool false)∧Bw w w':=by
 have i:=aa hc;have a:=aa hv;have b:=hb.c 0;have j:=hb.c 1;have f:=hb.c 2;have h:=hb.c 3;have n:=hb.c 4;have d:=hb.c 5;have m:=hb.c 6;have l:=hb.c 7;clear hc hv hb;go_enter Tryz.func129,Tryz.ntmps129;go_wp2_with fail;refine (cI _ _ _ _).mono ?_;rintro e k ⟨rfl,rfl⟩;rw [aX a.o.line];go_wp2_with fail;go_ret;exact ⟨rfl,zZ _ _⟩
theorem yX (vm vs vc:Value)(C:Cfg)(g:Nat)(w:World)(hb:Blk w g 26 (cfgC vm vs vc C))(hc:CSl w vm vs vc C)(hv:Valid C):Calls Tryz.prog 131 #[.pointer (some ⟨g,0,none⟩)] w fun e w'=>e=.returned (.bool false)∧Bw w w':=by
 have i:=aa hc;have a:=aa hv;have b:=hb.c 0;have j:=hb.c 1;have f:=hb.c 2;have h:=hb.c 3;have n:=hb.c 4;have d:=hb.c 5;have m:=hb.c 6;have l:=hb.c 7;clear hc hv hb;go_enter Tryz.func131,Tryz.ntmps131;go_wp2_with fail;refine (cI _ _ _ _).mono ?_;rintro e k ⟨rfl,rfl⟩;rw [aX a.o.capital];go_wp2_with fail;go_ret;exact ⟨rfl,zZ _ _⟩
theorem yY (vm vs vc:Value)(C:Cfg)(g:Nat)(w:World)(hb:Blk w g 26 (cfgC vm vs vc C))(hc:CSl w vm vs vc C)(hv:Valid C):Calls Tryz.prog 132 #[.pointer (some ⟨g,0,none⟩)] w fun e w'=>e=.returned (.bool false)∧Bw w w':=by
 have i:=aa hc;have a:=aa hv;have b:=hb.c 0;have j:=hb.c 1;have f:=hb.c 2;have h:=hb.c 3;have n:=hb.c 4;have d:=hb.c 5;have m:=hb.c 6;have l:=hb.c 7;clear hc hv hb;go_enter Tryz.func132,Tryz.ntmps132;go_wp2_with fail;refine (ci _ _ _ _).mono ?_;rintro e k ⟨rfl,rfl⟩;rw [aX a.o.lead];go_wp2_with fail;go_ret;exact ⟨rfl,zZ _ _⟩
theorem yZ (vm vs vc:Value)(C:Cfg)(g:Nat)(w:World)(hb:Blk w g 26 (cfgC vm vs vc C))(hc:CSl w vm vs vc C)(hv:Valid C):Calls Tryz.prog 134 #[.pointer (some ⟨g,0,none⟩)] w fun e w'=>e=.returned (.bool false)∧Bw w w':=by
 have i:=aa hc;have a:=aa hv;have b:=hb.c 0;have j:=hb.c 1;have f:=hb.c 2;have h:=hb.c 3;have n:=hb.c 4;have d:=hb.c 5;have m:=hb.c 6;have l:=hb.c 7;clear hc hv hb;go_enter Tryz.func134,Tryz.ntmps134;go_wp2_with fail;refine (ci _ _ _ _).mono ?_;rintro e k ⟨rfl,rfl⟩;rw [aX a.o.trades];go_wp2_with fail;go_ret;exact ⟨rfl,zZ _ _⟩
theorem y8 (vm vs vc:Value)(C:Cfg)(g:Nat)(w:World)(hb:Blk w g 26 (cfgC vm vs vc C))(hc:CSl w vm vs vc C)(hv:Valid C):Calls Tryz.prog 135 #[.pointer (some ⟨g,0,none⟩)] w fun e w'=>e=.returned (.bool false)∧Bw w w':=by
 have i:=aa hc;have a:=aa hv;have b:=hb.c 0;have j:=hb.c 1;have f:=hb.c 2;have h:=hb.c 3;have n:=hb.c 4;have d:=hb.c 5;have m:=hb.c 6;have l:=hb.c 7;clear hc hv hb;go_enter Tryz.func135,Tryz.ntmps135;go_wp2_with fail;refine (ci _ _ _ _).mono ?_;rintro e k ⟨rfl,rfl⟩;rw [aX a.o.bids];go_wp2_with fail;go_ret;exact ⟨rfl,zZ _ _⟩
abbrev chkCells (g:Nat):Array Value:=#[.string ⟨#[109,101,109,98,101,114,115]⟩,.func (.func 123) #[] #[.pointer (some ⟨g,0,none⟩)],.string ⟨#[115,101,99,115]⟩,.func (.func 125) #[] #[.pointer (some ⟨g,0,none⟩)],.string ⟨#[99,121,99,108,101,115]⟩,.func (.func 127) #[] #[.pointer (some ⟨g,0,none⟩)],.string ⟨#[108,105,110,101]⟩,.func (.func 129) #[] #[.pointer (some ⟨g,0,none⟩)],.string ⟨#[99,97,112,105,116,97,108]⟩,.func (.func 131) #[] #[.pointer (some ⟨g,0,none⟩)],.string ⟨#[108,101,97,100]⟩,.func (.func 132) #[] #[.pointer (some ⟨g,0,none⟩)],.string ⟨#[116,114,97,100,101,115]⟩,.func (.func 134) #[] #[.pointer (some ⟨g,0,none⟩)],.string ⟨#[98,105,100,115]⟩,.func (.func 135) #[] #[.pointer (some ⟨g,0,none⟩)]]
def ChecksPost (vm vs vc:Value)(C:Cfg)(w:World)(e:Ending)(w':World):Prop:=
 ∃g h,e=.returned (.slice (some ⟨h,0,none⟩) 8 8)∧Blk w' g 26 (cfgC vm vs vc C)∧Blk w' h 172 (chkCells g)∧Bw w w'
theorem ma (vm vs vc:Value)(C:Cfg)(w:World):Calls Tryz.prog 90 #[cfgV vm vs vc C] w (ChecksPost vm vs vc C w):=by
 go_enter Tryz.func90,Tryz.ntmps90;go_wp2;go_ret;refine ⟨w.heap.size,w.heap.size+1,rfl,?_,?_,Bn.alloc (by simp) _⟩
 ·exact (Blk.new _ _ _).alloc _
 ·have:=Blk.new (w.alloc (.cells (cfgC vm vs vc C) 26)) 172 (chkCells w.heap.size)
  simpa using this
theorem rG (vm vs vc:Value)(C:Cfg)(w:World)(hc:CSl w vm vs vc C)(hv:Valid C):Calls Tryz.prog 60 #[cfgV vm vs vc C] w fun e w'=>e=.returned (.string ⟨#[]⟩)∧Bw w w':=by
 have f:=aa hv;have A:=aa hc;clear hc hv;go_enter Tryz.func60,Tryz.ntmps60;go_wp2_with fail;refine (ma vm vs vc C _).mono ?_;rintro e u ⟨g,h,rfl,v,t,b⟩;have s:Bw w u:=Bn.trans (b.mono (by simp));have r:=aa v;have n:=aa t;have q:=aa (A.o.keep s);clear v t b;go_wp2_with fail;go_loopw [8] (fun i wr=>∃k:Nat,k≤8∧i=.int .i64 k∧Bw u wr) (fun i _=>8 - (intOf i).toNat)
 case atStart=>exact ⟨0,by omega,rfl,zZ _ _⟩
 case round=>
  obtain ⟨k,I,rfl,a⟩:=hrel;have l:=aa (r.o.keep a);have j:=aa (q.o.keep a);have d:=n.o.keep a;have F:=d.c 0;have O:=d.c 1;have J:=d.c 2;have K:=d.c 3;have N:=d.c 4;have M:=d.c 5;have L:=d.c 6;have P:=d.c 7;have H:=d.c 8;have G:=d.c 9;have D:=d.c 10;have E:=d.c 11;have y:=d.c 12;have x:=d.c 13;have B:=d.c 14;have z:=d.c 15;clear d;have p:k=0∨k=1∨k=2∨k=3∨k=4∨k=5∨k=6∨k=7∨k=8:=by omega
  rcases p with rfl | rfl | rfl | rfl | rfl | rfl | rfl | rfl | rfl
  case' inr.inr.inr.inr.inr.inr.inr.inr=>
   go_wp2;go_ret;exact ⟨rfl,s.trans (a.mono s.size)⟩
  all_goals
   go_wp2_with (first | (go_at_call 123;refine (yT vm vs vc C g _ (l.o.alloc _) (j.o.alloc _) f.o).mono ?_;rintro e m ⟨rfl,b⟩;have R:=aa ((a.alloc a.size _).trans (b.mono (by have:=a.size;simp;omega)));clear b) | (go_at_call 125;refine (yU vm vs vc C g _ (l.o.alloc _) (j.o.alloc _) f.o).mono ?_;rintro e m ⟨rfl,b⟩;have R:=aa ((a.alloc a.size _).trans (b.mono (by have:=a.size;simp;omega)));clear b) | (go_at_call 127;refine (yV vm vs vc C g _ (l.o.alloc _) (j.o.alloc _) f.o).mono ?_;rintro e m ⟨rfl,b⟩;have R:=aa ((a.alloc a.size _).trans (b.mono (by have:=a.size;simp;omega)));clear b) | (go_at_call 129;refine (yW vm vs vc C g _ (l.o.alloc _) (j.o.alloc _) f.o).mono ?_;rintro e m ⟨rfl,b⟩;have R:=aa ((a.alloc a.size _).trans (b.mono (by have:=a.size;simp;omega)));clear b) | (go_at_call 131;refine (yX vm vs vc C g _ (l.o.alloc _) (j.o.alloc _) f.o).mono ?_;rintro e m ⟨rfl,b⟩;have R:=aa ((a.alloc a.size _).trans (b.mono (by have:=a.size;simp;omega)));clear b) | (go_at_call 132;refine (yY vm vs vc C g _ (l.o.alloc _) (j.o.alloc _) f.o).mono ?_;rintro e m ⟨rfl,b⟩;have R:=aa ((a.alloc a.size _).trans (b.mono (by have:=a.size;simp;omega)));clear b) | (go_at_call 134;refine (yZ vm vs vc C g _ (l.o.alloc _) (j.o.alloc _) f.o).mono ?_;rintro e m ⟨rfl,b⟩;have R:=aa ((a.alloc a.size _).trans (b.mono (by have:=a.size;simp;omega)));clear b) | (go_at_call 135;refine (y8 vm vs vc C g _ (l.o.alloc _) (j.o.alloc _) f.o).mono ?_;rintro e m ⟨rfl,b⟩;have R:=aa ((a.alloc a.size _).trans (b.mono (by have:=a.size;simp;omega)));clear b))
   go_roundw
   case rel=>first | exact ⟨1,by decide,by rfl,R.o⟩ | exact ⟨2,by decide,by rfl,R.o⟩ | exact ⟨3,by decide,by rfl,R.o⟩ | exact ⟨4,by decide,by rfl,R.o⟩ | exact ⟨5,by decide,by rfl,R.o⟩ | exact ⟨6,by decide,by rfl,R.o⟩ | exact ⟨7,by decide,by rfl,R.o⟩ | exact ⟨8,by decide,by rfl,R.o⟩
   case measure=>simp [intOf]
theorem bM (vm vs vc:Value)(C:Cfg)(w:World)(hc:CSl w vm vs vc C)(hv:Valid C):Calls Tryz.prog 29 #[cfgV vm vs vc C] w fun e w'=>e=.returned (.int .i64 0)∧Bw w w':=by
 have d:=aa hc;have c:=aa hv;clear hc hv;go_enter Tryz.func29,Tryz.ntmps29;go_wp2_with fail;refine (rG vm vs vc C _ (d.o.alloc _) c.o).mono ?_;rintro e f ⟨rfl,a⟩;have b:Bw w f:=Bn.trans (a.mono (by simp));clear a;go_wp2_with fail;go_ret;exact ⟨rfl,b⟩
section
attribute [local go_sem ↓] Go.wp_at_zero Go.wp_at_succ
structure COw (w:World)(B:Nat)(vm vs vc:Value)(C:Cfg):Prop where
 m:w.ownsRow B 125 2 vm C.mem.length (flat eMb C.mem)
 s:w.ownsRow B 127 2 vs C.secs.length (flat eSc C.secs)
 c:w.ownsRow B 63 4 vc C.cyc.length (flat eCy C.cyc)
theorem COw.sl {w:World}{B:Nat}{vm vs vc:Value}{C:Cfg}(h:COw w B vm vs vc C):CSl w vm vs vc C:=⟨Sl.own kMb h.m,Sl.own kSc h.s,Sl.own kCy h.c⟩
theorem COw.keep {w w':World}{B:Nat}{vm vs vc:Value}{C:Cfg}(h:COw w B vm vs vc C)(hb:Bw w w'):COw w' B vm vs vc C:=⟨ah h.m hb,ah h.s hb,ah h.c hb⟩
theorem COw.mono {w:World}{B B':Nat}{vm vs vc:Value}{C:Cfg}(h:COw w B vm vs vc C)(hb:B'≤B):COw w B' vm vs vc C:=⟨aw h.m hb,aw h.s hb,aw h.c hb⟩
theorem cJ {w wd w':World}(c:Bw wd w')(e:wd.heap=w.heap):∀k,k<w.heap.size→w'.heap[k]?=w.heap[k]?:=fun k hk=>by rw [c.block k (by rw [e];exact hk),e]
theorem Blk.keepD {w wd w':World}{g:Nat}{T:TypeId}{cs:Array Value}(h:Blk w g T cs)(c:Bw wd w')(e:wd.heap=w.heap:=by rfl):Blk w' g T cs:=(cJ c e g h.lt).trans h
theorem Sl.keepD {α:Type}{enc:α→List Value}{k:Nat}{W wd W':World}{v:Value}{l:List α}(h:Sl enc k W v l)(hb:Bw wd W')(e:wd.heap=W.heap:=by rfl):Sl enc k W' v l:=by
 obtain ⟨a,c,d,f,m,n,g⟩:=h;refine ⟨a,c,d,f,m,n,fun h0=>?_⟩;obtain ⟨b,off,ha,hlt,hcl⟩:=g h0;exact ⟨b,off,ha,AR hlt (by rw [←e];exact hb.size),fun i hi j x hx=>(AZ (w:=W) (cJ hb e b hlt)).trans (hcl i hi j x hx)⟩
theorem CSl.keepD {w wd w':World}{vm vs vc:Value}{C:Cfg}(h:CSl w vm vs vc C)(hb:Bw wd w')(e:wd.heap=w.heap:=by rfl):CSl w' vm vs vc C:=⟨h.m.keepD hb e,h.s.keepD hb e,h.c.keepD hb e⟩
theorem bD {w wd w':World}{base:Nat}{e:TypeId}{size:Nat}{v:Value}{n:Nat}{xs:List Value}(h:w.ownsRow base e size v n xs)(hb:Bw wd w')(eh:wd.heap=w.heap:=by rfl):w'.ownsRow base e size v n xs:=
 au h fun g hg=>cJ hb eh g (h.lt g hg).2
theorem aB {n:Nat}{w0 w wd w':World}(h:Below n w0 w)(hb:Bw wd w')(hn:n≤w.heap.size)(e1:wd.heap=w.heap:=by rfl)(e2:wd.os=w.os:=by rfl)(e3:wd.tape=w.tape:=by rfl)(e4:wd.output=w.output:=by rfl):Below n w0 w':=
 ⟨hb.os.trans (e2.trans h.os),hb.tape.trans (e3.trans h.tape),hb.output.trans (e4.trans h.output),z5 h.size (by rw [←e1];exact hb.size),fun k hk=>(cJ hb e1 k (by omega)).trans (h.block k hk)⟩
theorem ag {w:World}{base:Nat}{e:TypeId}{size:Nat}{v:Value}{n:Nat}{xs:List Value}(h:w.ownsRow base e size v n xs):∃a cap,v=.slice a n cap:=by
 obtain ⟨_,b⟩:=h;rcases b with ⟨rfl,rfl⟩ | ⟨g,cap,cur,rfl,_⟩
 ·exact ⟨_,_,rfl⟩
 ·exact ⟨_,_,rfl⟩
structure PutB (w:World)(g:Nat)(T:TypeId)(cs:Array Value)(W:World):Prop where
 row:Blk W g T cs
 mod:Mod [g] w W
 size:W.heap.size=w.heap.size
 far:∀i,i≠g→W.heap[i]?=w.heap[i]?
theorem aF {ops:Array Oper}{rest:List Oper}{o:Oper}{a:Act}{w:World}{Q:Exit→Act→World→Prop}(hgd:o.guard=none)(T:TypeId)(x y:Operand)(ho:o.op=.store T x y)
  (hd:o.dst=none) (g:Nat) (cs:Array Value) (hx:a.eval x=.pointer (some ⟨g,0,none⟩)) (hy:a.eval y=.agg cs) (hi:(Tryz.prog.info? T).map (·.size)=some cs.size) (h1:cs.all (·.oneCell')=true) (old:Array Value) (hg:Blk w g T old) (hold:old.size=cs.size)
  (h:∀W,PutB w g T cs W→wpList Tryz.prog ops Q rest a W):wpList Tryz.prog ops Q (o :: rest) a w:=
 wpList_store_rowTo hgd T x y ho hd g cs hx hy T old hg hi hold h1 (h _ ⟨setRow_heap _ _ _ _ _ _ hg,⟨rfl,rfl,rfl,by simp,fun k _ hk=>setRow_other _ _ _ _ (by simpa using hk)⟩,by simp,fun i hi=>setRow_other _ _ _ _ hi⟩)
theorem PutB.low {w0 w W:World}{g:Nat}{T:TypeId}{cs:Array Value}(h:PutB w g T cs W)(hb:Bw w0 w)(hg:w0.heap.size≤g):Bw w0 W:=h.mod.low hb (by simpa using hg)
structure FinC (w X:World)(v1 v2 v3:Value)(C:Cfg):Prop where
 blk:Blk X w.heap.size 26 (cfgC v1 v2 v3 C)
 res:Blk X (w.heap.size+1) 26 (cfgC (.slice none 0 0) (.slice none 0 0) (.slice none 0 0) ⟨[],[],[],0,0,0,0,0⟩)
 own:COw X (w.heap.size+2) v1 v2 v3 C
 low:Bw w X
theorem fin_c {w X:World}{vm vs vc v1 v2 v3:Value}{C:Cfg}(hb:Blk X w.heap.size 26 (cfgC vm vs vc C))(hr:Blk X (w.heap.size+1) 26 (cfgC (.slice none 0 0) (.slice none 0 0) (.slice none 0 0) ⟨[],[],[],0,0,0,0,0⟩))
  (ho:COw X (w.heap.size+2) v1 v2 v3 C) (hl:Bw w X):FinC w (((X.setCell ⟨w.heap.size,0,none⟩ v1).setCell ⟨w.heap.size,1,none⟩ v2).setCell ⟨w.heap.size,2,none⟩ v3) v1 v2 v3 C:=by
 have a:∀k,k≠w.heap.size→(((X.setCell ⟨w.heap.size,0,none⟩ v1).setCell ⟨w.heap.size,1,none⟩ v2).setCell ⟨w.heap.size,2,none⟩ v3).heap[k]?=X.heap[k]?:=fun k hk=>by
  rw [An _ _ _ _ hk,An _ _ _ _ hk,An _ _ _ _ hk]
 refine ⟨?_,(a _ (by omega)).trans hr,⟨au ho.m fun g hg=>a g ?_,au ho.s fun g hg=>a g ?_,au ho.c fun g hg=>a g ?_⟩,?_⟩
 ·exact ((hb.set 0 v1).set 1 v2).set 2 v3
 ·have:=(ho.m.lt g hg).1;omega
 ·have:=(ho.s.lt g hg).1;omega
 ·have:=(ho.c.lt g hg).1;omega
 ·exact ((hl.setCell (p:=⟨w.heap.size,0,none⟩) (by simp) _).setCell (p:=⟨w.heap.size,1,none⟩) (by simp) _).setCell (p:=⟨w.heap.size,2,none⟩) (by simp) _
def CopyPost (C:Cfg)(w:World)(e:Ending)(w':World):Prop:=∃vm vs vc,e=.returned (cfgV vm vs vc C)∧COw w' w.heap.size vm vs vc C∧Bw w w'
theorem ef (vm vs vc:Value)(C:Cfg)(w:World)(hc:CSl w vm vs vc C)(hv:Valid C):Calls Tryz.prog 32 #[cfgV vm vs vc C] w (CopyPost C w):=by
 have p:Bw w ((w.alloc (.cells (cfgC vm vs vc C) 26)).alloc (.cells (cfgC (.slice none 0 0) (.slice none 0 0) (.slice none 0 0) ⟨[],[],[],0,0,0,0,0⟩) 26)):=Bn.alloc (by simp) _;have y:=aa (hc.keep p);have i:=aa ((Blk.new w 26 (cfgC vm vs vc C)).alloc (.cells (cfgC (.slice none 0 0) (.slice none 0 0) (.slice none 0 0) ⟨[],[],[],0,0,0,0,0⟩) 26));have G:=aa (show Blk ((w.alloc (.cells (cfgC vm vs vc C) 26)).alloc (.cells (cfgC (.slice none 0 0) (.slice none 0 0) (.slice none 0 0) ⟨[],[],[],0,0,0,0,0⟩) 26)) (w.heap.size+1) 26 (cfgC (.slice none 0 0) (.slice none 0 0) (.slice none 0 0) ⟨[],[],[],0,0,0,0,0⟩) from heap_alloc2_new _ _ _);have A:=aa (show ((w.alloc (.cells (cfgC vm vs vc C) 26)).alloc (.cells (cfgC (.slice none 0 0) (.slice none 0 0) (.slice none 0 0) ⟨[],[],[],0,0,0,0,0⟩) 26)).heap.size=w.heap.size+2 from by simp);have l1:=hv.m2;have l2:=hv.s2;have l3:=hv.c2;clear hc hv;dsimp only [cfgC] at p y i G A;go_enter Tryz.func32,Tryz.ntmps32;go_wp2_with fail;generalize ((w.alloc (.cells #[vm,vs,vc,.int .i64 C.line,.int .i64 C.capital,.int .i64 C.lead,.int .i64 C.trades,.int .i64 C.bids] 26)).alloc (.cells #[.slice none 0 0,.slice none 0 0,.slice none 0 0,.int .i64 0,.int .i64 0,.int .i64 0,.int .i64 0,.int .i64 0] 26))=W0 at *;have B:=i.o.c 0;have H:=i.o.c 1;have I:=i.o.c 2;have Q:=i.o.free 0;have K:=i.o.free 1;have N:=i.o.free 2;go_region_with ((first
  | (go_at_call 66;refine (wg vm C.mem _ (by exact y.o.m) (by omega)).mono ?_;rintro e l ⟨v1,rfl,d,h⟩;obtain ⟨n1,k1,rfl⟩:=ag d;have t:=aa (i.o.keepD h);have P:=t.o.c 0;have a1:=t.o.c 1;have a2:=t.o.c 2;have u:=aa (y.o.keepD h))
  | (go_at_call 67;refine (wh vs C.secs _ (by exact u.o.s) (by omega)).mono ?_;rintro e x ⟨v2,rfl,b,j⟩;obtain ⟨n2,k2,rfl⟩:=ag b;have r:=aa (t.o.keepD j);have Z:=r.o.c 0;have R:=r.o.c 1;have M:=r.o.c 2;have E:=aa (u.o.keepD j))
  | (go_at_call 68;refine (wj vc C.cyc _ (by exact E.o.c) (by omega)).mono ?_;rintro e O ⟨v3,rfl,f,n⟩;obtain ⟨n3,k3,rfl⟩:=ag f;have k:=aa (r.o.keepD n);have a6:=k.o.c 0;have a7:=k.o.c 1;have L:=k.o.c 2;have g0:=k.o.free 0;have Y:=k.o.free 1;have S:=k.o.free 2)))
 all_goals
  have q:W0.heap.size=w.heap.size+2:=A.o;have F:=aa (fin_c (w:=w) k.o ((G.o.keepD h).keepD j |>.keepD n) ⟨aw (bD (bD d j) n) (by first | exact Nat.le_of_eq q.symm | (show _≤W0.heap.size;omega)),aw (bD b n) (by have:=h.size;first | (show _≤l.heap.size;have z:W0.heap.size≤l.heap.size:=this;omega)),aw f (by have D:W0.heap.size≤l.heap.size:=h.size;have z:l.heap.size≤x.heap.size:=j.size;show _≤x.heap.size;omega)⟩ (aB (aB (aB p h p.size) j (by have:=p.size;have D:W0.heap.size≤l.heap.size:=h.size;omega)) n (by have:=p.size;have D:W0.heap.size≤l.heap.size:=h.size;have z:l.heap.size≤x.heap.size:=j.size;omega)));clear d b f h j n P a1 a2 Z R M a6 a7 L g0 Y S B H I Q K N t r k u E q;generalize (((O.setCell ⟨w.heap.size,0,none⟩ (.slice n1 C.mem.length k1)).setCell ⟨w.heap.size,1,none⟩ (.slice n2 C.secs.length k2)).setCell ⟨w.heap.size,2,none⟩ (.slice n3 C.cyc.length k3))=X at *;have B:=F.o.blk.c 0;have H:=F.o.blk.c 1;have I:=F.o.blk.c 2;have p3:=F.o.blk.c 3;have p4:=F.o.blk.c 4;have p5:=F.o.blk.c 5;have p6:=F.o.blk.c 6;have p7:=F.o.blk.c 7
  go_wp2_with (refine aF rfl 26 _ _ rfl rfl (w.heap.size+1) (cfgC (.slice n1 C.mem.length k1) (.slice n2 C.secs.length k2) (.slice n3 C.cyc.length k3) C) rfl rfl (by kernel_rfl) (by simp [Value.oneCell']) _ F.o.res rfl ?_;intro W5 a;have J:=a.row.c 0;have q1:=a.row.c 1;have T:=a.row.c 2;have U:=a.row.c 3;have q4:=a.row.c 4;have V:=a.row.c 5;have W:=a.row.c 6;have q7:=a.row.c 7)
  refine bodyPost_ret (v:=cfgV (.slice n1 C.mem.length k1) (.slice n2 C.secs.length k2) (.slice n3 C.cyc.length k3) C) (by simp [results,Tryz.results32,go_sem,J,q1,T,U,q4,V,W,q7]) rfl ⟨_,_,_,rfl,?_,a.low F.o.low (by omega)⟩;exact (COw.mono ⟨au F.o.own.m fun g hg=>a.far g (by have:=(F.o.own.m.lt g hg).1;omega),au F.o.own.s fun g hg=>a.far g (by have:=(F.o.own.s.lt g hg).1;omega),au F.o.own.c fun g hg=>a.far g (by have:=(F.o.own.c.lt g hg).1;omega)⟩ (by omega))
theorem mc (vm vs vc:Value)(C:Cfg)(w:World)(hc:CSl w vm vs vc C)(k:Nat)(hk:k<C.mem.length) :
  Calls Tryz.prog 112 #[cfgV vm vs vc C,.int .i64 ((k:Int)+1)] w fun e w'=>e=.returned (.tuple #[vMb C.mem[k],.int .i64 0])∧Bw w w':=by
 obtain ⟨a,d,rfl,_,i,f,c⟩:=hc.m;unfold maxLen at f;obtain ⟨b,off,rfl,hbl,hcl⟩:=c (by omega);obtain ⟨q0,q1⟩:=rz (hcl k hk);have h:decide ((k:Int)+1<1)=false:=dF (by omega);have g:decide ((C.mem.length:Int)<(k:Int)+1)=false:=dF (by omega);have n:Bw w ((w.alloc (.cells (cfgC (.slice (some ⟨b,off,none⟩) C.mem.length d) vs vc C) 26)).alloc (.cells (cMb C.mem[k]) 125)):=Bn.alloc (by simp) _;have l:(0:Int)≤(k:Int):=by omega
 have j:(k:Int)<(C.mem.length:Int):=by omega
 clear hcl c hc;generalize C.mem[k]=x at *;go_enter Tryz.func112,Tryz.ntmps112;go_wp2;exact bodyPost_ret (v:=.tuple #[vMb x,.int .i64 0]) (by simp [results,Tryz.results112,go_sem]) rfl ⟨rfl,n⟩
theorem oS (vm vs vc:Value)(C:Cfg)(w:World)(hc:CSl w vm vs vc C)(i:Int)(h:i<1∨(C.mem.length:Int)<i) :
  Calls Tryz.prog 112 #[cfgV vm vs vc C,.int .i64 i] w fun e w'=>e=.returned (.tuple #[vMb ⟨0,0⟩,.int .i64 9])∧Bw w w':=by
 obtain ⟨a,c,rfl,_,f,d,b⟩:=hc.m;unfold maxLen at d;clear b hc;have j:Bw w ((w.alloc (.cells (cfgC (.slice a C.mem.length c) vs vc C) 26)).alloc (.cells (cMb ⟨0,0⟩) 125)):=Bn.alloc (by simp) _;have g:i<1∨(1≤i∧(C.mem.length:Int)<i):=by omega
 clear h;rcases g with h | ⟨h0,h⟩
 all_goals
  go_enter Tryz.func112,Tryz.ntmps112;go_wp2;exact bodyPost_ret (v:=.tuple #[vMb ⟨0,0⟩,.int .i64 9]) (by simp [results,Tryz.results112,go_sem]) rfl ⟨rfl,j⟩
theorem oj (vm vs vc:Value)(C:Cfg)(w:World)(hc:CSl w vm vs vc C)(k:Nat)(hk:k<C.secs.length) :
  Calls Tryz.prog 144 #[cfgV vm vs vc C,.int .i64 ((k:Int)+1)] w fun e w'=>e=.returned (.tuple #[vSc C.secs[k],.int .i64 0])∧Bw w w':=by
 obtain ⟨a,d,rfl,_,i,f,c⟩:=hc.s;unfold maxLen at f;obtain ⟨b,off,rfl,hbl,hcl⟩:=c (by omega);obtain ⟨q0,q1⟩:=atSc (hcl k hk);have h:decide ((k:Int)+1<1)=false:=dF (by omega);have g:decide ((C.secs.length:Int)<(k:Int)+1)=false:=dF (by omega);have m:Bw w ((w.alloc (.cells (cfgC vm (.slice (some ⟨b,off,none⟩) C.secs.length d) vc C) 26)).alloc (.cells (cSc C.secs[k]) 127)):=Bn.alloc (by simp) _;have l:(0:Int)≤(k:Int):=by omega
 have j:(k:Int)<(C.secs.length:Int):=by omega
 clear hcl c hc;generalize C.secs[k]=x at *;go_enter Tryz.func144,Tryz.ntmps144;go_wp2;exact bodyPost_ret (v:=.tuple #[vSc x,.int .i64 0]) (by simp [results,Tryz.results144,go_sem]) rfl ⟨rfl,m⟩
theorem rH (vm vs vc:Value)(C:Cfg)(w:World)(hc:CSl w vm vs vc C)(i:Int)(h:i<1∨(C.secs.length:Int)<i) :
  Calls Tryz.prog 144 #[cfgV vm vs vc C,.int .i64 i] w fun e w'=>e=.returned (.tuple #[vSc ⟨0,0⟩,.int .i64 10])∧Bw w w':=by
 obtain ⟨a,c,rfl,_,f,d,b⟩:=hc.s;unfold maxLen at d;clear b hc;have j:Bw w ((w.alloc (.cells (cfgC vm (.slice a C.secs.length c) vc C) 26)).alloc (.cells (cSc ⟨0,0⟩) 127)):=Bn.alloc (by simp) _;have g:i<1∨(1≤i∧(C.secs.length:Int)<i):=by omega
 clear h;rcases g with h | ⟨h0,h⟩
 all_goals
  go_enter Tryz.func144,Tryz.ntmps144;go_wp2;exact bodyPost_ret (v:=.tuple #[vSc ⟨0,0⟩,.int .i64 10]) (by simp [results,Tryz.results144,go_sem]) rfl ⟨rfl,j⟩
theorem newT (n:Int)(hn:0≤n)(w:World):Calls Tryz.prog 64 #[.int .i64 n] w fun e w'=>e=.returned (.pointer (some ⟨w.heap.size,0,none⟩))∧w'=w.alloc (.cells #[.int .i64 n,.slice none 0 0] 188):=by
 go_enter Tryz.func64,Tryz.ntmps64;go_wp2;go_ret;exact ⟨rfl,rfl⟩
theorem newU (n:Int)(hn:0≤n)(w:World):Calls Tryz.prog 65 #[.int .i64 n] w fun e w'=>e=.returned (.pointer (some ⟨w.heap.size,0,none⟩))∧w'=w.alloc (.cells #[.int .i64 n,.slice none 0 0] 191):=by
 go_enter Tryz.func65,Tryz.ntmps65;go_wp2;go_ret;exact ⟨rfl,rfl⟩
theorem newH (n:Int)(hn:0≤n)(w:World):Calls Tryz.prog 92 #[.int .i64 n] w fun e w'=>e=.returned (.pointer (some ⟨w.heap.size,0,none⟩))∧w'=w.alloc (.cells #[.int .i64 n,.slice none 0 0] 227):=by
 go_enter Tryz.func92,Tryz.ntmps92;go_wp2;go_ret;exact ⟨rfl,rfl⟩
theorem newW (n:Int)(hn:0≤n)(w:World):Calls Tryz.prog 33 #[.int .i64 n] w fun e w'=>e=.returned (.pointer (some ⟨w.heap.size,0,none⟩))∧w'=w.alloc (.cells #[.int .i64 n,.slice none 0 0] 150):=by
 go_enter Tryz.func33,Tryz.ntmps33;go_wp2;go_ret;exact ⟨rfl,rfl⟩
theorem newO (w:World):Calls Tryz.prog 63 #[] w fun e w'=>e=.returned (.pointer (some ⟨w.heap.size,0,none⟩))∧w'=w.alloc (.cells #[.slice none 0 0] 186):=by
 go_enter Tryz.func63,Tryz.ntmps63;go_wp2;go_ret;exact ⟨rfl,rfl⟩
structure BookAt (w:World)(B g:Nat)(v:Value)(ms na:Int)(l:List Int)(pst:Int):Prop where
 blk:Blk w g 224 #[.int .i64 ms,.int .i64 na,v,.int .i64 pst]
 own:w.ownsRow B 2 1 v l.length (flat eI l)
theorem iq (n:Nat):(madeCells (Value.int .i64 0).cells (n * 1)).toList=flat eI (List.replicate n 0):=by
 rw [ee,List.map_replicate,A0];apply List.ext_getElem
 ·simp [madeCells]
 ·intro i a b;simp [madeCells,Value.cells,Nat.mod_one]
theorem newB (ms na:Nat)(h1:ms≤16)(h2:1≤na)(h3:na≤9)(w:World):Calls Tryz.prog 91 #[.int .i64 ms,.int .i64 na] w fun e w'=>∃v,e=.returned (.tuple #[.pointer (some ⟨w.heap.size+1,0,none⟩),.int .i64 0])∧BookAt w' w.heap.size (w.heap.size+1) v ms na (List.replicate (na * (6+3 * ms)) 0) 0∧Bw w w':=by
 obtain ⟨l,n,i,a,h⟩:=info_parts cT;have f:(na:Int) * (6+3 * (ms:Int))=((na * (6+3 * ms):Nat):Int):=by push_cast;rfl
 have d:na * (6+3 * ms)≤9 * 54:=Nat.mul_le_mul h3 (by omega);have m:=aa f;obtain ⟨N,c⟩:∃N,na * (6+3 * ms)=N:=⟨_,rfl⟩;rw [c] at d;have b:=fun W=>run_makeSlice (P:=Tryz.prog) W 45 2 l (.int .i64 0) Tryz.underlying45 n i .i64 .i64 (N:Int) (N:Int) (by omega) (by omega) (by rw [a];omega) (by rw [h];omega) (by omega)
 simp only [Int.toNat_natCast,a] at b;have g:wrap64 ((na:Int) * (6+3 * (ms:Int)))=(N:Int):=by rw [f,c];unfold wrap64;omega
 have j:=aa c;have p:=aa (show ((w.alloc (.cells (madeCells (Value.int .i64 0).cells (N * 1)) 2)).alloc (.cells #[.int .i64 ms,.int .i64 na,.slice (some ⟨w.heap.size,0,none⟩) N N,.int .i64 0] 224)).ownsRow w.heap.size 2 1 (.slice (some ⟨w.heap.size,0,none⟩) N N) (List.replicate N (0:Int)).length (flat eI (List.replicate N 0)) from by
  refine World.ownsRow.alloc ?_ _;refine ⟨by rw [aC eI 1 kI],Or.inr ⟨w.heap.size,N,_,by rw [Bc],zY _,heap_alloc_new _ _,by simp,by unfold maxLen;omega,size_madeCells _ _,?_⟩⟩;rw [Bc,iq,Ae];rw [aC eI 1 kI,Bc];exact zY _)
 have k:=aa (show Blk ((w.alloc (.cells (madeCells (Value.int .i64 0).cells (N * 1)) 2)).alloc (.cells #[.int .i64 ms,.int .i64 na,.slice (some ⟨w.heap.size,0,none⟩) N N,.int .i64 0] 224)) (w.heap.size+1) 224 #[.int .i64 ms,.int .i64 na,.slice (some ⟨w.heap.size,0,none⟩) N N,.int .i64 0] from heap_alloc2_new _ _ _);have q:Bw w ((w.alloc (.cells (madeCells (Value.int .i64 0).cells (N * 1)) 2)).alloc (.cells #[.int .i64 ms,.int .i64 na,.slice (some ⟨w.heap.size,0,none⟩) N N,.int .i64 0] 224)):=Bn.alloc (by simp) _;clear f c m;generalize madeCells (Value.int .i64 0).cells (N * 1)=MC at *;go_enter Tryz.func91,Tryz.ntmps91;go_wp2_with (go_at_call 136;refine (io _ (by omega) (by omega) _).mono ?_;rintro e r ⟨rfl,rfl⟩)
 clear b g;go_wp2;go_ret2;exact ⟨_,rfl,by rw [j.o];exact ⟨k.o,p.o⟩,q⟩
abbrev ptr (g:Nat):Value:=.pointer (some ⟨g,0,none⟩)
theorem BookAt.keep {w w':World}{B g:Nat}{v:Value}{ms na:Int}{l:List Int}{p:Int}(h:BookAt w B g v ms na l p)(hb:Bw w w'):BookAt w' B g v ms na l p:=⟨h.blk.keep hb,ah h.own hb⟩
theorem BookAt.mono {w:World}{B B' g:Nat}{v:Value}{ms na:Int}{l:List Int}{p:Int}(h:BookAt w B g v ms na l p)(hb:B'≤B):BookAt w B' g v ms na l p:=⟨h.blk,aw h.own hb⟩
structure NewV (w w':World)(gv gb gh:Nat)(vb:Value)(ms na:Nat)(room:Int):Prop where
 blk:Blk w' gv 184 #[ptr gb,ptr gh]
 book:BookAt w' w.heap.size gb vb ms na (List.replicate (na * (6+3 * ms)) 0) 0
 hlds:Blk w' gh 227 #[.int .i64 room,.slice none 0 0]
 l1:w.heap.size≤gv
 l2:w.heap.size≤gb
 l3:w.heap.size≤gh
def NewVPost (ms na:Nat)(room:Int)(w:World)(e:Ending)(w':World):Prop:=∃gv gb gh vb,e=.returned (.tuple #[ptr gv,.int .i64 0])∧NewV w w' gv gb gh vb ms na room∧Bw w w'
theorem newV (ms na:Nat)(room:Int)(h1:ms≤16)(h2:1≤na)(h3:na≤9)(h4:0≤room)(w:World):Calls Tryz.prog 62 #[.int .i64 ms,.int .i64 na,.int .i64 room] w (NewVPost ms na room w):=by
 go_enter Tryz.func62,Tryz.ntmps62;go_wp2_with fail;refine (newB ms na h1 h2 h3 _).mono ?_;rintro e f ⟨g,rfl,c,a⟩;have b:=aa c;clear c;go_wp2_with fail;refine (newH room h4 _).mono ?_;rintro e w2 ⟨rfl,rfl⟩;go_wp2_with fail;go_ret2;have d:=a.size;have h:=b.o.blk.lt;refine ⟨_,w.heap.size+1,f.heap.size,g,rfl,⟨?_,?_,?_,?_,by omega,d⟩,?_⟩
 ·exact heap_alloc2_new _ _ _
 ·exact b.o.keep (Bn.alloc (by simp) _)
 ·exact heap_alloc2_old _ _ _
 ·first | omega | (simp;omega)
 ·exact (a.alloc a.size _).alloc (by simp;omega) _
structure NewX (w w':World)(g:Nat)(vm vs vc:Value)(C:Cfg):Prop where
 blk:Blk w' g 175 #[vm,vs,vc,.int .i64 C.line,.int .i64 C.capital,.int .i64 C.lead,.int .i64 C.trades,.int .i64 C.bids,.slice none 0 0]
 cfg:COw w' w.heap.size vm vs vc C
 l1:w.heap.size≤g
def NewXPost (C:Cfg)(w:World)(e:Ending)(w':World):Prop:=∃g vm vs vc,e=.returned (.tuple #[ptr g,.int .i64 0])∧NewX w w' g vm vs vc C∧Bw w w'
theorem newX (vm vs vc:Value)(C:Cfg)(w:World)(hc:CSl w vm vs vc C)(hv:Valid C):Calls Tryz.prog 61 #[cfgV vm vs vc C] w (NewXPost C w):=by
 have f:=aa (hc.alloc (.cells (cfgC vm vs vc C) 26));have i:=aa (Blk.new w 26 (cfgC vm vs vc C));have j:=aa hv;clear hc hv;go_enter Tryz.func61,Tryz.ntmps61;go_wp2_with fail;refine (bM vm vs vc C _ f.o j.o).mono ?_;rintro e p ⟨rfl,b⟩;have a:=aa (i.o.keep b);have g:=aa (f.o.keep b);have d:Bw w p:=Bn.trans (b.mono (by simp));have k:=a.o.c 0;have n:=a.o.c 1;have t:=a.o.c 2;have u:=a.o.c 3;have y:=a.o.c 4;have r:=a.o.c 5;have x:=a.o.c 6;have v:=a.o.c 7;clear b i f;go_wp2_with fail;refine (ef vm vs vc C _ g.o j.o).mono ?_;rintro e w2 ⟨um,us,uc,rfl,hO,c2⟩;have q:=aa hO;have h:=d.trans (c2.mono d.size);have l:=d.size;obtain ⟨n1,k1,rfl⟩:=ag hO.m;obtain ⟨n2,k2,rfl⟩:=ag hO.s;obtain ⟨n3,k3,rfl⟩:=ag hO.c;clear c2 k n t u y r x v hO;go_wp2_with fail;go_ret2;refine ⟨w2.heap.size,_,_,_,rfl,⟨heap_alloc_new _ _,(q.o.keep Bn).mono l,h.size⟩,h.alloc h.size _⟩
abbrev deskC (vm vs vc:Value)(C:Cfg)(gv gs gx:Nat)(who:Value)(cycles state:Int)(endowed:Bool)(log:Value):Array Value:=
 #[vm,vs,vc,.int .i64 C.line,.int .i64 C.capital,.int .i64 C.lead,.int .i64 C.trades,.int .i64 C.bids,ptr gv,ptr gs,ptr gx,who,.int .i64 cycles,.int .i64 state,.bool endowed,log]
structure NewD (w w':World)(gd gv gb gh gs gx:Nat)(vb vm vs vc um us uc:Value)(C:Cfg):Prop where
 blk:Blk w' gd 138 (deskC vm vs vc C gv gs gx (.slice none 0 0) 0 0 false (.slice none 0 0))
 cfg:COw w' w.heap.size vm vs vc C
 vault:NewV w w' gv gb gh vb C.mem.length (C.secs.length+1) C.mem.length
 sheet:Blk w' gs 186 #[.slice none 0 0]
 box:NewX w w' gx um us uc C
 l1:w.heap.size≤gd
 l2:w.heap.size≤gs
def NewDPost (C:Cfg)(w:World)(e:Ending)(w':World):Prop:=∃gd gv gb gh gs gx vb vm vs vc um us uc,e=.returned (.tuple #[ptr gd,.int .i64 0])∧NewD w w' gd gv gb gh gs gx vb vm vs vc um us uc C∧Bw w w'
theorem NewV.keep {w w1 w2:World}{gv gb gh:Nat}{vb:Value}{ms na:Nat}{room:Int}(h:NewV w w1 gv gb gh vb ms na room)(hb:Bw w1 w2):NewV w w2 gv gb gh vb ms na room:=⟨h.blk.keep hb,h.book.keep hb,h.hlds.keep hb,h.l1,h.l2,h.l3⟩
theorem NewV.base {w0 w w1:World}{gv gb gh:Nat}{vb:Value}{ms na:Nat}{room:Int}(h:NewV w w1 gv gb gh vb ms na room)(hb:w0.heap.size≤w.heap.size):NewV w0 w1 gv gb gh vb ms na room:=⟨h.blk,h.book.mono hb,h.hlds,z5 hb h.l1,z5 hb h.l2,z5 hb h.l3⟩
theorem NewX.keep {w w1 w2:World}{g:Nat}{vm vs vc:Value}{C:Cfg}(h:NewX w w1 g vm vs vc C)(hb:Bw w1 w2):NewX w w2 g vm vs vc C:=⟨h.blk.keep hb,h.cfg.keep hb,h.l1⟩
theorem NewX.base {w0 w w1:World}{g:Nat}{vm vs vc:Value}{C:Cfg}(h:NewX w w1 g vm vs vc C)(hb:w0.heap.size≤w.heap.size):NewX w0 w1 g vm vs vc C:=⟨h.blk,h.cfg.mono hb,z5 hb h.l1⟩
theorem newD (vm vs vc:Value)(C:Cfg)(w:World)(hc:CSl w vm vs vc C)(hv:Valid C):Calls Tryz.prog 30 #[cfgV vm vs vc C] w (NewDPost C w):=by
 have q:=aa (hc.alloc (.cells (cfgC vm vs vc C) 26));have x:=aa (Blk.new w 26 (cfgC vm vs vc C));have y:=aa hv;have z:=hv.m2;have J:=hv.s2;obtain ⟨I,L,rfl,_,H,K,_⟩:=hc.m;obtain ⟨a2,z2,rfl,_,d3,d4,_⟩:=hc.s;clear hc hv;go_enter Tryz.func30,Tryz.ntmps30;go_wp2_with fail;refine (newX _ _ vc C _ q.o y.o).mono ?_;rintro e w1 ⟨gx,um,us,uc,rfl,hX,c1⟩;have f:=aa (hX.base (w0:=w) (by simp));have b:=aa (x.o.keep c1);have h:=aa (q.o.keep c1);have j:Bw w w1:=Bn.trans (c1.mono (by simp));have p:=b.o.c 0;have r:=b.o.c 1;clear c1 x q hX;go_wp2_with fail;refine (newV C.mem.length (C.secs.length+1) C.mem.length z (by omega) (by omega) (by omega) _).mono ?_;rintro e w2 ⟨gv,gb,gh,vb,rfl,hV,c2⟩;have g:=aa (hV.base j.size);have i:=aa (f.o.keep c2);have a:=aa (b.o.keep c2);have d:=aa (h.o.keep c2);have n:=j.trans (c2.mono j.size);clear c2 p r b h f hV j;have p:=a.o.c 0;have r:=a.o.c 1;have B:=a.o.c 2;have D:=a.o.c 3;have G:=a.o.c 4;have A:=a.o.c 5;have F:=a.o.c 6;have E:=a.o.c 7;go_wp2_with fail;refine (ef _ _ vc C _ d.o y.o).mono ?_;rintro e w3 ⟨tm,ts,tc,rfl,hO,c3⟩;have v:=aa (g.o.keep c3);have u:=aa (i.o.keep c3);have t:=aa (hO.mono n.size);have l:=n.trans (c3.mono n.size);obtain ⟨n1,k1,rfl⟩:=ag hO.m;obtain ⟨n2,k2,rfl⟩:=ag hO.s;obtain ⟨n3,k3,rfl⟩:=ag hO.c;clear c3 p r B D G A F E a d i g hO n;go_wp2_with fail;refine (newO _).mono ?_;rintro e w4 ⟨rfl,rfl⟩;go_wp2_with fail;go_ret2
 have k:Bw w3 ((w3.alloc (.cells #[.slice none 0 0] 186)).alloc (.cells (deskC (.slice n1 C.mem.length k1) (.slice n2 C.secs.length k2) (.slice n3 C.cyc.length k3) C gv w3.heap.size gx (.slice none 0 0) 0 0 false (.slice none 0 0)) 138)):=Bn.alloc (by simp) _;refine ⟨_,gv,gb,gh,w3.heap.size,gx,vb,_,_,_,um,us,uc,rfl,⟨heap_alloc2_new _ _ _,t.o.keep k,v.o.keep k,heap_alloc2_old _ _ _,u.o.keep k,?_,l.size⟩,l.trans (k.mono l.size)⟩;have:=l.size
 first | omega | (simp;omega)
theorem Sl.d {α:Type}{enc:α→List Value}{k:Nat}{w wd:World}{v:Value}{l:List α}(h:Sl enc k w v l)(e:wd.heap=w.heap:=by rfl):Sl enc k wd v l:=by
 obtain ⟨a,c,f,g,n,o,m⟩:=h;refine ⟨a,c,f,g,n,o,fun h0=>?_⟩;obtain ⟨b,off,ha,hlt,hcl⟩:=m h0;exact ⟨b,off,ha,by rw [e];exact hlt,fun i hi j x hx=>(AZ (w:=w) (by rw [e])).trans (hcl i hi j x hx)⟩
theorem CSl.d {w wd:World}{vm vs vc:Value}{C:Cfg}(h:CSl w vm vs vc C)(e:wd.heap=w.heap:=by rfl):CSl wd vm vs vc C:=⟨h.m.d e,h.s.d e,h.c.d e⟩
abbrev regC (vm vs vc:Value)(C:Cfg)(gt gu:Nat)(acc:Int):Array Value:=
 #[vm,vs,vc,.int .i64 C.line,.int .i64 C.capital,.int .i64 C.lead,.int .i64 C.trades,.int .i64 C.bids,ptr gt,ptr gu,.int .i64 acc]
structure NewR (w w':World)(gr gt gu:Nat)(vm vs vc:Value)(C:Cfg):Prop where
 blk:Blk w' gr 144 (regC vm vs vc C gt gu 0)
 cfg:COw w' w.heap.size vm vs vc C
 trades:Blk w' gt 188 #[.int .i64 C.trades,.slice none 0 0]
 used:Blk w' gu 191 #[.int .i64 (C.trades * C.cyc.length),.slice none 0 0]
 l1:w.heap.size≤gr
 l2:w.heap.size≤gt
 l3:w.heap.size≤gu
def NewRPost (C:Cfg)(w:World)(e:Ending)(w':World):Prop:=∃gr gt gu vm vs vc,e=.returned (.tuple #[ptr gr,.int .i64 0])∧NewR w w' gr gt gu vm vs vc C∧Bw w w'
def NewTPost (T:TypeId)(n:Int)(w:World)(e:Ending)(w':World):Prop:=∃g,e=.returned (ptr g)∧Blk w' g T #[.int .i64 n,.slice none 0 0]∧w.heap.size≤g∧Bw w w'
theorem newT' (n:Int)(hn:0≤n)(w:World):Calls Tryz.prog 64 #[.int .i64 n] w (NewTPost 188 n w):=(newT n hn w).mono fun _ _ ⟨he,hw⟩=>⟨_,he,by rw [hw];exact Blk.new _ _ _,zY _,by rw [hw];exact Bn⟩
theorem newU' (n:Int)(hn:0≤n)(w:World):Calls Tryz.prog 65 #[.int .i64 n] w (NewTPost 191 n w):=(newU n hn w).mono fun _ _ ⟨he,hw⟩=>⟨_,he,by rw [hw];exact Blk.new _ _ _,zY _,by rw [hw];exact Bn⟩
theorem newW' (n:Int)(hn:0≤n)(w:World):Calls Tryz.prog 33 #[.int .i64 n] w (NewTPost 150 n w):=(newW n hn w).mono fun _ _ ⟨he,hw⟩=>⟨_,he,by rw [hw];exact Blk.new _ _ _,zY _,by rw [hw];exact Bn⟩
abbrev S8 (g:Nat)(vm vs vc:Value)(C:Cfg)(W:World):Prop:=W.cell? ⟨g,0,none⟩=some vm∧W.cell? ⟨g,1,none⟩=some vs∧W.cell? ⟨g,2,none⟩=some vc∧W.cell? ⟨g,3,none⟩=some (.int .i64 C.line)∧W.cell? ⟨g,4,none⟩=some (.int .i64 C.capital)∧W.cell? ⟨g,5,none⟩=some (.int .i64 C.lead)∧W.cell? ⟨g,6,none⟩=some (.int .i64 C.trades)∧W.cell? ⟨g,7,none⟩=some (.int .i64 C.bids)
theorem s8 {w:World}{g:Nat}{vm vs vc:Value}{C:Cfg}(h:Blk w g 26 (cfgC vm vs vc C)):S8 g vm vs vc C w:=⟨h.c 0,h.c 1,h.c 2,h.c 3,h.c 4,h.c 5,h.c 6,h.c 7⟩
theorem newR (vm vs vc:Value)(C:Cfg)(w:World)(hc:CSl w vm vs vc C)(hv:Valid C):Calls Tryz.prog 31 #[cfgV vm vs vc C] w (NewRPost C w):=by
 have F:=aa (hc.alloc (.cells (cfgC vm vs vc C) 26));have N:=aa (Blk.new w 26 (cfgC vm vs vc C));have J:=aa hv;obtain ⟨t1,t2⟩:=hv.trades;have l3:=hv.c2;obtain ⟨a3,z3,rfl,_,d5,d6,_⟩:=hc.c;have g:0≤C.trades * (C.cyc.length:Int)∧C.trades * (C.cyc.length:Int)≤64 * 4:=⟨Int.mul_nonneg (by omega) (by omega),Int.mul_le_mul t2 (by omega) (by omega) (by omega)⟩;obtain ⟨TU,hTU⟩:∃t,C.trades * (C.cyc.length:Int)=t:=⟨_,rfl⟩;have r:=aa hTU;rw [hTU] at g;obtain ⟨u0,u1⟩:=g;clear hc hv;go_enter Tryz.func31,Tryz.ntmps31;go_wp2_with fail;refine (bM vm vs _ C _ F.o J.o).mono ?_;rintro e w1 ⟨rfl,c1⟩;have b:=aa (N.o.keep c1);have x:=aa (F.o.keep c1);have E:Bw w w1:=Bn.trans (c1.mono (by simp));have f:=s8 b.o;have U:IntKind.i64.wrap (C.trades * (C.cyc.length:Int))=TU:=by rw [hTU];exact Ax _ (by omega)
 have Q:wrap64 (C.trades * (C.cyc.length:Int))=TU:=by rw [hTU];unfold wrap64;omega
 clear c1 N F hTU;go_wp2_with fail;go_region_held3 (S8 w.heap.size vm vs (.slice a3 C.cyc.length z3) C) (first | exact f | assumption | exact s8 (I.o.alloc _) | go_keep)
  (first
   | (go_at_call 32;refine (ef vm vs _ C _ x.o.d J.o).mono ?_;rintro e x1 ⟨um,us,uc,rfl,i,G⟩;have D:=aa (b.o.keepD G);have Z:=s8 D.o;have O:=aa i;have M:=aa G;obtain ⟨n1,k1,rfl⟩:=ag i.m;obtain ⟨n2,k2,rfl⟩:=ag i.s;obtain ⟨n3,k3,rfl⟩:=ag i.c;clear i G)
   | (go_at_call 64;refine (newT' _ (by omega) _).mono ?_;rintro e x2 ⟨K,rfl,R,h,q⟩;have p:=aa (D.o.keepD q);have Y:=s8 p.o;have j:=aa R;have A:=aa q;have W:=aa h;clear R q h)
   | (go_at_call 65;refine (newU' _ (by omega) _).mono ?_;rintro e y ⟨P,rfl,L,k,B⟩;have I:=aa (p.o.keepD B);have V:=s8 I.o;have z:=aa L;have l:=aa B;have L3:=aa k;clear L B k))
 have u:Bw w x1:=aB E M.o E.size;have v:=u.trans (A.o.mono u.size);have H:=v.trans (l.o.mono v.size);have X:=aa (((O.o.mono (show w.heap.size≤w1.drew.heap.size from E.size)).keep A.o).keep l.o);have S:=aa (j.o.keep l.o);have e1:=z5 u.size W.o;have T:=z5 v.size L3.o;rename_i a
 clear a Z Y V D p I M A l O j f;go_wp2;go_ret2;have n:Bw y (y.alloc (.cells (regC (.slice n1 C.mem.length k1) (.slice n2 C.secs.length k2) (.slice n3 C.cyc.length k3) C K P 0) 144)):=Bn;exact ⟨y.heap.size,K,P,_,_,_,rfl,⟨heap_alloc_new _ _,X.o.keep n,S.o.keep n,by rw [r.o];exact z.o.keep n,H.size,e1,T⟩,H.trans (n.mono H.size)⟩
abbrev dayC (vm vs vc:Value)(C:Cfg)(gd gr gw:Nat)(phs clk2 cycle told:Int)(log:Value):Array Value:=
 #[vm,vs,vc,.int .i64 C.line,.int .i64 C.capital,.int .i64 C.lead,.int .i64 C.trades,.int .i64 C.bids,ptr gd,ptr gr,ptr gw,.int .i64 phs,.int .i64 clk2,.int .i64 cycle,.int .i64 told,log]
theorem NewR.keep {w w1 w2:World}{gr gt gu:Nat}{vm vs vc:Value}{C:Cfg}(h:NewR w w1 gr gt gu vm vs vc C)(hb:Bw w1 w2):NewR w w2 gr gt gu vm vs vc C:=⟨h.blk.keep hb,h.cfg.keep hb,h.trades.keep hb,h.used.keep hb,h.l1,h.l2,h.l3⟩
theorem NewR.base {w0 w w1:World}{gr gt gu:Nat}{vm vs vc:Value}{C:Cfg}(h:NewR w w1 gr gt gu vm vs vc C)(hb:w0.heap.size≤w.heap.size):NewR w0 w1 gr gt gu vm vs vc C:=⟨h.blk,h.cfg.mono hb,h.trades,h.used,z5 hb h.l1,z5 hb h.l2,z5 hb h.l3⟩
theorem NewD.keep {w w1 w2:World}{gd gv gb gh gs gx:Nat}{vb vm vs vc um us uc:Value}{C:Cfg}(h:NewD w w1 gd gv gb gh gs gx vb vm vs vc um us uc C)(hb:Bw w1 w2):NewD w w2 gd gv gb gh gs gx vb vm vs vc um us uc C:=⟨h.blk.keep hb,h.cfg.keep hb,h.vault.keep hb,h.sheet.keep hb,h.box.keep hb,h.l1,h.l2⟩
theorem NewD.base {w0 w w1:World}{gd gv gb gh gs gx:Nat}{vb vm vs vc um us uc:Value}{C:Cfg}(h:NewD w w1 gd gv gb gh gs gx vb vm vs vc um us uc C)(hb:w0.heap.size≤w.heap.size):NewD w0 w1 gd gv gb gh gs gx vb vm vs vc um us uc C:=⟨h.blk,h.cfg.mono hb,h.vault.base hb,h.sheet,h.box.base hb,z5 hb h.l1,z5 hb h.l2⟩
structure NewY (w w':World)(gy gd gr gw gv gb gh gs gx gt gu:Nat)(vb vm vs vc um us uc dm ds dc rm rs rc:Value)(C:Cfg):Prop where
 blk:Blk w' gy 94 (dayC vm vs vc C gd gr gw 0 0 0 0 (.slice none 0 0))
 cfg:COw w' w.heap.size vm vs vc C
 desk:NewD w w' gd gv gb gh gs gx vb dm ds dc um us uc C
 reg:NewR w w' gr gt gu rm rs rc C
 whl:Blk w' gw 150 #[.int .i64 (4 * (C.cyc.length:Int)+2 * (C.mem.length:Int)),.slice none 0 0]
 l1:w.heap.size≤gy
 l2:w.heap.size≤gw
def NewYPost (C:Cfg)(w:World)(e:Ending)(w':World):Prop:=∃gy gd gr gw gv gb gh gs gx gt gu vb vm vs vc um us uc dm ds dc rm rs rc,e=.returned (.tuple #[ptr gy,.int .i64 0])∧NewY w w' gy gd gr gw gv gb gh gs gx gt gu vb vm vs vc um us uc dm ds dc rm rs rc C∧Bw w w'
theorem newY (vm vs vc:Value)(C:Cfg)(w:World)(hc:CSl w vm vs vc C)(hv:Valid C):Calls Tryz.prog 8 #[cfgV vm vs vc C] w (NewYPost C w):=by
 have T:=aa (hc.alloc (.cells (cfgC vm vs vc C) 26));have Y:=aa (Blk.new w 26 (cfgC vm vs vc C));have B:=aa hv;have l1:=hv.m2;have l3:=hv.c2;have U:=aa (eF C.cyc);obtain ⟨a1,z1,rfl,_,K,E,_⟩:=hc.m;clear hc hv;go_enter Tryz.func8,Tryz.ntmps8;go_wp2_with fail;refine (bM _ vs vc C _ T.o B.o).mono ?_;rintro e w1 ⟨rfl,c1⟩;have i:=aa (Y.o.keep c1);have h:=aa (T.o.keep c1);have H:Bw w w1:=Bn.trans (c1.mono (by simp));clear c1 Y T;have p:=s8 i.o;obtain ⟨p0,p1,p2,p3,p4,p5,p6,p7⟩:=p;go_wp2_with fail;refine (newD _ vs vc C _ h.o B.o).mono ?_;rintro e w2 ⟨gd,gv,gb,gh,gs,gx,vb,dm,ds,dc,um,us,uc,rfl,hD,f⟩;have x:=aa (hD.base H.size);have g:=aa (i.o.keep f);have j:=aa (h.o.keep f);have F:=H.trans (f.mono H.size);clear f i h H p0 p1 p2 p3 p4 p5 p6 p7 hD;have p:=s8 g.o;obtain ⟨p0,p1,p2,p3,p4,p5,p6,p7⟩:=p;go_wp2_with fail;refine (newR _ vs vc C _ j.o B.o).mono ?_;rintro e w3 ⟨gr,gt,gu,rm,rs,rc,rfl,hR,a⟩;have W:=aa (hR.base F.size);have Q:=aa (x.o.keep a);have r:=aa (g.o.keep a);have u:=aa (j.o.keep a);have M:=F.trans (a.mono F.size);clear a g j F p0 p1 p2 p3 p4 p5 p6 p7 hR x;have v:=s8 r.o;obtain ⟨TU,hTU⟩:∃t:Int,4 * (C.cyc.length:Int)+2 * (C.mem.length:Int)=t:=⟨_,rfl⟩;have J:=aa hTU;have q:((tkM C.cyc).length:Int)=4 * (C.cyc.length:Int):=by rw [U.o];push_cast;rfl
 have Z:IntKind.i64.wrap (2 * (C.mem.length:Int))=2 * (C.mem.length:Int):=Ax _ (by omega);have ab:IntKind.i64.wrap ((tkM C.cyc).length+2 * (C.mem.length:Int))=TU:=by rw [q,hTU];exact Ax _ (by omega)
 have u0:0≤TU:=by omega
 clear hTU q;go_wp2_with fail;go_region_held3 (S8 w.heap.size (.slice a1 C.mem.length z1) vs vc C) (first | exact v | assumption | exact s8 (L.o.alloc _) | go_keep)
  (first
   | (go_at_call 32;refine (ef _ vs vc C _ u.o.d B.o).mono ?_;rintro e x1 ⟨tm,ts,tc,rfl,A,f⟩;have S:=aa (r.o.keepD f);have C1:=aa (u.o.keepD f);have s1:=s8 S.o;have O1:=aa A;have P:=aa f;obtain ⟨n1,k1,rfl⟩:=ag A.m;obtain ⟨n2,k2,rfl⟩:=ag A.s;obtain ⟨n3,k3,rfl⟩:=ag A.c;clear A f)
   | (go_at_call 34;refine (ip _ vs vc C _ C1.o.d l3).mono ?_;rintro e x2 ⟨tv,rfl,tO,a⟩;obtain ⟨n4,k4,rfl⟩:=ag tO;have I:=aa (S.o.keepD a);have s2:=s8 I.o;have G:=aa a;clear tO a)
   | (go_at_call 33;refine (newW' _ (by omega) _).mono ?_;rintro e N ⟨gw,rfl,X,z,R⟩;have L:=aa (I.o.keepD R);have s3:=s8 L.o;have O:=aa X;have D:=aa R;have L3:=aa z;clear X R z))
 have K:Bw w x1:=aB M P.o M.size;have E:=K.trans (G.o.mono K.size);have V:=E.trans (D.o.mono E.size);have l:Bw w3 x1:=aB (zZ _ _) P.o (zY _);have k:=l.trans (G.o.mono l.size);have n:=k.trans (D.o.mono k.size);have O3:=aa (((O1.o.mono (show w.heap.size≤w3.drew.heap.size from M.size)).keep G.o).keep D.o);have e2:=z5 E.size L3.o;rename_i b
 clear b s1 s2 s3 S I L P G D O1 v l k;go_wp2;go_ret2;have y:Bw N (N.alloc (.cells (dayC (.slice n1 C.mem.length k1) (.slice n2 C.secs.length k2) (.slice n3 C.cyc.length k3) C gd gr gw 0 0 0 0 (.slice none 0 0)) 94)):=Bn;exact ⟨N.heap.size,gd,gr,gw,gv,gb,gh,gs,gx,gt,gu,vb,_,_,_,um,us,uc,dm,ds,dc,rm,rs,rc,rfl,⟨heap_alloc_new _ _,O3.o.keep y,(Q.o.keep n).keep y,(W.o.keep n).keep y,by rw [J.o];exact O.o.keep y,V.size,e2⟩,V.trans (y.mono V.size)⟩
end
structure ModT (B:Nat)(TS:List TypeId)(K:List Nat)(w w':World):Prop where
 os:w'.os=w.os
 tape:w'.tape=w.tape
 output:w'.output=w.output
 size:w.heap.size≤w'.heap.size
 far:∀k,k<w.heap.size→(k<B∨k∈K∨∀cs T fr,w.heap[k]?=some (.cells cs T fr)→T∉TS)→w'.heap[k]?=w.heap[k]?
section
variable {B:Nat}{TS:List TypeId}{K:List Nat}{u v w w':World}
theorem ModT.refl (B:Nat)(TS:List TypeId)(K:List Nat)(w:World):ModT B TS K w w:=⟨rfl,rfl,rfl,zY _,fun _ _ _=>rfl⟩
theorem ModT.trans (h:ModT B TS K u v)(k:ModT B TS K v w):ModT B TS K u w:=
 ⟨k.os.trans h.os,k.tape.trans h.tape,k.output.trans h.output,z5 h.size k.size,fun i hi hc=>by
  have e:=h.far i hi hc;refine (k.far i (AR hi h.size) ?_).trans e;rcases hc with hc | hc | hc
  ·exact Or.inl hc
  ·exact Or.inr (Or.inl hc)
  ·exact Or.inr (Or.inr (fun cs T fr hT=>hc cs T fr (e ▸ hT)))⟩
theorem ModT.mono {TS':List TypeId}(h:ModT B TS K w w')(hs:∀T∈TS,T∈TS'):ModT B TS' K w w':=
 ⟨h.os,h.tape,h.output,h.size,fun i hi hc=>h.far i hi (by
  rcases hc with hc | hc | hc
  ·exact Or.inl hc
  ·exact Or.inr (Or.inl hc)
  ·exact Or.inr (Or.inr (fun cs T fr hT hm=>hc cs T fr hT (hs T hm))))⟩
theorem ModT.less {K':List Nat}(h:ModT B TS K w w')(hs:∀k∈K',k∈K):ModT B TS K' w w':=
 ⟨h.os,h.tape,h.output,h.size,fun i hi hc=>h.far i hi (by
  rcases hc with hc | hc | hc
  ·exact Or.inl hc
  ·exact Or.inr (Or.inl (hs _ hc))
  ·exact Or.inr (Or.inr hc))⟩
theorem ModT.below (h:Bw w w'):ModT B TS K w w':=⟨h.os,h.tape,h.output,h.size,fun k hk _=>h.block k hk⟩
theorem ModT.alloc (h:ModT B TS K w w')(o:Obj):ModT B TS K w (w'.alloc o):=h.trans (ModT.below Bn)
theorem ModT.one {g:Nat}{T:TypeId}{cs:Array Value}(hg:Blk w g T cs)(hT:T∈TS)(hB:B≤g)(hK:g∉K)(hm:Mod [g] w w'):ModT B TS K w w':=
 ⟨hm.os,hm.tape,hm.output,hm.size,fun i hi hc=>hm.far i hi (by
  rintro hgm;obtain rfl:i=g:=by simpa using hgm
  rcases hc with hc | hc | hc
  ·omega
  ·exact hK hc
  ·exact hc cs T (0,0) hg hT)⟩
theorem ModT.set {g i:Nat}{T:TypeId}{cs:Array Value}{x:Value}(hg:Blk w g T cs)(hT:T∈TS)(hB:B≤g)(hK:g∉K):ModT B TS K w (w.setCell ⟨g,i,none⟩ x):=
 ModT.one hg hT hB hK ((Mod.refl [g] w).set g i x (Or.inl (by simp)))
theorem ModT.put {g:Nat}{T:TypeId}{old cs:Array Value}(hg:Blk w g T old)(h:PutB w g T cs w')(hT:T∈TS)(hB:B≤g)(hK:g∉K):ModT B TS K w w':=ModT.one hg hT hB hK h.mod
theorem ModT.grown {base:Nat}{e:TypeId}{sz:Nat}{x:Value}{n:Nat}{xs:List Value}(ho:w.ownsRow base e sz x n xs)(hg:w.grownBy w' x.ownBlock)(hT:e∈TS)(hB:B≤base)(hK:∀k,x.ownBlock=some k→k∉K):ModT B TS K w w':=
 ⟨hg.os,hg.tape,hg.output,hg.size,fun i hi hc=>hg.block i hi (by
  intro hx;have h1:=ho.lt i hx.symm;rcases hc with hc | hc | hc
  ·omega
  ·exact hK i hx.symm hc
  ·obtain ⟨_,ho2⟩:=ho;rcases ho2 with ⟨rfl,_⟩ | ⟨g,cap,cur,rfl,_,hh,_⟩
   ·simp [Value.ownBlock] at hx
   ·simp [Value.ownBlock] at hx
    subst hx;exact hc cur e (0,0) hh hT)⟩
theorem Blk.modT {g:Nat}{T:TypeId}{cs:Array Value}(h:Blk w g T cs)(hm:ModT B TS K w w')(hT:T∉TS):Blk w' g T cs:=
 (hm.far g h.lt (Or.inr (Or.inr (fun cs' T' fr e=>by
  unfold Blk at h;rw [h] at e;cases e
  exact hT)))).trans h
theorem ai {base:Nat}{e:TypeId}{sz:Nat}{x:Value}{n:Nat}{xs:List Value}(h:w.ownsRow base e sz x n xs)(hm:ModT B TS K w w')(hT:e∉TS):w'.ownsRow base e sz x n xs:=by
 obtain ⟨c,a⟩:=h;refine ⟨c,?_⟩;rcases a with a | ⟨g,cap,cur,rfl,hg,hh,r⟩
 ·exact Or.inl a
 ·have b:g<w.heap.size:=by
   rcases Az g w.heap.size with h' | h'
   ·exact h'
   ·simp [AO h'] at hh
  refine Or.inr ⟨g,cap,cur,rfl,hg,(hm.far g b (Or.inr (Or.inr (fun cs' T' fr e=>by rw [hh] at e;cases e;exact hT)))).trans hh,r⟩
theorem fL {base:Nat}{e:TypeId}{sz:Nat}{x:Value}{n:Nat}{xs:List Value}(h:w.ownsRow base e sz x n xs)(hm:ModT B TS K w w')(hK:∀k,x.ownBlock=some k→k∈K):w'.ownsRow base e sz x n xs:=
 au h fun g hg=>hm.far g (h.lt g hg).2 (Or.inr (Or.inl (hK g hg)))
theorem COw.modT {vm vs vc:Value}{C:Cfg}{b:Nat}(h:COw w b vm vs vc C)(hm:ModT B TS K w w')(h1:125∉TS)(h2:127∉TS)(h3:63∉TS):COw w' b vm vs vc C:=⟨ai h.m hm h1,ai h.s hm h2,ai h.c hm h3⟩
end
def ownL (v:Value):List Nat:=match v.ownBlock with | some k=>[k] | none=>[]
theorem aN {v:Value}{k:Nat}:k∈ownL v↔v.ownBlock=some k:=by
 unfold ownL;cases h:v.ownBlock with
 | none=>simp
 | some j=>simp [eq_comm]
end Go.Proofs.YtmhohaanddglbaaGreatDoor
