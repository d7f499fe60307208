/- Texts of the proof of TopNets, joined: Grew, Gath, Chg, Post, Cmp, Tab, Vault, Vault2, Vault3. -/
import Derived.Test.YtmhohaanddglbaaGreatDoorM00
import Derived.Test.YtmhohaanddglbaaGreatDoorM01
import Derived.Deep.RegionLaw
import Derived.Deep.RegionHeld3
set_option linter.all false
set_option maxRecDepth 100000
set_option maxHeartbeats 16000000
namespace Go.Proofs.YtmhohaanddglbaaGreatDoor
open Go.RowKit
structure Grew {α:Type}(enc:α→List Value)(k:Nat)(E:TypeId)(w w':World)(B g:Nat)(T:TypeId)(cs:Array Value)(off:Nat)(vl:Value)(l:List α)(K:List Nat)(vl':Value):Prop where
 blk:Blk w' g T (cs.setIfInBounds off vl')
 own:w'.ownsRow B E k vl' l.length (flat enc l)
 mod:ModT B [T,E] K w w'
 goes:Goes w vl vl'
theorem bU {α:Type}{enc:α→List Value}{k:Nat}{E:TypeId}{w w2:World}{B g:Nat}{T:TypeId}{cs:Array Value}{off:Nat}{vl v':Value}{l ev:List α}{K:List Nat}(hb:Blk w g T cs)(ho:w.ownsRow B E k vl l.length (flat enc l))(hgrow:w.grownBy w2 vl.ownBlock)(hown:w2.ownsRow B E k v' (l++ev).length (flat enc (l++ev)))
  (hat:v'.ownBlock=vl.ownBlock∨v'.ownBlock=some w.heap.size) (hT:T≠E) (hB:B≤g) (hKg:g∉K) (hKv:∀k,vl.ownBlock=some k→k∉K):Grew enc k E w (w2.setCell ⟨g,off,none⟩ v') B g T cs off vl (l++ev) K v':=by
 have a:=hb.grown ho hgrow hT;refine ⟨a.set off v',?_,(ModT.grown ho hgrow (by simp) (zY _) hKv).trans (ModT.set a (by simp) hB hKg),?_⟩
 ·have:=aD a hown hT
  exact au (w:=w2) hown (fun k hk=>An _ _ _ _ (this k hk))
 ·rcases hat with hat | hat
  ·exact Or.inl hat
  ·exact Or.inr ⟨_,zY _,hat⟩
theorem Sl.oneTm (w:World)(x:Tm):Sl eTm 4 (w.alloc (.cells (cTm x) 197)) (.slice (some ⟨w.heap.size,0,none⟩) 1 1) [x]:=by
 refine ⟨some ⟨w.heap.size,0,none⟩,1,rfl,(fun h=>by cases h),by simp,by unfold maxLen;omega,fun _=>⟨w.heap.size,0,rfl,by simp,fun i hi j u hu=>?_⟩⟩;have a:i=0:=by simpa using hi
 subst a;have:=yL w x w.heap.size rfl j u hu
 rw [Aj] at this;simpa using this
structure En where
 k:Int
 m:Int
 ass:Int
 amt:Int
  deriving DecidableEq
abbrev cEn (x:En):Array Value:=#[.int .i64 x.k,.int .i64 x.m,.int .i64 x.ass,.int .i64 x.amt]
def eEn (x:En):List Value:=[.int .i64 x.k,.int .i64 x.m,.int .i64 x.ass,.int .i64 x.amt]
theorem kEn (x:En):(eEn x).length=4:=rfl
theorem oneEn (x:En):∀u∈eEn x,u.oneCell'=true:=by intro u a;simp [eEn] at a;rcases a with rfl | rfl | rfl | rfl <;> rfl
theorem zj:(Tryz.prog.info? 231).map (fun i=>(i.zero,i.size,i.bytes))=some (some (.agg #[.int .i64 0,.int .i64 0,.int .i64 0,.int .i64 0]),4,32):=by kernel_rfl
theorem atEn {W:World}{b o:Nat}{x:En}(h:∀j u,(eEn x)[j]?=some u→W.cell? ⟨b,o+j,none⟩=some u):W.cell? ⟨b,o,none⟩=some (.int .i64 x.k)∧W.cell? ⟨b,o+1,none⟩=some (.int .i64 x.m)∧W.cell? ⟨b,o+2,none⟩=some (.int .i64 x.ass)∧W.cell? ⟨b,o+3,none⟩=some (.int .i64 x.amt):=by
 exact ⟨h 0 _ rfl,h 1 _ rfl,h 2 _ rfl,h 3 _ rfl⟩
abbrev cSp (x:Sp):Array Value:=#[.int .i64 x.k,.int .i64 x.m,.int .i64 x.ass]
def eSp (x:Sp):List Value:=[.int .i64 x.k,.int .i64 x.m,.int .i64 x.ass]
theorem kSp (x:Sp):(eSp x).length=3:=rfl
theorem oneSp (x:Sp):∀u∈eSp x,u.oneCell'=true:=by intro u a;simp [eSp] at a;rcases a with rfl | rfl | rfl <;> rfl
theorem zk:(Tryz.prog.info? 369).map (fun i=>(i.zero,i.size,i.bytes))=some (some (.agg #[.int .i64 0,.int .i64 0,.int .i64 0]),3,24):=by kernel_rfl
theorem newSp (W:World)(x:Sp)(b:Nat)(hb:W.heap.size=b):∀j u,(eSp x)[j]?=some u→(W.alloc (.cells (cSp x) 369)).cell? ((⟨b,0,none⟩:Addr).add j)=some u:=by
 subst hb;intro j u a;rw [Aj,Av,(Blk.new W 369 (cSp x)).c j];simpa [eSp] using a
theorem atSp {W:World}{b o:Nat}{x:Sp}(h:∀j u,(eSp x)[j]?=some u→W.cell? ⟨b,o+j,none⟩=some u):W.cell? ⟨b,o,none⟩=some (.int .i64 x.k)∧W.cell? ⟨b,o+1,none⟩=some (.int .i64 x.m)∧W.cell? ⟨b,o+2,none⟩=some (.int .i64 x.ass):=by
 exact ⟨h 0 _ rfl,h 1 _ rfl,h 2 _ rfl⟩
def spM (x:En):Sp:=⟨x.k,x.m,x.ass⟩
def addG {κ:Type} [DecidableEq κ](k:κ)(x:Int):List (κ×List Int)→List (κ×List Int)
 | []=>[(k,[x])]
 | p :: l=>if k=p.1 then (p.1,p.2++[x]) :: l else p :: addG k x l
def gpM (l:List En):List (Sp×List Int):=l.foldl (fun G x=>addG (spM x) x.amt G) []
def asM (l:List En):List (List Int):=(List.range 9).map fun (a:Nat)=>(l.filter fun x=>decide (x.ass=(a:Int))).map (·.amt)
theorem j4 (l:List En)(x:En):gpM (l++[x])=addG (spM x) x.amt (gpM l):=by simp [gpM]
theorem j5 (l:List En)(x:En)(a:Nat)(ha:a<9)(hx:x.ass=(a:Int)):asM (l++[x])=(asM l).set a ((l.filter fun x=>decide (x.ass=(a:Int))).map (·.amt)++[x.amt]):=by
 apply AY
 intro i;rw [List.getElem?_set];unfold asM;by_cases hi:i<9
 ·simp only [List.getElem?_map,List.getElem?_range hi,Option.map_some,Ad,List.length_range,List.filter_append,AI];by_cases hai:a=i
  ·subst hai;rw [if_pos rfl,if_pos hi];simp [hx]
  ·rw [if_neg hai];simp [hx];omega
 ·simp only [List.getElem?_map,Ad,List.length_range];have e:(List.range 9)[i]?=none:=by simp;omega
  rw [e,if_neg (by omega)];rfl
theorem cu? (l:List En)(a:Nat)(ha:a<9):(asM l)[a]?=some ((l.filter fun x=>decide (x.ass=(a:Int))).map (·.amt)):=by
 unfold asM;rw [List.getElem?_map,List.getElem?_range ha];rfl
theorem cu (l:List En)(a:Nat)(ha:a<(asM l).length)(h9:a<9):(asM l)[a]=(l.filter fun x=>decide (x.ass=(a:Int))).map (·.amt):=(AA.1 (cu? l a h9)).2
theorem aM (l:List En):(asM l).length=9:=by simp [asM]
theorem ep {κ:Type} [DecidableEq κ](k:κ):∀(G:List (κ×List Int))(vs:List Value)(i:Nat),vs.length=G.length→(look k (List.zipWith (fun g v=>(g.1,v)) G vs) i=none∧(∀x,addG k x G=G++[(k,[x])]))∨
  ∃n,∃(h:n<G.length) (h2:n<vs.length),look k (List.zipWith (fun g v=>(g.1,v)) G vs) i=some (i+n,vs[n])∧G[n].1=k∧∀x,addG k x G=G.set n (k,G[n].2++[x]):=by
 intro G;induction G with
 | nil=>intro vs i h;exact Or.inl ⟨by simp [look],fun x=>rfl⟩
 | cons p G ih=>
  intro vs i h;cases vs with
  | nil=>simp at h
  | cons v vs=>
   simp only [Ay,Nat.add_right_cancel_iff] at h;by_cases hk:k=p.1
   ·refine Or.inr ⟨0,by simp,by simp,?_,by simp [hk],fun x=>by simp [addG,hk]⟩;simp [look,hk]
   ·rcases ih vs (i+1) h with ⟨h1,h2⟩ | ⟨n,hn,hv,h1,h2,h3⟩
    ·refine Or.inl ⟨by simp [look,hk,h1],fun x=>by simp [addG,hk,h2 x]⟩
    ·refine Or.inr ⟨n+1,by simp;omega,by simp;omega,?_,by simpa using h2,fun x=>by simp [addG,hk,h3 x]⟩;simp only [List.zipWith_cons_cons,look,hk,if_false,h1,A9];congr 2;omega
structure Gath (l:List En)(w wr:World)(k:Nat)(M A:Nat)(vo:Value)(bv av:List Value):Prop where
 blen:bv.length=(gpM (l.take k)).length
 alen:av.length=9
 map:MapB wr M vSp (List.zipWith (fun g v=>(g.1,v)) (gpM (l.take k)) bv)
 ast:Blk wr A 45 av.toArray
 ord:wr.ownsRow w.heap.size 369 3 vo (gpM (l.take k)).length (flat eSp ((gpM (l.take k)).map (·.1)))
 rows:Rws wr w.heap.size (av++bv) (asM (l.take k)++(gpM (l.take k)).map (·.2))
 low:Bw w wr
 hM:w.heap.size≤M
 hA:w.heap.size≤A
def GathPost (l:List En)(w:World)(e:Ending)(w':World):Prop:=∃M A vo bv av,e=.returned (.tuple #[.map (some M),.slice (some ⟨A,0,none⟩) 9 9,vo])∧Gath l w w' l.length M A vo bv av
theorem fP {κ:Type} [DecidableEq κ](k:κ)(x:Int)(G:List (κ×List Int)):(addG k x G).length≤G.length+1∧∀p∈addG k x G,∀n,(∀q∈G,q.2.length≤n)→p.2.length≤n+1:=by
 induction G with
 | nil=>refine ⟨by simp [addG],fun p hp n _=>?_⟩;simp [addG] at hp;subst hp;simp
 | cons q G ih=>
  by_cases hk:k=q.1
  ·refine ⟨by simp [addG,hk],fun p hp n hn=>?_⟩;simp only [addG,hk,if_true,Aq] at hp;rcases hp with rfl | hp
   ·have:=hn q (by simp);simp;omega
   ·have:=hn p (by simp [hp]);omega
  ·refine ⟨by simp [addG,hk];exact ih.1,fun p hp n hn=>?_⟩;simp only [addG,hk,if_false,Aq] at hp;rcases hp with rfl | hp
   ·have:=hn p (by simp);omega
   ·exact ih.2 p hp n (fun q hq=>hn q (by simp [hq]))
theorem dS {κ α:Type} [DecidableEq κ](f:α→κ)(g:α→Int)(l:List α):∀(G:List (κ×List Int))(n:Nat),G.length≤n→(∀q∈G,q.2.length≤n)→(l.foldl (fun G x=>addG (f x) (g x) G) G).length≤n+l.length∧∀p∈l.foldl (fun G x=>addG (f x) (g x) G) G,p.2.length≤n+l.length:=by
 induction l with
 | nil=>intro G n b a;exact ⟨b,a⟩
 | cons x l ih=>
  intro G n b a;have:=ih (addG (f x) (g x) G) (n+1) (by have:=(fP (f x) (g x) G).1;omega) (fun p hp=>(fP (f x) (g x) G).2 p hp n a)
  simp only [List.foldl_cons,Ay];exact ⟨by omega,fun p hp=>by have:=this.2 p hp;omega⟩
theorem cK (l:List En):(gpM l).length≤l.length∧∀p∈gpM l,p.2.length≤l.length:=by
 have:=dS spM En.amt l [] 0 (by simp) (by simp)
 rw [Av] at this;exact this
theorem si {κ:Type} [DecidableEq κ](k:κ)(x:Int)(G:List (κ×List Int))(h:∀q∈G,0<q.2.length):∀p∈addG k x G,0<p.2.length:=by
 induction G with
 | nil=>intro p a;simp [addG] at a;subst a;simp
 | cons q G ih=>
  intro p a;by_cases hk:k=q.1
  ·simp only [addG,hk,if_true,Aq] at a;rcases a with rfl | a
   ·simp
   ·exact h p (by simp [a])
  ·simp only [addG,hk,if_false,Aq] at a;rcases a with rfl | a
   ·exact h p (by simp)
   ·exact ih (fun q hq=>h q (by simp [hq])) p a
theorem sj {κ α:Type} [DecidableEq κ](f:α→κ)(g:α→Int)(l:List α):∀(G:List (κ×List Int)),(∀q∈G,0<q.2.length)→∀p∈l.foldl (fun G x=>addG (f x) (g x) G) G,0<p.2.length:=by
 induction l with
 | nil=>intro G h;exact h
 | cons x l ih=>intro G h;exact ih _ (si (f x) (g x) G h)
theorem mh (l:List En):∀p∈gpM l,0<p.2.length:=sj spM En.amt l [] (by simp)
theorem bE {κ:Type}{w:World}{M:Nat}{enc:κ→Value}{D:List (κ×Value)}{base:Nat}{e:TypeId}{sz:Nat}{x:Value}{n:Nat}{xs:List Value}(h:MapB w M enc D)(ho:w.ownsRow base e sz x n xs):∀k,x.ownBlock=some k→k≠M:=by
 rintro k a rfl;obtain ⟨_,ho2⟩:=ho;rcases ho2 with ⟨rfl,_⟩ | ⟨j,cap,cur,rfl,_,hh,_⟩
 ·simp [Value.ownBlock] at a
 ·simp [Value.ownBlock] at a
  subst a;unfold MapB mkMap at h;rw [h] at hh;cases hh
theorem bq {κ:Type}{w:World}{M g:Nat}{enc:κ→Value}{D:List (κ×Value)}{T:TypeId}{cs:Array Value}(h:MapB w M enc D)(hb:Blk w g T cs):g≠M:=by
 rintro rfl;unfold MapB mkMap at h;unfold Blk at hb;rw [h] at hb;cases hb
theorem aR {w:World}{base base':Nat}{e e':TypeId}{sz sz':Nat}{x x':Value}{n n':Nat}{xs xs':List Value}(h:w.ownsRow base e sz x n xs)(h':w.ownsRow base' e' sz' x' n' xs')(hT:e≠e'):∀k,x.ownBlock=some k→∀k',x'.ownBlock=some k'→k≠k':=by
 rintro k b k' a rfl;obtain ⟨_,ho2⟩:=h;obtain ⟨_,ho3⟩:=h';rcases ho2 with ⟨rfl,_⟩ | ⟨j,cap,cur,rfl,_,hh,_⟩
 ·simp [Value.ownBlock] at b
 ·rcases ho3 with ⟨rfl,_⟩ | ⟨j',cap',cur',rfl,_,hh',_⟩
  ·simp [Value.ownBlock] at a
  ·simp [Value.ownBlock] at b a
   subst b a;rw [hh] at hh';cases hh'
   exact hT rfl
theorem Rws.ownAt {w:World}{B:Nat}{vs:List Value}{zs:List (List Int)}(h:Rws w B vs zs){v:Value}(hv:v∈vs):∃n xs,w.ownsRow B 2 1 v n xs:=by
 obtain ⟨i,a,rfl⟩:=Ao hv;exact ⟨_,_,h.own i a (by rw [←h.len];exact a)⟩
theorem Mod.grown {w w':World}{row:Option Nat}(h:w.grownBy w' row):∀k,k<w.heap.size→row≠some k→w'.heap[k]?=w.heap[k]?:=fun k hk hne=>h.block k hk (fun e=>hne e.symm)
theorem Sl.oneJ (w:World)(n:Int):Sl eI 1 (w.alloc (.cells #[.int .i64 n] 2)) (.slice (some ⟨w.heap.size,0,none⟩) 1 1) [n]:=by
 refine ⟨some ⟨w.heap.size,0,none⟩,1,rfl,(fun h=>by cases h),by simp,by unfold maxLen;omega,fun _=>⟨w.heap.size,0,rfl,by simp,fun i hi j u hu=>?_⟩⟩;have a:i=0:=by simpa using hi
 subst a;rw [Nat.zero_mul,Av,(Blk.new w 2 #[.int .i64 n]).c j];simpa [eI] using hu
structure Mid (w W:World)(M A X:Nat)(x:En)(vo:Value)(O:List Sp)(D:List (Sp×Value))(av:List Value)(R:List Value)(Z:List (List Int)):Prop where
 map:MapB W M vSp D
 ast:Blk W A 45 av.toArray
 ord:W.ownsRow w.heap.size 369 3 vo O.length (flat eSp O)
 rows:Rws W w.heap.size R Z
 xb:Blk W X 231 (cEn x)
 sb:Blk W (X+1) 369 (cSp (spM x))
 low:Bw w W
 hM:w.heap.size≤M
 hA:w.heap.size≤A
 hX:w.heap.size≤X
 hso:∀g,vo.ownBlock=some g→g≠X+1
section
variable {w W W':World}{M A X:Nat}{x:En}{vo:Value}{O:List Sp}{D:List (Sp×Value)}{av R:List Value}{Z:List (List Int)}
theorem Mid.alloc (h:Mid w W M A X x vo O D av R Z)(o:Obj):Mid w (W.alloc o) M A X x vo O D av R Z:=
 have b:Bw W (W.alloc o):=Bn;⟨h.map.keep b,h.ast.keep b,ah h.ord b,h.rows.keep b,h.xb.keep b,h.sb.keep b,h.low.trans (b.mono h.low.size),h.hM,h.hA,h.hX,h.hso⟩
theorem Mid.growO (h:Mid w W M A X x vo O D av R Z){vo':Value}{O':List Sp}(hg:W.grownBy W' vo.ownBlock)(ho:W'.ownsRow w.heap.size 369 3 vo' O'.length (flat eSp O'))(hat:vo'.ownBlock=vo.ownBlock∨vo'.ownBlock=some W.heap.size):Mid w W' M A X x vo' O' D av R Z:=by
 have a:∀k,k<W.heap.size→vo.ownBlock≠some k→W'.heap[k]?=W.heap[k]?:=Mod.grown hg;refine ⟨h.map.heap (a M h.map.lt fun e=>bE h.map h.ord M e rfl),(a A h.ast.lt fun e=>aD h.ast h.ord (by decide) A e rfl).trans h.ast,ho,h.rows.heap fun v hv g hgv=>a g (h.rows.lt v hv g hgv).2 fun e=>?_,(a X h.xb.lt fun e=>aD h.xb h.ord (by decide) X e rfl).trans h.xb,(a (X+1) h.sb.lt fun e=>h.hso _ e rfl).trans h.sb,h.low.grown hg h.low.size (cR h.ord),h.hM,h.hA,h.hX,fun g hgo=>?_⟩
 ·obtain ⟨n,c,b⟩:=h.rows.ownAt hv;exact aR b h.ord (by decide) g hgv g e rfl
 ·rcases hat with e | e
  ·exact h.hso g (e ▸ hgo)
  ·have:=h.sb.lt
   rw [e] at hgo;simp at hgo;omega
theorem Mid.put (h:Mid w W M A X x vo O D av R Z)(D':List (Sp×Value)):Mid w (pOb W M (mkMap vSp D')) M A X x vo O D' av R Z:=by
 have a:∀k,k≠M→(pOb W M (mkMap vSp D')).heap[k]?=W.heap[k]?:=fun k hk=>bj W M k _ hk
 exact ⟨h.map.put,(a A (bq h.map h.ast)).trans h.ast,au h.ord fun g hg=>a g (bE h.map h.ord g hg),h.rows.heap fun v hv g hg=>a g (by
  obtain ⟨n,c,b⟩:=h.rows.ownAt hv;exact bE h.map b g hg),(a X (bq h.map h.xb)).trans h.xb,(a (X+1) (bq h.map h.sb)).trans h.sb,⟨h.low.os,h.low.tape,h.low.output,by simpa [pOb] using h.low.size,fun k hk=>(a k (by have:=h.hM;omega)).trans (h.low.block k hk)⟩,h.hM,h.hA,h.hX,h.hso⟩
theorem Mid.growR (h:Mid w W M A X x vo O D av R Z)(i:Nat)(hi:i<R.length)(hz:i<Z.length){v':Value}{zs':List Int}(hg:W.grownBy W' R[i].ownBlock)(ho:W'.ownsRow w.heap.size 2 1 v' zs'.length (flat eI zs'))(hat:v'.ownBlock=R[i].ownBlock∨v'.ownBlock=some W.heap.size):Mid w W' M A X x vo O D av (R.set i v') (Z.set i zs'):=by
 have b:=h.rows.own i hi hz;have a:∀k,k<W.heap.size→R[i].ownBlock≠some k→W'.heap[k]?=W.heap[k]?:=Mod.grown hg;exact ⟨h.map.heap (a M h.map.lt fun e=>bE h.map b M e rfl),(a A h.ast.lt fun e=>aD h.ast b (by decide) A e rfl).trans h.ast,au h.ord fun g hgo=>a g (h.ord.lt g hgo).2 fun e=>aR b h.ord (by decide) g e g hgo rfl,h.rows.set i hi hz v' zs' hg ho hat,(a X h.xb.lt fun e=>aD h.xb b (by decide) X e rfl).trans h.xb,(a (X+1) h.sb.lt fun e=>aD h.sb b (by decide) (X+1) e rfl).trans h.sb,h.low.grown hg h.low.size (cR b),h.hM,h.hA,h.hX,h.hso⟩
theorem Mid.push (h:Mid w W M A X x vo O D av R Z):Mid w W M A X x vo O D av (R++[.slice none 0 0]) (Z++[[]]):=⟨h.map,h.ast,h.ord,h.rows.push,h.xb,h.sb,h.low,h.hM,h.hA,h.hX,h.hso⟩
theorem Mid.setA (h:Mid w W M A X x vo O D av R Z)(a:Nat)(v:Value):Mid w (W.setCell ⟨A,a,none⟩ v) M A X x vo O D (av.set a v) R Z:=by
 have b:∀k,k≠A→(W.setCell ⟨A,a,none⟩ v).heap[k]?=W.heap[k]?:=fun k hk=>An W ⟨A,a,none⟩ v k hk
 refine ⟨h.map.heap (b M (Ne.symm (bq h.map h.ast))),?_,au h.ord fun g hg=>b g (aD h.ast h.ord (by decide) g hg),h.rows.heap fun u hu g hg=>b g (by
  obtain ⟨n,d,c⟩:=h.rows.ownAt hu;exact aD h.ast c (by decide) g hg),(b X (h.xb.ne h.ast (by decide))).trans h.xb,(b (X+1) (h.sb.ne h.ast (by decide))).trans h.sb,⟨h.low.os,h.low.tape,h.low.output,by simpa [World.setCell] using h.low.size,fun k hk=>(b k (by have:=h.hA;omega)).trans (h.low.block k hk)⟩,h.hM,h.hA,h.hX,h.hso⟩
 have:=h.ast.set a v
 simpa using this
end
theorem iB {l:List En}{w W:World}{k M A X an:Nat}{x:En}{vo v9:Value}{av bv':List Value}{gz:List (List Int)}{zs:List Int}(h:Mid w W M A X x vo ((addG (spM x) x.amt (gpM (l.take k))).map (·.1)) (List.zipWith (fun g v=>(g.1,v)) (addG (spM x) x.amt (gpM (l.take k))) bv') av ((av++bv').set an v9) ((asM (l.take k)++gz).set an (zs++[x.amt])))
  (htk:l.take (k+1)=l.take k++[x]) (hbv:bv'.length=(addG (spM x) x.amt (gpM (l.take k))).length) (hgz:(addG (spM x) x.amt (gpM (l.take k))).map (fun p:Sp×List Int=>p.2)=gz) (han:x.ass=(an:Int)) (han9:an<9) (hzs:((l.take k).filter fun x=>decide (x.ass=(an:Int))).map (·.amt)=zs) (hal:av.length=9) :
  Gath l w (W.setCell ⟨A,an,none⟩ v9) (k+1) M A vo bv' (av.set an v9):=by
 have a:=h.setA an v9;have b:gpM (l.take (k+1))=addG (spM x) x.amt (gpM (l.take k)):=by rw [htk,j4]
 have d:asM (l.take (k+1))=(asM (l.take k)).set an (zs++[x.amt]):=by rw [htk,j5 (l.take k) x an han9 han,hzs]
 refine ⟨by rw [b];exact hbv,by simp [hal],by rw [b];exact a.map,a.ast,?_,?_,a.low,a.hM,a.hA⟩
 ·have:=a.ord
  rw [Ad] at this;rw [b];exact this
 ·have c:=a.rows;rw [List.set_append_left _ _ (by omega),List.set_append_left _ _ (by rw [aM];exact han9)] at c;rw [b,d,hgz];exact c
theorem ju (v:Value)(l:List En)(w:World)(hv:Sl eEn 4 w v l)(hn:l.length≤1024)(ha:∀x∈l,0≤x.ass∧x.ass<9):Calls Tryz.prog 280 #[v] w (GathPost l w):=by
 obtain ⟨a,bB,rfl,_,bz,bh,al⟩:=hv;unfold maxLen at bh;have aK:=aa al;have HA:=aa ha;clear al ha;obtain ⟨i0,hi,hz0,hz1,hz2⟩:=info_parts zk;obtain ⟨j0,hj,jz0,jz1,jz2⟩:=info_parts cT;have bx:∀w:World,(Instr.makeMap 364 none).run Tryz.prog w=.ok (.map (some w.heap.size)) (w.alloc (.map #[] 0)):=fun w=>rfl
 have bs:∀w:World,(Instr.makeSlice 313 (.int .i64 9) (.int .i64 9)).run Tryz.prog w=.ok (.slice (some ⟨w.heap.size,0,none⟩) 9 9) (w.alloc (.cells (List.replicate 9 (.slice none 0 0)).toArray 45)):=fun w=>by kernel_rfl
 have h0:Gath l w ((w.alloc (.map #[] 0)).alloc (.cells (List.replicate 9 (.slice none 0 0)).toArray 45)) 0 w.heap.size (w.heap.size+1) (.slice none 0 0) [] (List.replicate 9 (.slice none 0 0)):=by
  have b1:Bw w (w.alloc (.map #[] 0)):=Bn;refine ⟨by simp [gpM],by simp,?_,?_,⟨by simp [gpM,flat],Or.inl ⟨rfl,by simp [gpM]⟩⟩,?_,b1.alloc b1.size _,zY _,by omega⟩
  ·unfold MapB;rw [Below.heap_alloc _ _ _ (by simp),heap_alloc_new];rfl
  ·have:=Blk.new (w.alloc (.map #[] 0)) 45 (List.replicate 9 (.slice none 0 0)).toArray
   simpa using this
  ·have:=Rws.nils ((w.alloc (.map #[] 0)).alloc (.cells (List.replicate 9 (.slice none 0 0)).toArray 45)) w.heap.size 9
   have e:asM (l.take 0)++(gpM (l.take 0)).map (·.2)=List.replicate 9 []:=rfl;rw [e,Bm];exact this
 have H0:=aa h0;clear h0;go_enter Tryz.func280,Tryz.ntmps280;go_wp2_with fail;go_loopw [7,15] (fun vo vi wr=>∃(k:Nat) (L z:List Value),k≤l.length∧vi=.int .i64 k∧Gath l w wr k w.heap.size (w.heap.size+1) vo L z) (fun _ vi _=>l.length - (intOf vi).toNat)
 case atStart=>exact ⟨0,[],_,Af _,rfl,H0.o⟩
 case round=>
  obtain ⟨k,L,z,hk,rfl,hG⟩:=hrel;have Y:=aa hG;clear hG;by_cases hlt:k<l.length
  ·obtain ⟨b,aw,rfl,ay,a8⟩:=aK.o (by omega);obtain ⟨q0,q1,q2,q3⟩:=atEn (a8 k hlt);have P:=Y.o.low;have r0:=(P.c (p:=⟨b,aw+k * 4,none⟩) ay).trans q0;have r1:=(P.c (p:=⟨b,aw+k * 4+1,none⟩) ay).trans q1;have r2:=(P.c (p:=⟨b,aw+k * 4+2,none⟩) ay).trans q2;have r3:=(P.c (p:=⟨b,aw+k * 4+3,none⟩) ay).trans q3;clear a8 q0 q1 q2 q3 P;have bw:(0:Int)≤(k:Int):=by omega
   have bA:(k:Int)<(l.length:Int):=by omega
   obtain ⟨x,hx⟩:∃x,l[k]=x:=⟨_,rfl⟩;rw [hx] at r0 r1 r2 r3;have HX:=aa hx;clear hx;have a0:=ag Y.o.ord;obtain ⟨n1,k1,rfl⟩:=a0;have t:Hid (Mid w ((wr.alloc (.cells #[.int .i64 x.k,.int .i64 x.m,.int .i64 x.ass,.int .i64 x.amt] 231)).alloc (.cells #[.int .i64 x.k,.int .i64 x.m,.int .i64 x.ass] 369)) w.heap.size (w.heap.size+1) wr.heap.size x (.slice n1 (gpM (l.take k)).length k1) ((gpM (l.take k)).map (·.1)) (List.zipWith (fun g v=>(g.1,v)) (gpM (l.take k)) L) z (z++L) (asM (l.take k)++(gpM (l.take k)).map (·.2))):=aa (by
    have G:=Y.o;have b1:Bw wr (wr.alloc (.cells (cEn x) 231)):=Bn;have b2:=b1.alloc b1.size (.cells (cSp (spM x)) 369);have xb:=Blk.new wr 231 (cEn x);have sb:=Blk.new (wr.alloc (.cells (cEn x) 231)) 369 (cSp (spM x));have bm:(wr.alloc (.cells (cEn x) 231)).heap.size=wr.heap.size+1:=by simp
    rw [bm] at sb;refine ⟨G.map.keep b2,G.ast.keep b2,?_,G.rows.keep b2,xb.alloc _,sb,G.low.trans (b2.mono G.low.size),zY _,by omega,G.low.size,fun g hg=>?_⟩
    ·have:=ah G.ord b2
     rw [Ad];exact this
    ·have:=(G.ord.lt g hg).2
     omega)
   obtain ⟨be,bt⟩:=HA.o x (by rw [←HX.o];exact Ag hlt);obtain ⟨an,han⟩:=Int.eq_ofNat_of_zero_le be;have aB:an<9:=by omega
   have O:=aa han;have aZ:=cK (l.take k);have bf:(gpM (l.take k)).length≤1024:=z5 aZ.1 (by rw [Aa];omega);have bn:=aa aZ;clear han aZ;have a1:Hid (l.take (k+1)=l.take k++[x]):=aa (by rw [z9 hlt,HX.o]);obtain ⟨N,au⟩:∃N,List.zipWith (fun g v=>(g.1,v)) (gpM (l.take k)) L=N:=⟨_,rfl⟩;have a2:=aa au;have aC:N.length=(gpM (l.take k)).length:=by rw [←au,List.length_zipWith,Y.o.blen,Nat.min_self]
   rw [au] at t;obtain ⟨GL,ax⟩:∃GL,(gpM (l.take k)).length=GL:=⟨_,rfl⟩;rw [ax] at aC bf t;have a6:=aa ax;have ai:=aa Y.o.blen;have aW:=ep (spM x) (gpM (l.take k)) L 0 ai.o;rw [au] at aW;have bd:=aa aW;clear au aW;rw [ax];clear ax;go_wp2_with fail;generalize (wr.alloc (.cells #[.int .i64 x.k,.int .i64 x.m,.int .i64 x.ass,.int .i64 x.amt] 231)).alloc (.cells #[.int .i64 x.k,.int .i64 x.m,.int .i64 x.ass] 369)=W1 at t ⊢;have K:=bi ol Tryz.underlying364 (.slice none 0 0) Tryz.zeroValue45 W1 w.heap.size _ (spM x) t.o.map;rcases bd.o with ⟨hL,hadd⟩ | ⟨n,hn1,hn2,hL,hkey,hadd⟩
   ·rw [hL] at K;change (Instr.lookup 364 (.map (some w.heap.size)) (.agg #[.int .i64 x.k,.int .i64 x.m,.int .i64 x.ass]) false).run Tryz.prog W1=.ok (.slice none 0 0) W1 at K
    have C:=aa (hadd x.amt);have HL:=aa hL;have c0:=t.o.sb.c 0;have c1:=t.o.sb.c 1;have c2:=t.o.sb.c 2;simp only [spM] at c0 c1 c2;clear hadd hL r0 r1 r2 r3;have ac:=aa (t.o.alloc (.cells #[.int .i64 x.k,.int .i64 x.m,.int .i64 x.ass] 369));rw [K];dsimp only [Result.andThen];rw [Oper.upon_value];clear K;go_wp2_with (at_builtin;refine wpList_append_own_at _ rfl _ _ 365 rfl w.heap.size 369 i0 (.agg #[.int .i64 0,.int .i64 0,.int .i64 0]) 3 24 Tryz.underlying365 hi hz0 hz1 hz2 rfl (by decide) _ GL (flat eSp ((gpM (l.take k)).map (·.1))) rfl (by have:=ac.o.ord;rw [Ad,a6.o] at this;exact this) ⟨W1.heap.size,0,none⟩ 1 1 (eSp (spM x)) rfl rfl ?c1 ?c2 ?c3 ?c4 ?c5 ?_)
    case c1=>exact newSp W1 (spM x) _ rfl
    case c2=>exact oneSp _
    case c3=>unfold maxLen;omega
    case c4=>omega
    case c5=>have:=t.o.low.size;simp;omega
    intro vo' W3 q d _ D;have H:=aa (ac.o.growO (vo':=vo') (O':=(gpM (l.take k)).map (·.1)++[spM x]) d (by rw [z8,Ad,aI,a6.o];simpa [flat] using q) (by simpa using D));have bp:=ag q;obtain ⟨n3,k3,rfl⟩:=bp;have c0:=H.o.sb.c 0;have c1:=H.o.sb.c 1;have c2:=H.o.sb.c 2;simp only [spM] at c0 c1 c2;have c6:=H.o.xb.c 3;clear q d D t ac;go_wp2_with fail;have A:=aa (H.o.alloc (.cells #[.int .i64 x.amt] 2));have R:=aa (Blk.new W3 2 #[.int .i64 x.amt]);have bk:=H.o.low.size;clear H c0 c1 c2 c6;generalize ad:W3.alloc (.cells #[.int .i64 x.amt] 2)=W4 at A R ⊢;have W:=ek ol Tryz.underlying364 (.slice none 0 0) Tryz.zeroValue45 W4 w.heap.size N (spM x) A.o.map HL.o;change (Instr.mapEntry 364 (.map (some w.heap.size)) (.agg #[.int .i64 x.k,.int .i64 x.m,.int .i64 x.ass])).run Tryz.prog W4=_ at W
    rw [W];dsimp only [Result.andThen];rw [Oper.upon_value];have S:=aa (A.o.put (N++[(spM x,.slice none 0 0)])).push;have aL:Hid (Blk (pOb W4 w.heap.size (mkMap vSp (N++[(spM x,.slice none 0 0)]))) W3.heap.size 2 #[.int .i64 x.amt]):=aa ((bj _ _ _ _ (bq A.o.map R.o)).trans R.o);have aX:w.heap.size≤(pOb W4 w.heap.size (mkMap vSp (N++[(spM x,.slice none 0 0)]))).heap.size:=S.o.low.size;clear W A R ad;generalize pOb W4 w.heap.size (mkMap vSp (N++[(spM x,.slice none 0 0)]))=W5 at S aL aX ⊢;go_wp2_with (at_builtin;refine wpList_append_own_at _ rfl _ _ 45 rfl w.heap.size 2 j0 (.int .i64 0) 1 8 Tryz.underlying45 hj jz0 jz1 jz2 rfl (by decide) (.slice none 0 0) 0 [] rfl ⟨rfl,Or.inl ⟨rfl,rfl⟩⟩ ⟨W3.heap.size,0,none⟩ 1 1 [.int .i64 x.amt] rfl rfl ?c1 ?c2 ?c3 ?c4 ?c5 ?_)
    case c1=>intro j u hu;rw [Aj,Av,aL.o.c j];simpa using hu
    case c2=>intro u hu;simp at hu;subst hu;rfl
    case c3=>unfold maxLen;omega
    case c4=>omega
    case c5=>exact aX
    intro v6 W6 q d _ D;have F:=aa (S.o.growR (z++L).length (by simp) (by rw [←S.o.rows.len];simp) (v':=v6) (zs':=[x.amt]) (by simpa using d) (by simpa [flat,eI] using q) (by simpa using D));have aP:=ag q;obtain ⟨n6,k6,rfl⟩:=aP;clear q d D S aL aX;go_wp2_with fail;have V:=bu W6 w.heap.size _ GL (spM x) (.slice none 0 0) (.slice n6 1 k6) F.o.map (by rw [←aC];simp) 364;change (Instr.entryStore 364 (.map (some w.heap.size)) (.int .i64 (GL:Nat)) (.slice n6 1 k6)).run Tryz.prog W6=_ at V
    rw [V];dsimp only [Result.andThen];rw [Oper.upon_skip];obtain ⟨r,B⟩:∃r,L++[Value.slice n6 1 k6]=r:=⟨_,rfl⟩;obtain ⟨gz,hgz⟩:∃gz,(addG (spM x) x.amt (gpM (l.take k))).map (fun p:Sp×List Int=>p.2)=gz:=⟨_,rfl⟩;have af:Mid w (pOb W6 w.heap.size (mkMap vSp ((N++[(spM x,Value.slice none 0 0)]).set GL (spM x,Value.slice n6 1 k6)))) w.heap.size (w.heap.size+1) wr.heap.size x (.slice n3 (GL+1) k3) ((addG (spM x) x.amt (gpM (l.take k))).map (·.1)) (List.zipWith (fun g v=>(g.1,v)) (addG (spM x) x.amt (gpM (l.take k))) r) z (z++r) (asM (l.take k)++gz):=by
     have h:=F.o.put ((N++[(spM x,Value.slice none 0 0)]).set GL (spM x,Value.slice n6 1 k6));have e1:(N++[(spM x,Value.slice none 0 0)]).set GL (spM x,Value.slice n6 1 k6)=List.zipWith (fun g v=>(g.1,v)) (addG (spM x) x.amt (gpM (l.take k))) r:=by
      rw [←aC,C.o,←B,List.zipWith_append ai.o.symm,a2.o];simp
     have e2:(z++L++[Value.slice none 0 0]).set (z++L).length (Value.slice n6 1 k6)=z++r:=by rw [←B];simp
     have hl:=F.o.rows.len;have e3:(asM (l.take k)++(gpM (l.take k)).map (fun p:Sp×List Int=>p.2)++[[]]).set (z++L).length [x.amt]=asM (l.take k)++gz:=by
      have e4:(z++L).length=(asM (l.take k)++(gpM (l.take k)).map (fun p:Sp×List Int=>p.2)).length:=by
       simp only [z8,Ad,aM,Y.o.alen,ai.o]
      rw [e4,←hgz,C.o];simp
     have e5:(addG (spM x) x.amt (gpM (l.take k))).map (·.1)=(gpM (l.take k)).map (·.1)++[spM x]:=by rw [C.o];simp
     rw [e1] at h ⊢;rw [e2,e3] at h;rw [e5];exact h
    have aD:Hid (r.length=(addG (spM x) x.amt (gpM (l.take k))).length):=aa (by rw [←B,C.o];simp [ai.o]);have aG:=aa hgz;clear hgz B V F;have f:=aa af;clear af;generalize pOb W6 w.heap.size (mkMap vSp ((N++[(spM x,Value.slice none 0 0)]).set GL (spM x,Value.slice n6 1 k6)))=W7 at f ⊢;have aT:=Y.o.alen;have a7:=aM (l.take k);have aj:an<(asM (l.take k)++gz).length:=by rw [z8];omega
    have ae:an<(z++r).length:=by rw [z8];omega
    have s:=f.o.rows.own an ae aj;have M:(z++r)[an]=z[an]'(by omega):=List.getElem_append_left (by omega);have X:(asM (l.take k)++gz)[an]=(((l.take k).filter fun x=>decide (x.ass=(an:Int))).map (·.amt)):=by rw [List.getElem_append_left (by omega)];exact cu _ _ (by omega) (by omega)
    rw [M,X] at s;have aH:(((l.take k).filter fun x=>decide (x.ass=(an:Int))).map (·.amt)).length≤1024:=by rw [Ad];exact z5 (AV _ _) (by rw [Aa];omega)
    obtain ⟨Q,I⟩:∃Q,(((l.take k).filter fun x=>decide (x.ass=(an:Int))).map (·.amt))=Q:=⟨_,rfl⟩;rw [I] at s aH X;have aU:=aa I;clear I;obtain ⟨va,hva⟩:∃va,z[an]'(by omega)=va:=⟨_,rfl⟩;rw [hva] at s M;have T:=aa hva;have ar:=aa M;have hf:=ag s;obtain ⟨n8,k8,rfl⟩:=hf;have ao:=aa s;have e0:W7.cell? ⟨w.heap.size+1,an,none⟩=some (.slice n8 Q.length k8):=by
     rw [f.o.ast.c an,AM,Ab (by omega),T.o]
    have d2:W7.cell? ⟨wr.heap.size,2,none⟩=some (.int .i64 (an:Nat)):=by
     have h:=f.o.xb.c 2;have e:x.ass=(an:Int):=O.o;simpa [e] using h
    have d3:W7.cell? ⟨wr.heap.size,3,none⟩=some (.int .i64 x.amt):=f.o.xb.c 3;have aJ:(W7.alloc (.cells #[.int .i64 x.amt] 2)).cell? ⟨w.heap.size+1,an,none⟩=some (.slice n8 Q.length k8):=by
     rw [(f.o.alloc _).ast.c an,AM,Ab (by omega),T.o]
    have aQ:(W7.alloc (.cells #[.int .i64 x.amt] 2)).cell? ⟨wr.heap.size,2,none⟩=some (.int .i64 (an:Nat)):=by
     have h:=(f.o.alloc (.cells #[.int .i64 x.amt] 2)).xb.c 2;have e:x.ass=(an:Int):=O.o;rw [h];simp [e]
    have aN:(W7.alloc (.cells #[.int .i64 x.amt] 2)).cell? ⟨wr.heap.size,3,none⟩=some (.int .i64 x.amt):=(f.o.alloc _).xb.c 3;have bo:(an:Int)<9:=by omega
    have bc:(0:Int)≤(an:Int):=by omega
    have bg:=f.o.low.size;have aF:=aa aj;have aV:=aa ae;have ap:=aa aT;clear s hva M X;go_wp2_with fail;go_region_law ((refine aS kI (by decide) dL _ (by rfl) _ _ 45 (by rfl) w.heap.size 2 j0 (.int .i64 0) 8 Tryz.underlying45 hj jz0 jz1 jz2 (by rfl) (.slice n8 Q.length k8) Q (by rfl) (by exact ao.o.alloc _) (some ⟨W7.heap.size,0,none⟩) 1 1 [x.amt] (by rfl) (by rfl) (by exact Sl.oneJ _ x.amt) (by simp only [Ai];unfold maxLen;omega) (by simp only [Ai];omega) (by simp;omega) ?_;intro v9 W9 q d D;have y:=aa ((f.o.alloc (.cells #[.int .i64 x.amt] 2)).growR (W':=W9) an aV.o aF.o (v':=v9) (zs':=Q++[x.amt]) (by rw [ar.o];exact ⟨d.os,d.tape,d.output,d.size,d.block⟩) (by exact q) (by rw [ar.o];exact D));have aE:=ag q;obtain ⟨n9,k9,rfl⟩:=aE;have e9:=y.o.ast.c an;have f9:=y.o.ast.free an;rw [AM,Ab (by have:=ap.o;omega),T.o] at e9;have x9:W9.cell? ⟨wr.heap.size,2,none⟩=some (.int .i64 (an:Nat)):=(by rw [y.o.xb.c 2];have e:x.ass=(an:Int):=O.o;simp [e])))
    all_goals
     have U:=aa (iB (l:=l) (k:=k) y.o a1.o aD.o aG.o O.o aB aU.o ap.o);rw [z8,Ai] at U;clear q d D e9 f9 x9 y e0 aJ d2 aQ d3 aN;generalize W9.setCell ⟨w.heap.size+1,an,none⟩ (.slice n9 (Q.length+1) k9)=W10 at U ⊢;go_wp2_with fail;go_roundw
     case rel=>exact ⟨k+1,r,_,by omega,by go_num,U.o⟩
     case measure=>simp [intOf];omega
   ·rw [hL] at K;have aO:(gpM (l.take k))[n]∈gpM (l.take k):=Ag hn1;have ba:=mh (l.take k) _ aO;have a4:=(bn.o.2 _ aO);rw [Aa] at a4;have am:z.length+n<(z++L).length:=by rw [z8];omega
    have aA:z.length+n<(asM (l.take k)++(gpM (l.take k)).map (fun p:Sp×List Int=>p.2)).length:=by rw [←t.o.rows.len];exact am
    have E:=t.o.rows.own (z.length+n) am aA;have Z:(z++L)[z.length+n]=L[n]:=by rw [List.getElem_append_right (by omega)];simp
    have ab:(asM (l.take k)++(gpM (l.take k)).map (fun p:Sp×List Int=>p.2))[z.length+n]=(gpM (l.take k))[n].2:=by
     rw [List.getElem_append_right (by rw [aM,Y.o.alen];omega)];simp only [aM,Y.o.alen,Nat.add_sub_cancel_left,AW]
    rw [Z,ab] at E;obtain ⟨J,aY⟩:∃J,(gpM (l.take k))[n].2=J:=⟨_,rfl⟩;rw [aY] at E ba a4 ab;obtain ⟨vb,hvb⟩:∃vb,L[n]=vb:=⟨_,rfl⟩;rw [hvb] at E K Z hL;have bl:=ag E;obtain ⟨nb,kb,rfl⟩:=bl;change (Instr.lookup 364 (.map (some w.heap.size)) (.agg #[.int .i64 x.k,.int .i64 x.m,.int .i64 x.ass]) false).run Tryz.prog W1=.ok (.slice nb J.length kb) W1 at K
    have C:=aa (hadd x.amt);have HL:=aa hL;have a3:=aa hkey;have bb:=aa aY;have ak:=aa Z;have a5:=aa ab;have az:=aa E;have c0:=t.o.sb.c 0;have c1:=t.o.sb.c 1;have c2:=t.o.sb.c 2;simp only [spM] at c0 c1 c2;have c6:=t.o.xb.c 3;clear hadd hL hkey aO aY Z ab E r0 r1 r2 r3;have br:((J.length:Int)==0)=false:=beq_eq_false_iff_ne.2 (by omega);rw [K];dsimp only [Result.andThen];rw [Oper.upon_value];clear K;go_wp2_with fail;have A:=aa (t.o.alloc (.cells #[.int .i64 x.amt] 2));have R:=aa (Blk.new W1 2 #[.int .i64 x.amt]);have bk:=t.o.low.size;have aq:=aa (az.o.alloc (.cells #[.int .i64 x.amt] 2));have aR:w.heap.size≤(W1.alloc (.cells #[.int .i64 x.amt] 2)).heap.size:=by simp;omega
    clear t c0 c1 c2 c6 az;generalize ad:W1.alloc (.cells #[.int .i64 x.amt] 2)=W4 at A R aq aR ⊢;have W:=ei ol Tryz.underlying364 W4 w.heap.size N (spM x) n (.slice nb J.length kb) A.o.map (by rw [HL.o,Av]);change (Instr.mapEntry 364 (.map (some w.heap.size)) (.agg #[.int .i64 x.k,.int .i64 x.m,.int .i64 x.ass])).run Tryz.prog W4=.ok (.tuple #[.slice nb J.length kb,.int .i64 (n:Nat)]) W4 at W
    rw [W];dsimp only [Result.andThen];rw [Oper.upon_value];clear W ad;go_wp2_with (at_builtin;refine wpList_append_own_at _ rfl _ _ 45 rfl w.heap.size 2 j0 (.int .i64 0) 1 8 Tryz.underlying45 hj jz0 jz1 jz2 rfl (by decide) (.slice nb J.length kb) J.length (flat eI J) rfl aq.o ⟨W1.heap.size,0,none⟩ 1 1 [.int .i64 x.amt] rfl rfl ?c1 ?c2 ?c3 ?c4 ?c5 ?_)
    case c1=>intro j u hu;rw [Aj,Av,R.o.c j];simpa using hu
    case c2=>intro u hu;simp at hu;subst hu;rfl
    case c3=>unfold maxLen;omega
    case c4=>omega
    case c5=>exact aR
    intro v6 W6 q d _ D;have F:=aa (A.o.growR (z.length+n) am aA (v':=v6) (zs':=J++[x.amt]) (by rw [ak.o];exact d) (by rw [z8,aI];exact q) (by rw [ak.o];exact D));have aP:=ag q;obtain ⟨n6,k6,rfl⟩:=aP;clear q d D A R aR aq;go_wp2_with fail;have a9:N[n]?=some (spM x,.slice nb J.length kb):=by
     obtain ⟨m,hm,hD⟩:=cj HL.o;obtain rfl:n=m:=by omega
     exact hD
    have V:=bu W6 w.heap.size _ n (spM x) (.slice nb J.length kb) (.slice n6 (J.length+1) k6) F.o.map a9 364;change (Instr.entryStore 364 (.map (some w.heap.size)) (.int .i64 (n:Nat)) (.slice n6 (J.length+1) k6)).run Tryz.prog W6=_ at V
    rw [V];dsimp only [Result.andThen];rw [Oper.upon_skip];obtain ⟨r,B⟩:∃r,L.set n (Value.slice n6 (J.length+1) k6)=r:=⟨_,rfl⟩;obtain ⟨gz,hgz⟩:∃gz,(addG (spM x) x.amt (gpM (l.take k))).map (fun p:Sp×List Int=>p.2)=gz:=⟨_,rfl⟩;have af:Mid w (pOb W6 w.heap.size (mkMap vSp (N.set n (spM x,Value.slice n6 (J.length+1) k6)))) w.heap.size (w.heap.size+1) wr.heap.size x (.slice n1 GL k1) ((addG (spM x) x.amt (gpM (l.take k))).map (·.1)) (List.zipWith (fun g v=>(g.1,v)) (addG (spM x) x.amt (gpM (l.take k))) r) z (z++r) (asM (l.take k)++gz):=by
     have h:=F.o.put (N.set n (spM x,Value.slice n6 (J.length+1) k6));have e1:N.set n (spM x,Value.slice n6 (J.length+1) k6)=List.zipWith (fun g v=>(g.1,v)) (addG (spM x) x.amt (gpM (l.take k))) r:=by
      rw [C.o,←B,←a2.o];apply AY
      intro i;simp only [List.getElem?_set,List.getElem?_zipWith,List.length_zipWith];by_cases hi:n=i
      ·subst hi;simp [hn1,hn2,Nat.lt_min]
      ·simp [hi]
     have e2:(z++L).set (z.length+n) (Value.slice n6 (J.length+1) k6)=z++r:=by rw [←B,List.set_append_right _ _ (by omega)];simp
     have e3:(asM (l.take k)++(gpM (l.take k)).map (fun p:Sp×List Int=>p.2)).set (z.length+n) (J++[x.amt])=asM (l.take k)++gz:=by
      rw [List.set_append_right _ _ (by rw [aM,Y.o.alen];omega),aM,Y.o.alen,Nat.add_sub_cancel_left,←hgz,C.o,List.map_set,bb.o]
     have e5:(addG (spM x) x.amt (gpM (l.take k))).map (·.1)=(gpM (l.take k)).map (·.1):=by
      rw [C.o,List.map_set];apply AY
      intro i;rw [List.getElem?_set];by_cases hi:n=i
      ·subst hi;rw [if_pos rfl,if_pos (by simpa using hn1),List.getElem?_map,Ab hn1];simp [a3.o]
      ·rw [if_neg hi]
     rw [e1] at h ⊢;rw [e2,e3] at h;rw [e5];exact h
    have aD:Hid (r.length=(addG (spM x) x.amt (gpM (l.take k))).length):=aa (by rw [←B,C.o];simp [ai.o]);have aG:=aa hgz;clear hgz B V F a9 ak a5;have f:=aa af;clear af;generalize pOb W6 w.heap.size (mkMap vSp (N.set n (spM x,Value.slice n6 (J.length+1) k6)))=W7 at f ⊢;have aT:=Y.o.alen;have a7:=aM (l.take k);have aj:an<(asM (l.take k)++gz).length:=by rw [z8];omega
    have ae:an<(z++r).length:=by rw [z8];omega
    have s:=f.o.rows.own an ae aj;have M:(z++r)[an]=z[an]'(by omega):=List.getElem_append_left (by omega);have X:(asM (l.take k)++gz)[an]=(((l.take k).filter fun x=>decide (x.ass=(an:Int))).map (·.amt)):=by rw [List.getElem_append_left (by omega)];exact cu _ _ (by omega) (by omega)
    rw [M,X] at s;have aH:(((l.take k).filter fun x=>decide (x.ass=(an:Int))).map (·.amt)).length≤1024:=by rw [Ad];exact z5 (AV _ _) (by rw [Aa];omega)
    obtain ⟨Q,I⟩:∃Q,(((l.take k).filter fun x=>decide (x.ass=(an:Int))).map (·.amt))=Q:=⟨_,rfl⟩;rw [I] at s aH X;have aU:=aa I;clear I;obtain ⟨va,hva⟩:∃va,z[an]'(by omega)=va:=⟨_,rfl⟩;rw [hva] at s M;have T:=aa hva;have ar:=aa M;have hf:=ag s;obtain ⟨n8,k8,rfl⟩:=hf;have ao:=aa s;have e0:W7.cell? ⟨w.heap.size+1,an,none⟩=some (.slice n8 Q.length k8):=by
     rw [f.o.ast.c an,AM,Ab (by omega),T.o]
    have d2:W7.cell? ⟨wr.heap.size,2,none⟩=some (.int .i64 (an:Nat)):=by
     have h:=f.o.xb.c 2;have e:x.ass=(an:Int):=O.o;simpa [e] using h
    have d3:W7.cell? ⟨wr.heap.size,3,none⟩=some (.int .i64 x.amt):=f.o.xb.c 3;have aJ:(W7.alloc (.cells #[.int .i64 x.amt] 2)).cell? ⟨w.heap.size+1,an,none⟩=some (.slice n8 Q.length k8):=by
     rw [(f.o.alloc _).ast.c an,AM,Ab (by omega),T.o]
    have aQ:(W7.alloc (.cells #[.int .i64 x.amt] 2)).cell? ⟨wr.heap.size,2,none⟩=some (.int .i64 (an:Nat)):=by
     have h:=(f.o.alloc (.cells #[.int .i64 x.amt] 2)).xb.c 2;have e:x.ass=(an:Int):=O.o;rw [h];simp [e]
    have aN:(W7.alloc (.cells #[.int .i64 x.amt] 2)).cell? ⟨wr.heap.size,3,none⟩=some (.int .i64 x.amt):=(f.o.alloc _).xb.c 3;have bo:(an:Int)<9:=by omega
    have bc:(0:Int)≤(an:Int):=by omega
    have bg:=f.o.low.size;have aF:=aa aj;have aV:=aa ae;have ap:=aa aT;clear s hva M X;go_wp2_with fail;go_region_law ((refine aS kI (by decide) dL _ (by rfl) _ _ 45 (by rfl) w.heap.size 2 j0 (.int .i64 0) 8 Tryz.underlying45 hj jz0 jz1 jz2 (by rfl) (.slice n8 Q.length k8) Q (by rfl) (by exact ao.o.alloc _) (some ⟨W7.heap.size,0,none⟩) 1 1 [x.amt] (by rfl) (by rfl) (by exact Sl.oneJ _ x.amt) (by simp only [Ai];unfold maxLen;omega) (by simp only [Ai];omega) (by simp;omega) ?_;intro v9 W9 q d D;have y:=aa ((f.o.alloc (.cells #[.int .i64 x.amt] 2)).growR (W':=W9) an aV.o aF.o (v':=v9) (zs':=Q++[x.amt]) (by rw [ar.o];exact ⟨d.os,d.tape,d.output,d.size,d.block⟩) (by exact q) (by rw [ar.o];exact D));have aE:=ag q;obtain ⟨n9,k9,rfl⟩:=aE;have e9:=y.o.ast.c an;have f9:=y.o.ast.free an;rw [AM,Ab (by have:=ap.o;omega),T.o] at e9;have x9:W9.cell? ⟨wr.heap.size,2,none⟩=some (.int .i64 (an:Nat)):=(by rw [y.o.xb.c 2];have e:x.ass=(an:Int):=O.o;simp [e])))
    all_goals
     have U:=aa (iB (l:=l) (k:=k) y.o a1.o aD.o aG.o O.o aB aU.o ap.o);rw [z8,Ai] at U;clear q d D e9 f9 x9 y e0 aJ d2 aQ d3 aN;generalize W9.setCell ⟨w.heap.size+1,an,none⟩ (.slice n9 (Q.length+1) k9)=W10 at U ⊢;go_wp2_with fail;go_roundw
     case rel=>exact ⟨k+1,r,_,by omega,by go_num,U.o⟩
     case measure=>simp [intOf];omega
  ·obtain rfl:k=l.length:=by omega
   have hf:=ag Y.o.ord;obtain ⟨n1,k1,rfl⟩:=hf;go_wp2_with fail;go_ret3
   exact ⟨_,_,_,L,z,rfl,Y.o⟩
structure Ch where
 place:Int
 free:Bool
 by_:Int
 now:Int
  deriving DecidableEq
abbrev cCh (x:Ch):Array Value:=#[.int .i64 x.place,.bool x.free,.int .i64 x.by_,.int .i64 x.now]
def eCh (x:Ch):List Value:=[.int .i64 x.place,.bool x.free,.int .i64 x.by_,.int .i64 x.now]
theorem kCh (x:Ch):(eCh x).length=4:=rfl
theorem oneCh (x:Ch):∀u∈eCh x,u.oneCell'=true:=by intro u a;simp [eCh] at a;rcases a with rfl | rfl | rfl | rfl <;> rfl
theorem zl:(Tryz.prog.info? 300).map (fun i=>(i.zero,i.size,i.bytes))=some (some (.agg #[.int .i64 0,.bool false,.int .i64 0,.int .i64 0]),4,32):=by kernel_rfl
theorem newCh (W:World)(x:Ch)(b:Nat)(hb:W.heap.size=b):∀j u,(eCh x)[j]?=some u→(W.alloc (.cells (cCh x) 300)).cell? ((⟨b,0,none⟩:Addr).add j)=some u:=by
 subst hb;intro j u a;rw [Aj,Av,(Blk.new W 300 (cCh x)).c j];simpa [eCh] using a
theorem atCh {W:World}{b o:Nat}{x:Ch}(h:∀j u,(eCh x)[j]?=some u→W.cell? ⟨b,o+j,none⟩=some u):W.cell? ⟨b,o,none⟩=some (.int .i64 x.place)∧W.cell? ⟨b,o+1,none⟩=some (.bool x.free)∧W.cell? ⟨b,o+2,none⟩=some (.int .i64 x.by_)∧W.cell? ⟨b,o+3,none⟩=some (.int .i64 x.now):=by
 exact ⟨h 0 _ rfl,h 1 _ rfl,h 2 _ rfl,h 3 _ rfl⟩
theorem Gath.keep {l:List En}{w wr wr':World}{k M A:Nat}{vo:Value}{bv av:List Value}(h:Gath l w wr k M A vo bv av)(hb:Bw wr wr'):Gath l w wr' k M A vo bv av:=
 ⟨h.blen,h.alen,h.map.keep hb,h.ast.keep hb,ah h.ord hb,h.rows.keep hb,h.low.trans (hb.mono h.low.size),h.hM,h.hA⟩
theorem pb {κ:Type} [DecidableEq κ](k:κ)(x:Int)(G:List (κ×List Int)):(addG k x G).map (·.1)=if k∈G.map (·.1) then G.map (·.1) else G.map (·.1)++[k]:=by
 induction G with
 | nil=>simp [addG]
 | cons q G ih=>
  by_cases hk:k=q.1
  ·simp [addG,hk]
  ·simp only [addG,hk,if_false,Am,ih,Aq,false_or];split <;> simp
theorem mi {κ α:Type} [DecidableEq κ](f:α→κ)(g:α→Int)(l:List α):∀(G:List (κ×List Int)),(G.map (·.1)).Nodup→((l.foldl (fun G x=>addG (f x) (g x) G) G).map (·.1)).Nodup:=by
 induction l with
 | nil=>intro G h;exact h
 | cons x l ih=>
  intro G h;refine ih _ ?_;rw [pb];split
  ·exact h
  ·rename_i c
   rw [List.nodup_append];exact ⟨h,by simp,fun a ha b hb=>by simp at hb;subst hb;rintro rfl;exact c ha⟩
theorem jv (l:List En):((gpM l).map (·.1)).Nodup:=mi spM En.amt l [] (by simp)
theorem wH {κ:Type} [DecidableEq κ]:∀(G:List (κ×List Int))(vs:List Value)(j i:Nat)(h1:i<G.length)(h2:i<vs.length),(G.map (·.1)).Nodup→look G[i].1 (List.zipWith (fun g v=>(g.1,v)) G vs) j=some (j+i,vs[i]):=by
 intro G;induction G with
 | nil=>intro vs j i h1;simp at h1
 | cons p G ih=>
  intro vs j i h1 h2 a;cases vs with
  | nil=>simp at h2
  | cons v vs=>
   cases i with
   | zero=>simp [look]
   | succ i=>
    simp only [Am,List.nodup_cons] at a;have c:i<G.length:=by simpa using h1
    have b:G[i].1≠p.1:=by
     intro e;exact a.1 (by rw [←e];exact AD.2 ⟨G[i],Ag _,rfl⟩)
    simp only [A9,List.zipWith_cons_cons,look,b,if_false];rw [ih vs (j+1) i (by simpa using h1) (by simpa using h2) a.2];congr 2
    omega
def spAc (s:Sp):Ac:=⟨s.k,s.m⟩
def chg1 (ms na:Nat)(bl:List Int)(p:Sp×List Int):Int×Ch:=
 if (sumM p.2).2=0 then
  if (fitM (bl.getD (plM ms na (spAc p.1) p.1.ass).1.toNat 0+(sumM p.2).1)).2=0 then (0,⟨(plM ms na (spAc p.1) p.1.ass).1,freeM (spAc p.1),(sumM p.2).1,(fitM (bl.getD (plM ms na (spAc p.1) p.1.ass).1.toNat 0+(sumM p.2).1)).1⟩)
  else ((fitM (bl.getD (plM ms na (spAc p.1) p.1.ass).1.toNat 0+(sumM p.2).1)).2,⟨0,false,0,0⟩)
 else ((sumM p.2).2,⟨0,false,0,0⟩)
def firstErr {α β:Type}(f:α→Int×β):List α→Int×List β
 | []=>(0,[])
 | x :: l=>if (f x).1=0 then ((firstErr f l).1,if (firstErr f l).1=0 then (f x).2 :: (firstErr f l).2 else []) else ((f x).1,[])
theorem jw {α β:Type}(f:α→Int×β)(l:List α)(h:∀x∈l,(f x).1=0):firstErr f l=(0,l.map fun x=>(f x).2):=by
 induction l with
 | nil=>rfl
 | cons x l ih=>
  have e:=ih (fun y hy=>h y (by simp [hy]));simp [firstErr,e,h x (by simp)]
theorem eY {α β:Type}(f:α→Int×β)(l:List α):∀k (h:k<l.length),(∀j (hj:j<k),(f (l[j]'(by omega))).1=0)→(f l[k]).1≠0→firstErr f l=((f l[k]).1,[]):=by
 induction l with
 | nil=>intro k h;simp at h
 | cons x l ih=>
  intro k h c a;cases k with
  | zero=>simp only [Aw] at a;simp [firstErr,a]
  | succ k=>
   have b:=c 0 (by omega);simp only [Aw] at b;have e:=ih k (by simpa using h) (fun j hj=>by have:=c (j+1) (by omega);simpa using this) (by simpa using a);simp only [A9] at a;simp [firstErr,b,e,a]
def changesM (ms na:Nat)(bl:List Int)(l:List En):Int×List Ch:=
 if 1024<l.length then (6,[])
 else if l.any (fun x=>decide ((plM ms na ⟨x.k,x.m⟩ x.ass).2≠0)) then (8,[])
 else if (asM l).any (fun z=>decide (sumM z≠(0,0))) then (17,[])
 else firstErr (chg1 ms na bl) (gpM l)
def ChgPost (E:Int)(out:List Ch)(w:World)(e:Ending)(w':World):Prop:=∃vo,e=.returned (.tuple #[vo,.int .i64 E])∧w'.ownsRow w.heap.size 300 4 vo out.length (flat eCh out)∧Bw w w'
theorem j6 {ms na:Nat}{a:Ac}{ass:Int}(hna:na≤9)(h:(plM ms na a ass).2=0):0≤ass∧ass<9:=by
 unfold plM at h;split at h
 ·rename_i c;omega
 ·simp at h
theorem fQ (l:List En):∀p∈gpM l,(∃x∈l,spM x=p.1)∧∀n∈p.2,∃x∈l,x.amt=n:=by
 have c:∀(l:List En) (G:List (Sp×List Int)) (L:List En),(∀p∈G,(∃x∈L,spM x=p.1)∧∀n∈p.2,∃x∈L,x.amt=n)→(∀x∈l,x∈L)→∀p∈l.foldl (fun G x=>addG (spM x) x.amt G) G,(∃x∈L,spM x=p.1)∧∀n∈p.2,∃x∈L,x.amt=n:=by
  intro l;induction l with
  | nil=>intro G L h _;exact h
  | cons x l ih=>
   intro G L h d;refine ih _ L ?_ (fun y hy=>d y (by simp [hy]));have b:=d x (by simp);clear ih;induction G with
   | nil=>intro p a;simp [addG] at a;subst a;exact ⟨⟨x,b,rfl⟩,fun n hn=>by simp at hn;exact ⟨x,b,hn.symm⟩⟩
   | cons q G ih2=>
    intro p a;by_cases hk:spM x=q.1
    ·simp only [addG,hk,if_true,Aq] at a;rcases a with rfl | a
     ·have:=h q (by simp)
      refine ⟨this.1,fun n hn=>?_⟩;simp only [AJ,List.mem_singleton] at hn;rcases hn with hn | hn
      ·exact this.2 n hn
      ·exact ⟨x,b,hn.symm⟩
     ·exact h p (by simp [a])
    ·simp only [addG,hk,if_false,Aq] at a;rcases a with rfl | a
     ·exact h p (by simp)
     ·exact ih2 (fun p a=>h p (by simp [a])) p a
 exact c l [] l (by simp) (fun x b=>b)
theorem j7 (B g:Nat)(vb v:Value)(ms na:Nat)(bl:List Int)(pst:Int)(hms:ms≤16)(hna:na≤9)(hl:bl.length=na * (6+3 * ms))(hbl:All64 bl)(l:List En)(w:World)(hb:BookAt w B g vb ms na bl pst)(hv:Sl eEn 4 w v l)(hn:l.length≤1000000)(h64:∀x∈l,In64 x.amt) :
  Calls Tryz.prog 226 #[ptr g,v] w (ChgPost (changesM ms na bl l).1 (changesM ms na bl l).2 w):=by
 have HV:=aa hv;obtain ⟨a,bN,rfl,_,bL,bk,aj⟩:=hv;unfold maxLen at bk;have aL:=aa aj;have HB:=aa hb;have a3:=aa h64;have bj:=aa hbl;clear aj hb h64 hbl;by_cases hbig:1024<l.length
 ·have HC:Hid (changesM ms na bl l=(6,[])):=aa (by unfold changesM;rw [if_pos hbig]);go_enter Tryz.func226,Tryz.ntmps226;go_wp2_with fail;go_ret2;exact ⟨_,by rw [HC.o];rfl,by rw [HC.o];exact ⟨rfl,Or.inl ⟨rfl,rfl⟩⟩,zZ _ _⟩
 ·go_enter Tryz.func226,Tryz.ntmps226;go_wp2_with fail;go_loopw [30] (fun vi wr=>∃k:Nat,k≤l.length∧vi=.int .i64 k∧Bw w wr∧∀j (h:j<k) (h2:j<l.length),(plM ms na ⟨l[j].k,l[j].m⟩ l[j].ass).2=0) (fun vi _=>l.length - (intOf vi).toNat)
  case atStart=>exact ⟨0,Af _,rfl,zZ _ _,fun j h=>by omega⟩
  case round=>
   obtain ⟨k,hk,rfl,i,F⟩:=hrel;have al:=aa F;clear F;by_cases hlt:k<l.length
   ·obtain ⟨b,ap,rfl,S,a4⟩:=aL.o (by omega);obtain ⟨q0,q1,q2,q3⟩:=atEn (a4 k hlt);have r0:=(i.c (p:=⟨b,ap+k * 4,none⟩) S).trans q0;have r1:=(i.c (p:=⟨b,ap+k * 4+1,none⟩) S).trans q1;have r2:=(i.c (p:=⟨b,ap+k * 4+2,none⟩) S).trans q2;have r3:=(i.c (p:=⟨b,ap+k * 4+3,none⟩) S).trans q3;have aR:(0:Int)≤(k:Int):=by omega
    have a5:(k:Int)<(l.length:Int):=by omega
    obtain ⟨x,J⟩:∃x,l[k]=x:=⟨_,rfl⟩;rw [J] at r0 r1 r2 r3;have HX:=aa J;clear a4 q0 q1 q2 q3 J;have b1:=i.alloc i.size (.cells (cEn x) 231);have aV:=aa ((HB.o.keep (i.mono (zY _))).keep ((zZ wr.heap.size wr).alloc (zY _) (.cells (cEn x) 231)));by_cases Z:(plM ms na ⟨x.k,x.m⟩ x.ass).2=0
    ·have HP:=aa Z;clear Z;go_wp2_with (go_at_call 175;refine (cq g vb ms na pst hms hna ⟨x.k,x.m⟩ x.ass _ aV.o.blk).mono ?_;rintro e w1 ⟨rfl,c1⟩;rw [HP.o];have b2:=b1.trans (c1.mono b1.size))
     go_roundw
     case rel=>exact ⟨k+1,by omega,by go_num,b2,fun j h h2=>by
      by_cases e:j=k
      ·subst e;rw [HX.o];exact HP.o
      ·exact al.o j (by omega) h2⟩
     case measure=>simp [intOf];omega
    ·have HE:=aa (ix Z);have HC:Hid (changesM ms na bl l=(8,[])):=aa (by
      unfold changesM;rw [if_neg hbig,if_pos];rw [At];exact ⟨x,by rw [←HX.o];exact Ag hlt,decide_eq_true Z⟩)
     clear Z;go_wp2_with (go_at_call 175;refine (cq g vb ms na pst hms hna ⟨x.k,x.m⟩ x.ass _ aV.o.blk).mono ?_;rintro e w1 ⟨rfl,c1⟩;rw [HE.o];have b2:=b1.trans (c1.mono b1.size))
     go_ret2;exact ⟨_,by rw [HC.o];rfl,by rw [HC.o];exact ⟨rfl,Or.inl ⟨rfl,rfl⟩⟩,b2⟩
   ·obtain rfl:k=l.length:=by omega
    have aA:¬ (l.any (fun x=>decide ((plM ms na ⟨x.k,x.m⟩ x.ass).2≠0))=true):=by
     rw [At];rintro ⟨x,J,hd⟩;obtain ⟨j,D,rfl⟩:=Ao J;exact of_decide_eq_true hd (al.o j D D)
    have ay:=aa aA;have bz:=aa (HV.o.keep (i.mono (zY _)));have ax:∀x∈l,0≤x.ass∧x.ass<9:=fun x J=>by
     obtain ⟨j,D,rfl⟩:=Ao J;exact j6 hna (al.o j D D)
    have a0:=aa ax;clear aA ax;go_wp2_with (go_at_call 280;refine (ju _ l _ bz.o (by omega) a0.o).mono ?_;rintro e w1 ⟨M,A,vo,bv,av,rfl,hG⟩)
    have b1:Bw w w1:=i.trans (hG.low.mono i.size);have TL:l.take l.length=l:=Ap;have aY:=aa ((HB.o.keep (i.mono (zY _))).keep (hG.low.mono (zY _)));have br:=ag hG.ord;obtain ⟨no,ko,rfl⟩:=br;have HG:=aa hG;obtain ⟨GL,hGL⟩:∃GL,(gpM l).length=GL:=⟨_,rfl⟩;have W:=aa hGL;have aO:=cK l;rw [hGL] at aO;have bC:GL≤1024:=by omega
    have bm:=aa aO;rw [TL,hGL];clear hG aO hGL;go_wp2_with fail;go_loopw [55] (fun vi wr2=>∃k:Nat,k≤9∧vi=.int .i64 k∧Bw w1 wr2∧∀j (h:j<k) (h2:j<(asM l).length),sumM (asM l)[j]=(0,0)) (fun vi _=>9 - (intOf vi).toNat)
    case atStart=>exact ⟨0,Af _,rfl,zZ _ _,fun j h=>by omega⟩
    case round=>
     obtain ⟨k,bO,rfl,q,F⟩:=hrel;have au:=aa F;clear F;have aJ:=aa (HG.o.keep q);by_cases hlt:k<9
     ·have a6:=aJ.o.alen;have az:=aM l;have s:=aJ.o.rows;rw [TL] at s;have f:=s.own k (by rw [z8];omega) (by rw [z8];omega);have e1:(av++bv)[k]'(by rw [z8];omega)=av[k]'(by omega):=List.getElem_append_left (by omega);have e2:(asM l++(gpM l).map (·.2))[k]'(by rw [z8];omega)=(asM l)[k]'(by omega):=List.getElem_append_left (by omega);rw [e1,e2] at f;obtain ⟨t,aq⟩:∃t,(asM l)[k]'(by omega)=t:=⟨_,rfl⟩;obtain ⟨va,Q⟩:∃va,av[k]'(by omega)=va:=⟨_,rfl⟩;rw [aq,Q] at f;have r0:wr.cell? ⟨A,k,none⟩=some va:=by rw [aJ.o.ast.c k,AM,Ab (by omega),Q]
      have ea:=aq.symm.trans (cu l k (by omega) hlt);have bc:∀n∈t,∃x∈l,x.amt=n:=fun n hn=>by
       rw [ea] at hn;obtain ⟨x,J,rfl⟩:=AD.1 hn;exact ⟨x,(AS.1 J).1,rfl⟩
      have E:All64 t:=fun n hn=>by obtain ⟨x,J,rfl⟩:=bc n hn;exact a3.o x J
      have X:t.length≤1000000:=by
       rw [ea,Ad];exact z5 (AV _ _) (by omega)
      have a7:=aa aq;have C:=aa E;have aB:=aa (Sl.own kI f);have hf:=ag f;obtain ⟨n2,k2,rfl⟩:=hf;clear f s Q e1 e2 aq E bc ea;have aR:(0:Int)≤(k:Int):=by omega
      have a5:(k:Int)<9:=by omega
      by_cases hs:sumM t=(0,0)
      ·have HS:=aa hs;clear hs;go_wp2_with (go_at_call 230;refine (aW _ t _ aB.o C.o X).mono ?_;rintro e w2 ⟨rfl,c2⟩;rw [HS.o];have b3:=q.trans (c2.mono q.size))
       go_roundw
       case rel=>exact ⟨k+1,by omega,by go_num,b3,fun j h h2=>by
        by_cases e:j=k
        ·subst e;rw [a7.o];exact HS.o
        ·exact au.o j (by omega) h2⟩
       case measure=>simp [intOf];omega
      ·have HC:Hid (changesM ms na bl l=(17,[])):=aa (by
        unfold changesM;rw [if_neg hbig,if_neg ay.o,if_pos];rw [At];exact ⟨t,by rw [←a7.o];exact Ag _,decide_eq_true hs⟩)
       have aE:((sumM t).2 != 0)=true∨(((sumM t).2 != 0)=false∧((sumM t).1 != 0)=true):=by
        by_cases h1:(sumM t).2=0
        ·refine Or.inr ⟨by simpa using h1,?_⟩;have h2:(sumM t).1≠0:=fun e=>hs (Prod.ext e h1)
         simpa using h2
        ·exact Or.inl (by simpa using h1)
       clear hs;rcases aE with aE | ⟨aE,hs3⟩
       all_goals
        go_wp2_with (go_at_call 230;refine (aW _ t _ aB.o C.o X).mono ?_;rintro e w2 ⟨rfl,c2⟩;have b3:=q.trans (c2.mono q.size))
        go_ret2;exact ⟨_,by rw [HC.o];rfl,by rw [HC.o];exact ⟨rfl,Or.inl ⟨rfl,rfl⟩⟩,b1.trans (b3.mono b1.size)⟩
     ·have bH:¬ ((k:Int)<9):=by omega
      have aX:¬ ((asM l).any (fun z=>decide (sumM z≠(0,0)))=true):=by
       rw [At];rintro ⟨z,hz,hd⟩;obtain ⟨j,D,rfl⟩:=Ao hz;exact of_decide_eq_true hd (au.o j (by rw [aM] at D;omega) D)
      have Y:Hid (changesM ms na bl l=firstErr (chg1 ms na bl) (gpM l)):=aa (by unfold changesM;rw [if_neg hbig,if_neg ay.o,if_neg aX]);clear aX;have b3:=b1.trans (q.mono b1.size);have af:=aa (HG.o.keep q);have a8:=aa (aY.o.keep q);have T:=af.o.ord;rw [TL] at T;have a1:=aa (show Sl eSp 3 wr (.slice no GL ko) ((gpM l).map (·.1)) from Sl.own kSp (by rw [Ad];rw [W.o] at T ⊢;exact T));clear T;obtain ⟨i0,hi,bu,bq,bh⟩:=info_parts zl;obtain ⟨B3,hB3⟩:∃n,wr.heap.size=n:=⟨_,rfl⟩;have h0:wr.ownsRow B3 300 4 (.slice none 0 0) 0 []:=⟨rfl,Or.inl ⟨rfl,rfl⟩⟩;have aT:=aa hB3;have bg:w.heap.size≤B3:=by have:=b3.size;omega
      clear hB3;go_wp2_with fail;go_loopw [17,73] (fun vo vi wr3=>∃k:Nat,k≤GL∧vi=.int .i64 k∧Bw wr wr3∧(∀j (h:j<k) (h2:j<(gpM l).length),(chg1 ms na bl (gpM l)[j]).1=0)∧wr3.ownsRow B3 300 4 vo k (flat eCh (((gpM l).take k).map fun p=>(chg1 ms na bl p).2))) (fun _ vi _=>GL - (intOf vi).toNat)
      case atStart=>exact ⟨0,Af _,rfl,zZ _ _,(fun j h=>by omega),h0⟩
      case round=>
       obtain ⟨k,bI,rfl,d,F,ac⟩:=hrel;have U:=aa F;have ab:=aa ac;have bt:=ag ac;obtain ⟨nv,kv,rfl⟩:=bt;clear F ac;by_cases hlt:k<GL
       ·have O:k<(gpM l).length:=by rw [W.o];exact hlt
        obtain ⟨p,Z⟩:∃p,(gpM l)[k]=p:=⟨_,rfl⟩;have HP:=aa Z;have bw:=a1.o.keep (d.mono (zY _));obtain ⟨ao,capo,hvo,_,ho1,ho2,hoc⟩:=bw;obtain ⟨e1,e2,e3⟩:no=ao∧GL=((gpM l).map (·.1)).length∧ko=capo:=by simpa using hvo
        subst e1 e3;obtain ⟨bo,bG,rfl,bK,aQ⟩:=hoc (by rw [Ad];omega);obtain ⟨q0,q1,q2⟩:=atSp (aQ k (by rw [Ad];exact O));rw [AW,Z] at q0 q1 q2;obtain ⟨⟨sk,sm,sa⟩,t⟩:=p;dsimp only at q0 q1 q2;have aR:(0:Int)≤(k:Int):=by omega
        have a5:(k:Int)<(GL:Int):=by omega
        have ar:=fQ l _ (Ag O);rw [Z] at ar;have aF:(plM ms na ⟨sk,sm⟩ sa).2=0:=by
         obtain ⟨x,J,bd⟩:=ar.1;obtain ⟨j,D,rfl⟩:=Ao J;have h:=al.o j D D;simp only [spM,Sp.mk.injEq] at bd;obtain ⟨rfl,rfl,rfl⟩:=bd;exact h
        have E:All64 t:=fun n hn=>by obtain ⟨x,J,rfl⟩:=ar.2 n hn;exact a3.o x J
        have X:t.length≤1000000:=by
         have h:=bm.o.2 _ (Ag O);rw [Z] at h;dsimp only at h;omega
        obtain ⟨⟨pl,pe⟩,G⟩:∃r,plM ms na ⟨sk,sm⟩ sa=r:=⟨_,rfl⟩;rw [G] at aF;dsimp only at aF;subst aF;have aH:=el (ms:=ms) (na:=na) (a:=⟨sk,sm⟩) (ass:=sa) (by rw [G]);rw [G] at aH;dsimp only at aH;obtain ⟨N,rfl⟩:=Int.eq_ofNat_of_zero_le aH.1;have hN:N<bl.length:=by rw [hl];omega
        have bJ:na * (6+3 * ms)≤9 * 54:=Nat.mul_le_mul hna (by omega);have aP:=aa G;have C:=aa E;clear aQ ar G E hvo hoc e2;have s:=(af.o.keep d).rows;rw [TL] at s;have a6:=af.o.alen;have bD:bv.length=GL:=by have:=af.o.blen;rw [TL,W.o] at this;exact this
        have az:=aM l;have f:=s.own (9+k) (by rw [z8];omega) (by rw [z8,Ad];omega);have e4:(av++bv)[9+k]'(by rw [z8];omega)=bv[k]'(by omega):=by rw [List.getElem_append_right (by omega)];simp [a6]
        have e5:(asM l++(gpM l).map (·.2))[9+k]'(by rw [z8,Ad];omega)=t:=by rw [List.getElem_append_right (by omega)];simp [az,Z]
        rw [e4,e5] at f;obtain ⟨va,Q⟩:∃va,bv[k]'(by omega)=va:=⟨_,rfl⟩;rw [Q] at f;have P:=wH (gpM l) bv 0 k O (by omega) (jv l);rw [Z,Q] at P;have aK:=aa P;have ba:=aa f;have hf:=ag f;obtain ⟨n2,k2,rfl⟩:=hf;clear f Q e4 e5 P s;obtain ⟨⟨sn,se⟩,hsum⟩:∃r,sumM t=r:=⟨_,rfl⟩;have y:=aa hsum;have a9:(bl.getD N 0)=bl[N]:=by rw [Ah,Ab hN];rfl
        have L:=aa (a8.o.keep d);have bp:=aa (af.o.keep d);have b4:=b3.trans (d.mono b3.size);clear hsum;obtain ⟨a',bF,bf,bM,bs,aZ⟩:=(Sl.own kI L.o.own).ints;subst bf;obtain ⟨bb,oo,rfl,hbb,hcc⟩:=aZ (by omega);have rN:=hcc N hN;unfold maxLen at bs;clear hcc aZ;have bA:Bw wr (wr.alloc (.cells #[.int .i64 sk,.int .i64 sm,.int .i64 sa] 369)):=Bn;go_wp2_with (go_at_call 175;refine (cq g _ ms na pst hms hna ⟨sk,sm⟩ sa _ (L.o.keep bA).blk).mono ?_;rintro e w4 ⟨rfl,c4⟩;rw [aP.o];have SB:=aa ((Blk.new wr 369 #[.int .i64 sk,.int .i64 sm,.int .i64 sa]).keep c4);have s0:=SB.o.c 0;have s1:=SB.o.c 1;have s2:=SB.o.c 2;have d4:Bw wr w4:=bA.trans (c4.mono bA.size);clear c4)
        have ak:=((bp.o.keep d4).map);rw [TL] at ak;have am:=bi ol Tryz.underlying364 (.slice none 0 0) Tryz.zeroValue45 w4 M _ ⟨sk,sm,sa⟩ ak;rw [aK.o] at am;change (Instr.lookup 364 (.map (some M)) (.agg #[.int .i64 sk,.int .i64 sm,.int .i64 sa]) false).run Tryz.prog w4=.ok (.slice n2 t.length k2) w4 at am
        rw [am];dsimp only [Result.andThen];rw [Oper.upon_value];clear am ak;have aG:=aa (Sl.own kI (ah ba.o d4));by_cases hse:se=0
        ·subst hse;obtain ⟨⟨an,ae⟩,aC⟩:∃r,fitM (bl[N]+sn)=r:=⟨_,rfl⟩;have a2:In64 sn:=by
          have:=y.o
          unfold sumM fitM at this;split at this
          ·cases this;assumption
          ·cases this
         have K:=aa aC;clear aC;have aN:In64 bl[N]:=bj.o _ (Ag hN);obtain ⟨bn,ai⟩:∃bn,bl[N]=bn:=⟨_,rfl⟩;rw [ai] at K aN;by_cases hae:ae=0
         ·subst hae;rw [ai] at rN;have H:Hid (chg1 ms na bl (⟨sk,sm,sa⟩,t)=(0,⟨N,freeM ⟨sk,sm⟩,sn,an⟩)):=aa (by
           unfold chg1 spAc;dsimp only;rw [y.o,aP.o,if_pos rfl];dsimp only;rw [Int.toNat_natCast,a9,ai,K.o,if_pos rfl])
          go_wp2_with (first | (go_at_call 230;refine (aW _ t _ aG.o C.o X).mono ?_;rintro e w5 ⟨rfl,V⟩;rw [y.o];have u:=aa (SB.o.keep V);have t0:=u.o.c 0;have t1:=u.o.c 1;have t2:=u.o.c 2;have d5:Bw wr w5:=d4.trans (V.mono d4.size);clear V;have I:=aa (L.o.keep d5);have p2:=I.o.blk.c 2;have aS:=(d5.c (p:=⟨bb,oo+N,none⟩) hbb).trans rN) | (go_at_call 281;refine (jn _ _ aN a2 _).mono ?_;rintro e w6 ⟨rfl,rfl⟩;rw [K.o]) | (go_at_call 227;refine (aU ⟨sk,sm⟩ _).mono ?_;rintro e w7 ⟨rfl,rfl⟩;have d6:=d5.alloc d5.size (.cells (acs ⟨sk,sm⟩) 81)) | (at_builtin;refine wpList_append_own _ rfl _ _ 296 rfl B3 300 i0 (.agg #[.int .i64 0,.bool false,.int .i64 0,.int .i64 0]) 4 32 Tryz.underlying296 hi bu bq bh rfl (by decide) _ k (flat eCh (((gpM l).take k).map fun p=>(chg1 ms na bl p).2)) rfl ?c0 ⟨_,0,none⟩ 1 1 (eCh ⟨N,freeM ⟨sk,sm⟩,sn,an⟩) rfl rfl ?c1 ?c2 ?c3 ?c4 ?V ?_))
          case c0=>exact (ah ab.o d6).alloc _
          case c1=>exact newCh _ ⟨N,freeM ⟨sk,sm⟩,sn,an⟩ _ (by simp)
          case c2=>exact oneCh _
          case c3=>unfold maxLen;omega
          case c4=>omega
          case V=>have h:=(d.trans (d6.mono d.size)).size;rw [aT.o] at h;simp at h ⊢;omega
          intro v8 w8 ad R _;have d7:=d6.alloc d6.size (.cells (cCh ⟨N,freeM ⟨sk,sm⟩,sn,an⟩) 300);have be:Hid (((gpM l).take (k+1)).map (fun p=>(chg1 ms na bl p).2)=((gpM l).take k).map (fun p=>(chg1 ms na bl p).2)++[⟨N,freeM ⟨sk,sm⟩,sn,an⟩]):=aa (by rw [z9 O,AI,HP.o];simp [H.o]);have aD:=d.trans (d7.mono d.size);have b8:=aD.grown R aD.size (by rw [aT.o];exact cR ab.o);have bx:w8.ownsRow B3 300 4 v8 (k+1) (flat eCh (((gpM l).take (k+1)).map fun p=>(chg1 ms na bl p).2)):=by rw [be.o,aI];simpa [flat] using ad
          clear ad R aD d7;go_wp2;go_roundw
          case rel=>exact ⟨k+1,by omega,by go_num,b8,(fun j h h2=>by
           by_cases e:j=k
           ·subst e;rw [HP.o,H.o]
           ·exact U.o j (by omega) h2),bx⟩
          case measure=>simp [intOf];omega
         ·have H:Hid (chg1 ms na bl (⟨sk,sm,sa⟩,t)=(ae,⟨0,false,0,0⟩)):=aa (by
           unfold chg1 spAc;dsimp only;rw [y.o,aP.o,if_pos rfl];dsimp only;rw [Int.toNat_natCast,a9,ai,K.o,if_neg hae])
          rw [ai] at rN;have bB:(ae != 0)=true:=by simpa using hae
          have HF:=aa (eY (chg1 ms na bl) (gpM l) k O (fun j D=>U.o j D _) (by rw [HP.o,H.o];exact hae));clear hae;go_wp2_with (first | (go_at_call 230;refine (aW _ t _ aG.o C.o X).mono ?_;rintro e w5 ⟨rfl,V⟩;rw [y.o];have u:=aa (SB.o.keep V);have t0:=u.o.c 0;have t1:=u.o.c 1;have t2:=u.o.c 2;have d5:Bw wr w5:=d4.trans (V.mono d4.size);clear V;have I:=aa (L.o.keep d5);have p2:=I.o.blk.c 2;have aS:=(d5.c (p:=⟨bb,oo+N,none⟩) hbb).trans rN) | (go_at_call 281;refine (jn _ _ aN a2 _).mono ?_;rintro e w6 ⟨rfl,rfl⟩;rw [K.o]))
          go_ret2;exact ⟨_,by rw [Y.o,HF.o,HP.o,H.o];rfl,by rw [Y.o,HF.o];exact ⟨rfl,Or.inl ⟨rfl,rfl⟩⟩,b4.trans (d5.mono b4.size)⟩
        ·have H:Hid (chg1 ms na bl (⟨sk,sm,sa⟩,t)=(se,⟨0,false,0,0⟩)):=aa (by
          unfold chg1 spAc;dsimp only;rw [y.o,if_neg hse])
         have bE:(se != 0)=true:=by simpa using hse
         have HF:=aa (eY (chg1 ms na bl) (gpM l) k O (fun j D=>U.o j D _) (by rw [HP.o,H.o];exact hse));clear hse;go_wp2_with (first | (go_at_call 230;refine (aW _ t _ aG.o C.o X).mono ?_;rintro e w5 ⟨rfl,V⟩;rw [y.o];have u:=aa (SB.o.keep V);have t0:=u.o.c 0;have t1:=u.o.c 1;have t2:=u.o.c 2;have d5:Bw wr w5:=d4.trans (V.mono d4.size);clear V;have I:=aa (L.o.keep d5);have p2:=I.o.blk.c 2;have aS:=(d5.c (p:=⟨bb,oo+N,none⟩) hbb).trans rN))
         go_ret2;exact ⟨_,by rw [Y.o,HF.o,HP.o,H.o];rfl,by rw [Y.o,HF.o];exact ⟨rfl,Or.inl ⟨rfl,rfl⟩⟩,b4.trans (d5.mono b4.size)⟩
       ·obtain rfl:k=GL:=by omega
        have HF:=aa (jw (chg1 ms na bl) (gpM l) (fun x J=>by
         obtain ⟨j,D,rfl⟩:=Ao J;exact U.o j (by rw [←W.o];exact D) D))
        go_wp2_with fail;go_ret2;refine ⟨_,by rw [Y.o,HF.o];rfl,?_,b3.trans (d.mono b3.size)⟩;have h:=ab.o;rw [Ae (by rw [W.o];exact zY _)] at h;rw [Y.o,HF.o,Ad,W.o];exact aw h bg
def badM (x:Ch):Bool:=!x.free&&decide (x.by_<0)&&decide (x.now<0)
def putM (bl:List Int)(cs:List Ch):List Int:=cs.foldl (fun b x=>b.set x.place.toNat x.now) bl
def postM (ms na:Nat)(bl:List Int)(l:List En):Int×List Int:=
 if (changesM ms na bl l).1≠0 then ((changesM ms na bl l).1,bl)
 else if (changesM ms na bl l).2.any badM then (13,bl) else (0,putM bl (changesM ms na bl l).2)
theorem eq {α β:Type}(f:α→Int×β)(l:List α):∀y∈(firstErr f l).2,∃x∈l,(f x).1=0∧(f x).2=y:=by
 induction l with
 | nil=>intro y a;simp [firstErr] at a
 | cons x l ih=>
  intro y a;unfold firstErr at a;split at a
  ·rename_i c
   dsimp only at a;split at a
   ·rcases Aq.1 a with rfl | a
    ·exact ⟨x,by simp,c,rfl⟩
    ·obtain ⟨z,b,h⟩:=ih y a;exact ⟨z,by simp [b],h⟩
   ·simp at a
  ·simp at a
theorem sp {n a b:Int}(h:fitM n=(a,b)):In64 a:=by
 unfold fitM at h;split at h
 ·cases h;assumption
 ·cases h;decide
theorem mj {ms na:Nat}{bl:List Int}{l:List En}:∀x∈(changesM ms na bl l).2,0≤x.place∧x.place<((na * (6+3 * ms):Nat):Int)∧In64 x.by_∧In64 x.now:=by
 unfold changesM;split
 ·intro x d;simp at d
 ·split
  ·intro x d;simp at d
  ·rename_i c
   split
   ·intro x d;simp at d
   ·intro x d;obtain ⟨p,hp,h0,rfl⟩:=eq _ _ x d;obtain ⟨y,hy,hye⟩:=(fQ l p hp).1;have g:(plM ms na (spAc p.1) p.1.ass).2=0:=by
     rw [At] at c;have:¬ (plM ms na ⟨y.k,y.m⟩ y.ass).2≠0:=fun h=>c ⟨y,hy,decide_eq_true h⟩
     rw [←hye];simpa [spAc,spM] using this
    have f:=el g;unfold chg1 at h0 ⊢;by_cases h1:(sumM p.2).2=0
    ·rw [if_pos h1] at h0 ⊢;by_cases h2:(fitM (bl.getD (plM ms na (spAc p.1) p.1.ass).1.toNat 0+(sumM p.2).1)).2=0
     ·rw [if_pos h2];exact ⟨f.1,f.2,sp (n:=sumL p.2) (a:=(sumM p.2).1) (b:=(sumM p.2).2) rfl,sp (b:=(fitM (bl.getD (plM ms na (spAc p.1) p.1.ass).1.toNat 0+(sumM p.2).1)).2) rfl⟩
     ·rw [if_neg h2] at h0;exact absurd h0 h2
    ·rw [if_neg h1] at h0;exact absurd h0 h1
theorem j8 {ms na:Nat}{bl:List Int}{l:List En}:(changesM ms na bl l).2.length≤1024:=by
 unfold changesM;split
 ·simp
 ·split
  ·simp
  ·split
   ·simp
   ·have:∀(G:List (Sp×List Int)),(firstErr (chg1 ms na bl) G).2.length≤G.length:=by
     intro G;induction G with
     | nil=>simp [firstErr]
     | cons x G ih=>unfold firstErr;split <;> (try split) <;> simp <;> omega
    have:=this (gpM l)
    have a:=(cK l).1;omega
def PostPost (B g:Nat)(vb:Value)(ms na:Nat)(bl:List Int)(pst:Int)(r:Int×List Int)(w:World)(e:Ending)(w':World):Prop:=
 e=.returned (.int .i64 r.1)∧Below B w w'∧BookAt w' B g vb ms na r.2 (if r.1=0 then wrap64 (pst+1) else pst)
theorem on {w:World}{B b off cap j:Nat}{l:List Int}{x:Int}(h:w.ownsRow B 2 1 (.slice (some ⟨b,off,none⟩) l.length cap) l.length (flat eI l))(hj:j<l.length):off=0∧B≤b∧(w.setCell ⟨b,j,none⟩ (.int .i64 x)).ownsRow B 2 1 (.slice (some ⟨b,off,none⟩) l.length cap) (l.set j x).length (flat eI (l.set j x)):=by
 obtain ⟨c,a⟩:=h;rcases a with ⟨h,_⟩ | ⟨g,cap',cur,hv,hg,hh,h3,h4,h5,h6⟩
 ·cases h
 ·simp only [Value.slice.injEq,Option.some.injEq,Addr.mk.injEq] at hv;obtain ⟨⟨rfl,rfl,_⟩,_,rfl⟩:=hv;refine ⟨rfl,hg,⟨by rw [aC eI 1 kI,AH,A0],Or.inr ⟨b,cap,cur.setIfInBounds j (.int .i64 x),by rw [AH],hg,heap_setCell_same w b j cur 2 _ hh,by rw [AH];exact h3,h4,by simpa using h5,?_⟩⟩⟩;rw [AH];rw [ee] at h6 ⊢;rw [Array.toList_setIfInBounds,List.take_set,h6,List.map_set]
theorem fR (B g:Nat)(vb v:Value)(ms na:Nat)(bl:List Int)(pst:Int)(hms:ms≤16)(hna:na≤9)(hl:bl.length=na * (6+3 * ms))(hbl:All64 bl)(l:List En)(w:World)(hb:BookAt w B g vb ms na bl pst)(hB:B≤g)(hBw:B≤w.heap.size)(hv:Sl eEn 4 w v l)(hn:l.length≤1000000)(h64:∀x∈l,In64 x.amt) :
  Calls Tryz.prog 178 #[ptr g,v] w (PostPost B g vb ms na bl pst (postM ms na bl l) w):=by
 have HC:=aa (j7 B g vb v ms na bl pst hms hna hl hbl l w hb hv hn h64);have HB:=aa hb;have X:=aa (mj (ms:=ms) (na:=na) (bl:=bl) (l:=l));have ad:=j8 (ms:=ms) (na:=na) (bl:=bl) (l:=l);obtain ⟨⟨er,d⟩,hr⟩:∃r,changesM ms na bl l=r:=⟨_,rfl⟩;have HP:Hid (postM ms na bl l=if er≠0 then (er,bl) else if d.any badM then (13,bl) else (0,putM bl d)):=aa (by unfold postM;rw [hr]);rw [hr] at HC X ad;dsimp only at ad;obtain ⟨a,cap,rfl,_⟩:=hv;clear hr h64 hbl;by_cases her:er=0
 ·subst her;go_enter Tryz.func178,Tryz.ntmps178;go_wp2_with (go_at_call 226;refine HC.o.mono ?_;rintro e w1 ⟨vo,rfl,t,G⟩;have hf:=ag t;obtain ⟨no,ko,rfl⟩:=hf;have HO:=aa t;clear t)
  have aA:=aa (Sl.own kCh HO.o);go_loopw [24] (fun vi wr=>∃k:Nat,k≤d.length∧vi=.int .i64 k∧Bw w1 wr∧∀j (h:j<k) (h2:j<d.length),badM d[j]=false) (fun vi _=>d.length - (intOf vi).toNat)
  case atStart=>exact ⟨0,Af _,rfl,zZ _ _,fun j h=>by omega⟩
  case round=>
   obtain ⟨k,hk,rfl,f,ac⟩:=hrel;have ai:=aa ac;clear ac;by_cases hlt:k<d.length
   ·obtain ⟨a',D,z,_,aG,O,F⟩:=aA.o;obtain ⟨e1,e2⟩:no=a'∧ko=D:=by simpa using z
    subst e1 e2;obtain ⟨b,u,rfl,A,C⟩:=F (by omega);obtain ⟨q0,q1,q2,q3⟩:=atCh (C k hlt);have Q:=(f.c (p:=⟨b,u+k * 4,none⟩) A).trans q0;have R:=(f.c (p:=⟨b,u+k * 4+1,none⟩) A).trans q1;have S:=(f.c (p:=⟨b,u+k * 4+2,none⟩) A).trans q2;have T:=(f.c (p:=⟨b,u+k * 4+3,none⟩) A).trans q3;have aB:(0:Int)≤(k:Int):=by omega
    have aC:(k:Int)<(d.length:Int):=by omega
    unfold maxLen at O;obtain ⟨x,H⟩:∃x,d[k]=x:=⟨_,rfl⟩;rw [H] at Q R S T;have HX:=aa H;clear C q0 q1 q2 q3 H F z;obtain ⟨xp,xf,xb,xn⟩:=x;dsimp only at Q R S T;have q:=f.alloc f.size (.cells (cCh ⟨xp,xf,xb,xn⟩) 300);by_cases hbad:badM ⟨xp,xf,xb,xn⟩=true
    ·have K:=hbad;simp only [badM,Bool.and_eq_true,Bool.not_eq_true',decide_eq_true_eq] at K;obtain ⟨⟨rfl,g2⟩,g3⟩:=K;have J:Hid (postM ms na bl l=(13,bl)):=aa (by
      rw [HP.o,if_neg (by simp),if_pos];rw [At];exact ⟨_,by rw [←HX.o];exact Ag hlt,hbad⟩)
     clear hbad;go_wp2_with fail;go_ret;refine ⟨by rw [J.o];rfl,(G.trans (q.mono G.size)).mono hBw,?_⟩;rw [J.o,if_neg (show ¬ ((13:Int)=0) by decide)];exact (HB.o.keep G).keep q
    ·have ar:Hid (badM ⟨xp,xf,xb,xn⟩=false):=aa (by simpa using hbad);have aH:xf=true∨(xf=false∧0≤xb)∨(xf=false∧xb<0∧0≤xn):=by
      cases xf with
      | true=>exact Or.inl rfl
      | false=>
       rcases AQ xb 0 with P | P
       ·refine Or.inr (Or.inr ⟨rfl,P,?_⟩);rcases AQ xn 0 with h2 | h2
        ·exact absurd (by simp [badM,P,h2]) hbad
        ·exact h2
       ·exact Or.inr (Or.inl ⟨rfl,P⟩)
     clear hbad;rcases aH with rfl | ⟨rfl,g2⟩ | ⟨rfl,g2,g3⟩
     all_goals
      go_wp2_with fail;go_roundw
      case rel=>exact ⟨k+1,by omega,by go_num,q,fun j h h2=>by
       by_cases e:j=k
       ·subst e;rw [HX.o];exact ar.o
       ·exact ai.o j (by omega) h2⟩
      case measure=>simp [intOf];omega
   ·have aK:¬ ((k:Int)<(d.length:Int)):=by omega
    go_wp2_with fail;have ak:¬ (d.any badM=true):=by
     rw [At];rintro ⟨x,H,hd⟩;obtain ⟨j,hj,rfl⟩:=Ao H;rw [ai.o j (by omega) hj] at hd;cases hd
    have J:Hid (postM ms na bl l=(0,putM bl d)):=aa (by rw [HP.o,if_neg (by simp),if_neg ak]);clear ak;have af:=(HB.o.keep G).keep f;have ab:=ah HO.o f;have b1:Below B w wr:=(G.trans (f.mono G.size)).mono hBw;have aL:w.heap.size≤wr.heap.size:=z5 G.size f.size;have U:∃s:List Int,s=putM bl (d.take 0)∧s.length=bl.length∧BookAt wr B g vb ms na s pst:=⟨bl,rfl,rfl,af⟩;have aI:=aa U;have az:=aa ab;clear U af ab;go_loopw [44] (fun vi wr2=>∃k:Nat,k≤d.length∧vi=.int .i64 k∧Below B w wr2∧wr2.ownsRow w.heap.size 300 4 (.slice no d.length ko) d.length (flat eCh d)∧∃s:List Int,s=putM bl (d.take k)∧s.length=bl.length∧BookAt wr2 B g vb ms na s pst) (fun vi _=>d.length - (intOf vi).toNat)
    case atStart=>exact ⟨0,Af _,rfl,b1,az.o,aI.o⟩
    case round=>
     obtain ⟨k,aM,rfl,i,E,s,V,al,W⟩:=hrel;have an:=aa E;have ae:=aa V;have m:=aa W;clear E V W;by_cases hlt:k<d.length
     ·obtain ⟨a',D,z,_,aG,O,F⟩:=Sl.own kCh an.o;obtain ⟨e1,e2⟩:no=a'∧ko=D:=by simpa using z
      subst e1 e2;obtain ⟨b,u,rfl,A,C⟩:=F (by omega);obtain ⟨Q,R,S,T⟩:=atCh (C k hlt);have aB:(0:Int)≤(k:Int):=by omega
      have aC:(k:Int)<(d.length:Int):=by omega
      unfold maxLen at O;obtain ⟨x,H⟩:∃x,d[k]=x:=⟨_,rfl⟩;rw [H] at Q R S T;have I:=X.o x (by rw [←H];exact Ag hlt);have HX:=aa H;clear C H F z;obtain ⟨xp,xf,xb,xn⟩:=x;dsimp only at Q R S T I;obtain ⟨N,rfl⟩:=Int.eq_ofNat_of_zero_le I.1;have hN:N<s.length:=by rw [al,hl];omega
      obtain ⟨a2,ao,aE,aP,av,ax⟩:=(Sl.own kI m.o.own).ints;subst aE;obtain ⟨q,off2,rfl,hb2,hc2⟩:=ax (by omega);obtain ⟨rfl,hBb,_⟩:=on (x:=xn) m.o.own hN;have c2:=hc2 N hN;rw [Av] at c2;unfold maxLen at av;have f2:wr.frozen? ⟨q,N,none⟩=false:=by
       obtain ⟨_,h⟩:=m.o.own;rcases h with ⟨h,_⟩ | ⟨g',c',cur,hv,_,hh,_⟩
       ·cases h
       ·simp only [Value.slice.injEq,Option.some.injEq,Addr.mk.injEq] at hv;obtain ⟨⟨rfl,_⟩,_⟩:=hv;simp [World.frozen?,hh]
      have p2:=m.o.blk.c 2;have aO:(0:Int)≤(N:Int):=by omega
      have aN:(N:Int)<(s.length:Int):=by omega
      have cA:Bw wr (wr.alloc (.cells #[.int .i64 N,.bool xf,.int .i64 xb,.int .i64 xn] 300)):=Bn;have XB:=aa (Blk.new wr 300 #[.int .i64 N,.bool xf,.int .i64 xb,.int .i64 xn]);have n:=aa (m.o.keep cA);have ap:=aa (ah an.o cA);have y:=i.alloc (z5 hBw i.size) (.cells #[.int .i64 N,.bool xf,.int .i64 xb,.int .i64 xn] 300);have L:=aa (on (x:=xn) n.o.own hN).2.2;have y0:=XB.o.c 0;have y3:=XB.o.c 3;have z2:=n.o.blk.c 2;have aw:=(cA.c (p:=⟨q,N,none⟩) hb2).trans c2;have aq:(wr.alloc (.cells #[.int .i64 N,.bool xf,.int .i64 xb,.int .i64 xn] 300)).frozen? ⟨q,N,none⟩=false:=by
       have h:=cA.block q hb2;unfold World.frozen? at f2 ⊢;rw [h];exact f2
      go_wp2_with fail;clear Q R S T c2 f2 p2;generalize wr.alloc (.cells #[.int .i64 N,.bool xf,.int .i64 xb,.int .i64 xn] 300)=W1 at *;go_region
      all_goals
       have am:g≠q:=by
        have h:=aD n.o.blk n.o.own (by decide) q (by simp [Value.ownBlock]);exact Ne.symm h
       have R1:BookAt (W1.setCell ⟨q,N,none⟩ (.int .i64 xn)) B g (.slice (some ⟨q,0,none⟩) s.length ao) ms na (s.set N xn) pst:=⟨n.o.blk.far N _ am,L.o⟩;have R2:(W1.setCell ⟨q,N,none⟩ (.int .i64 xn)).ownsRow w.heap.size 300 4 (.slice (some ⟨b,u,none⟩) d.length ko) d.length (flat eCh d):=au ap.o fun k' hk'=>An _ _ _ _ (fun e=>aR ap.o n.o.own (by decide) k' hk' q (by simp [Value.ownBlock]) e)
       have R3:Below B w (W1.setCell ⟨q,N,none⟩ (.int .i64 xn)):=⟨y.os,y.tape,y.output,by simpa [World.setCell] using y.size,fun k' hk'=>(An W1 ⟨q,N,none⟩ (.int .i64 xn) k' (by show k'≠q;omega)).trans (y.block k' hk')⟩;have HR:=aa (And.intro R1 (And.intro R2 R3));clear R1 R2 R3 y0 y3 z2 aw aq L am;generalize W1.setCell ⟨q,N,none⟩ (.int .i64 xn)=W2 at HR ⊢;go_wp2_with fail;go_roundw
       case rel=>
        have Y:=HR.o.2.2;have P:=HR.o.1;refine ⟨k+1,by omega,by go_num,⟨Y.os,Y.tape,Y.output,Y.size,Y.block⟩,HR.o.2.1,s.set N xn,?_,by rw [AH];exact al,⟨P.blk,P.own⟩⟩;rw [z9 hlt,HX.o,ae.o];simp [putM,List.foldl_append]
       case measure=>simp [intOf];omega
     ·obtain rfl:k=d.length:=by omega
      have p3:=m.o.blk.c 3;have f3:=m.o.blk.free 3;have aj:s=putM bl d:=by rw [ae.o,Ae (zY _)]
      have M:BookAt (wr.setCell ⟨g,3,none⟩ (.int .i64 (wrap64 (pst+1)))) B g vb ms na s (wrap64 (pst+1)):=⟨m.o.blk.set 3 _,au m.o.own fun k' hk'=>An _ _ _ _ (aD m.o.blk m.o.own (by decide) k' hk')⟩;have Z:Below B w (wr.setCell ⟨g,3,none⟩ (.int .i64 (wrap64 (pst+1)))):=⟨i.os,i.tape,i.output,by simpa [World.setCell] using i.size,fun k' hk'=>(An wr ⟨g,3,none⟩ (.int .i64 (wrap64 (pst+1))) k' (by show k'≠g;omega)).trans (i.block k' hk')⟩;have HF:=aa (And.intro M Z);have aF:=aa aj;clear M Z aj;go_wp2_with fail;go_ret;refine ⟨by rw [J.o];rfl,HF.o.2,?_⟩;rw [J.o,if_pos rfl,←aF.o];exact HF.o.1
 ·have aJ:(er != 0)=true:=by simpa using her
  have J:Hid (postM ms na bl l=(er,bl)):=aa (by rw [HP.o,if_pos her]);have ay:=aa her;clear her;go_enter Tryz.func178,Tryz.ntmps178;go_wp2_with (go_at_call 226;refine HC.o.mono ?_;rintro e w1 ⟨vo,rfl,t,G⟩)
  go_ret;refine ⟨by rw [J.o];rfl,G.mono hBw,?_⟩;rw [J.o,if_neg ay.o];exact HB.o.keep G
def cmpM (a b:Int):Int:=if a<b then -1 else if b<a then 1 else 0
theorem jx (a:Int)(w:World):Calls Tryz.prog 287 #[.int .i64 a] w fun e w'=>e=.returned (.bool false)∧w'=w:=by
 go_enter Tryz.func287,Tryz.ntmps287;go_wp2;go_ret;exact ⟨by simp,rfl⟩
theorem bN (a b:Int)(w:World):Calls Tryz.prog 233 #[.int .i64 a,.int .i64 b] w fun e w'=>e=.returned (.int .i64 (cmpM a b))∧w'=w:=by
 rcases Int.lt_trichotomy a b with h | h | h
 ·have H:Hid (cmpM a b=-1):=aa (by unfold cmpM;rw [if_pos h]);go_enter Tryz.func233,Tryz.ntmps233;go_wp2_with (go_at_call 287;refine (jx _ _).mono ?_;rintro e c ⟨rfl,rfl⟩)
  go_ret;exact ⟨by rw [H.o];rfl,rfl⟩
 ·subst h;have H:Hid (cmpM a a=0):=aa (by unfold cmpM;simp);go_enter Tryz.func233,Tryz.ntmps233;go_wp2_with (go_at_call 287;refine (jx _ _).mono ?_;rintro e c ⟨rfl,rfl⟩)
  go_ret;exact ⟨by rw [H.o];rfl,rfl⟩
 ·have H:Hid (cmpM a b=1):=aa (by unfold cmpM;rw [if_neg (by omega),if_pos h]);have d:¬ a<b:=by omega
  go_enter Tryz.func233,Tryz.ntmps233;go_wp2_with (go_at_call 287;refine (jx _ _).mono ?_;rintro e c ⟨rfl,rfl⟩)
  go_ret;exact ⟨by rw [H.o];rfl,rfl⟩
def posM {α:Type}(rid:α→Int)(l:List α)(id:Int):Nat:=l.countP fun x=>decide (rid x<id)
def hasM {α:Type}(rid:α→Int)(l:List α)(id:Int):Bool:=l.any fun x=>decide (rid x=id)
def Rsg {α:Type}(rid:α→Int)(l:List α):Prop:=l.Pairwise fun x y=>rid x<rid y
theorem ml {α:Type}(p:α→Bool)(l:List α):∀n,n≤l.length→(∀k (h:k<l.length),k<n→p l[k]=true)→(∀k (h:k<l.length),n≤k→p l[k]=false)→l.countP p=n:=by
 induction l with
 | nil=>intro n b _ _;simp at b;simp [b]
 | cons x l ih=>
  intro n b d c;cases n with
  | zero=>
   have a:=c 0 (by simp) (zY _);simp only [Aw] at a;rw [List.countP_cons,ih 0 (Af _) (fun k h hk=>by omega) (fun k h _=>by have:=c (k+1) (by simp;omega) (by omega);simpa using this)];simp [a]
  | succ n=>
   have a:=d 0 (by simp) (by omega);simp only [Aw] at a;rw [List.countP_cons,ih n (by simp at b;omega) (fun k h hk=>by have:=d (k+1) (by simp;omega) (by omega);simpa using this) (fun k h hk=>by have:=c (k+1) (by simp;omega) (by omega);simpa using this)];simp [a]
theorem fS {α:Type}(rid:α→Int)(l:List α)(id:Int)(n:Nat)(hn:n≤l.length)(h1:∀k (h:k<l.length),k<n→rid l[k]<id)(h2:∀k (h:k<l.length),n≤k→id≤rid l[k]):posM rid l id=n:=
 ml _ l n hn (fun k h hk=>decide_eq_true (h1 k h hk)) (fun k h hk=>decide_eq_false (by have:=h2 k h hk;omega))
theorem jy {α:Type}(rid:α→Int)(l:List α)(id:Int)(n:Nat)(hn:n<l.length)(h:rid l[n]=id):hasM rid l id=true:=by
 unfold hasM;rw [At];exact ⟨l[n],Ag hn,decide_eq_true h⟩
theorem eJ {α:Type}(rid:α→Int)(l:List α)(id:Int)(n:Nat)(h1:∀k (h:k<l.length),k<n→rid l[k]<id)(h2:∀k (h:k<l.length),n≤k→id<rid l[k]):hasM rid l id=false:=by
 unfold hasM;rw [Bj];intro x a;obtain ⟨k,hk,rfl⟩:=Ao a;intro e;have e:=of_decide_eq_true e;rcases Az k n with h | h
 ·have:=h1 k hk h;omega
 ·have:=h2 k hk h;omega
theorem aK {α:Type}{rid:α→Int}{l:List α}(h:Rsg rid l):∀i j (hi:i<l.length)(hj:j<l.length),i<j→rid l[i]<rid l[j]:=fun i j hi hj hij=>List.pairwise_iff_getElem.1 h i j hi hj hij
theorem jz {a b:Int}(h:a<b):cmpM a b=-1:=by unfold cmpM;rw [if_pos h]
theorem cv (a:Int):cmpM a a=0:=by unfold cmpM;simp
theorem du {a b:Int}(h:b<a):cmpM a b=1:=by unfold cmpM;rw [if_neg (by omega),if_pos h]
structure RU where
 rid:Int
 v:Int
  deriving DecidableEq
abbrev vRU (x:RU):Value:=.agg #[.int .i64 x.rid,.int .i64 x.v]
abbrev cRU (x:RU):Array Value:=#[.int .i64 x.rid,.int .i64 x.v]
def eRU (x:RU):List Value:=[.int .i64 x.rid,.int .i64 x.v]
theorem kRU (x:RU):(eRU x).length=2:=rfl
theorem j9 (x:RU):∀u∈eRU x,u.oneCell'=true:=by intro u a;simp [eRU] at a;rcases a with rfl | rfl <;> rfl
theorem sq:(Tryz.prog.info? 268).map (fun i=>(i.zero,i.size,i.bytes))=some (some (.agg #[.int .i64 0,.int .i64 0]),2,16):=by kernel_rfl
theorem atRU {W:World}{b o:Nat}{x:RU}(h:∀j u,(eRU x)[j]?=some u→W.cell? ⟨b,o+j,none⟩=some u):W.cell? ⟨b,o,none⟩=some (.int .i64 x.rid)∧W.cell? ⟨b,o+1,none⟩=some (.int .i64 x.v):=⟨h 0 _ rfl,h 1 _ rfl⟩
theorem fC (x:RU)(id:Int)(w:World):Calls Tryz.prog 232 #[vRU x,.int .i64 id] w fun e w'=>e=.returned (.int .i64 (cmpM x.rid id))∧Bw w w':=by
 go_enter Tryz.func232,Tryz.ntmps232;go_wp2_with (go_at_call 233;refine (bN _ _ _).mono ?_;rintro e a ⟨rfl,rfl⟩)
 go_ret;exact ⟨rfl,Bn⟩
theorem bsRU (v:Value)(l:List RU)(id:Int)(w:World)(hv:Sl eRU 2 w v l)(hn:l.length≤1000000)(hs:Rsg RU.rid l) :
  Calls Tryz.prog 231 #[v,.int .i64 id,.func (.func 232) #[] #[]] w fun e w'=>e=.returned (.tuple #[.int .i64 (posM RU.rid l id:Nat),.bool (hasM RU.rid l id)])∧Bw w w':=by
 obtain ⟨a,Q,rfl,_,S,H,f⟩:=hv;unfold maxLen at H;have g:=aa f;have I:=aa hs;clear f hs;go_enter Tryz.func231,Tryz.ntmps231;go_wp2_with fail;go_loopw [9,10] (fun vi vj wr=>∃i j:Nat,i≤j∧j≤l.length∧vi=.int .i64 i∧vj=.int .i64 j∧Bw w wr∧(∀k (h:k<l.length),k<i→l[k].rid<id)∧(∀k (h:k<l.length),j≤k→id≤l[k].rid)) (fun vi vj _=>(intOf vj).toNat - (intOf vi).toNat)
 case atStart=>exact ⟨0,l.length,Af _,zY _,rfl,rfl,zZ _ _,(fun k h h2=>by omega),(fun k h h2=>by omega)⟩
 case round=>
  obtain ⟨i,j,O,M,rfl,rfl,d,D,z⟩:=hrel;have r:=aa D;have t:=aa z;clear D z;by_cases hlt:i<j
  ·obtain ⟨b,m,rfl,q,n⟩:=g.o (by omega);have L:(i+j) / 2<l.length:=by omega
   have N:i≤(i+j) / 2:=by omega
   have R:(i+j) / 2<j:=by omega
   obtain ⟨B,C⟩:=atRU (n ((i+j) / 2) L);have E:=(d.c (p:=⟨b,m+((i+j) / 2) * 2,none⟩) q).trans B;have G:=(d.c (p:=⟨b,m+((i+j) / 2) * 2+1,none⟩) q).trans C;clear n B C;obtain ⟨x,hx⟩:∃x,l[(i+j) / 2]=x:=⟨_,rfl⟩;rw [hx] at E G;have s:=aa hx;clear hx;by_cases hc:x.rid<id
   ·have u:=aa (jz hc);go_wp2_with (go_at_call 232;refine (fC x id _).mono ?_;rintro e F ⟨rfl,y⟩;rw [u.o])
    go_roundw
    case rel=>exact ⟨(i+j) / 2+1,j,by omega,M,by go_num,rfl,d.trans (y.mono d.size),(fun k h hk=>by
     rcases Az k ((i+j) / 2) with h3 | h3
     ·have:=aK I.o k ((i+j) / 2) h L h3
      rw [s.o] at this;omega
     ·obtain rfl:k=(i+j) / 2:=by omega
      rw [s.o];exact hc),t.o⟩
    case measure=>simp [intOf];omega
   ·have u:Hid (cmpM x.rid id=0∨cmpM x.rid id=1):=aa (by
     by_cases e:x.rid=id
     ·rw [e];exact Or.inl (cv _)
     ·exact Or.inr (du (by omega)))
    rcases u.o with HD | HD
    all_goals
     have P:=aa HD;clear HD;go_wp2_with (go_at_call 232;refine (fC x id _).mono ?_;rintro e F ⟨rfl,y⟩;rw [P.o])
     go_roundw
     case rel=>exact ⟨i,(i+j) / 2,by omega,by omega,rfl,by go_num,d.trans (y.mono d.size),r.o,(fun k h hk=>by
      rcases Az ((i+j) / 2) k with h3 | h3
      ·have:=aK I.o ((i+j) / 2) k L h h3
       rw [s.o] at this;omega
      ·obtain rfl:k=(i+j) / 2:=by omega
       rw [s.o];omega)⟩
     case measure=>simp [intOf];omega
  ·obtain rfl:i=j:=by omega
   have J:=aa (fS RU.rid l id i M r.o t.o);by_cases hin:i<l.length
   ·obtain ⟨b,m,rfl,q,n⟩:=g.o (by omega);obtain ⟨B,C⟩:=atRU (n i hin);have E:=(d.c (p:=⟨b,m+i * 2,none⟩) q).trans B;have G:=(d.c (p:=⟨b,m+i * 2+1,none⟩) q).trans C;clear n B C;have K:=t.o i hin (zY _);obtain ⟨x,hx⟩:∃x,l[i]=x:=⟨_,rfl⟩;rw [hx] at E G K;have s:=aa hx;clear hx;by_cases hc:x.rid=id
    ·have A:=aa (jy RU.rid l id i hin (by rw [s.o];exact hc));have u:Hid (cmpM x.rid id=0):=aa (by rw [hc];exact cv _);clear hc;go_wp2_with (go_at_call 232;refine (fC x id _).mono ?_;rintro e F ⟨rfl,y⟩;rw [u.o])
     go_ret2;exact ⟨by rw [J.o,A.o];rfl,d.trans (y.mono d.size)⟩
    ·have A:=aa (eJ RU.rid l id i r.o (fun k h hk=>by
      rcases Az i k with h3 | h3
      ·have:=aK I.o i k hin h h3
       rw [s.o] at this;omega
      ·obtain rfl:k=i:=by omega
       rw [s.o];omega))
     have u:Hid (cmpM x.rid id=1):=aa (du (by omega));clear hc;go_wp2_with (go_at_call 232;refine (fC x id _).mono ?_;rintro e F ⟨rfl,y⟩;rw [u.o])
     go_ret2;exact ⟨by rw [J.o,A.o];rfl,d.trans (y.mono d.size)⟩
   ·have A:=aa (eJ RU.rid l id i r.o (fun k h hk=>by omega));have T:¬ ((i:Int)<(l.length:Int)):=by omega
    go_wp2_with fail;go_ret2;exact ⟨by rw [J.o,A.o];rfl,d⟩
theorem sr (g:Nat)(v:Value)(room:Int)(l:List RU)(id:Int)(w:World)(hb:Blk w g 191 #[.int .i64 room,v])(hv:Sl eRU 2 w v l)(hn:l.length≤1000000)(hs:Rsg RU.rid l) :
  Calls Tryz.prog 186 #[ptr g,.int .i64 id] w fun e w'=>e=.returned (.tuple #[.int .i64 (posM RU.rid l id:Nat),.bool (hasM RU.rid l id)])∧Bw w w':=by
 have h:=hb.c 1;have f:=aa hv;have d:=aa hs;obtain ⟨a,b,rfl,_⟩:=hv;clear hs hb;go_enter Tryz.func186,Tryz.ntmps186;go_wp2_with (go_at_call 231;refine (bsRU _ l id _ f.o hn d.o).mono ?_;rintro e w1 ⟨rfl,c1⟩)
 go_ret2;exact ⟨rfl,c1⟩
theorem fD (x:RT)(id:Int)(w:World):Calls Tryz.prog 237 #[vRT x,.int .i64 id] w fun e w'=>e=.returned (.int .i64 (cmpM x.rid id))∧Bw w w':=by
 go_enter Tryz.func237,Tryz.ntmps237;go_wp2_with (go_at_call 233;refine (bN _ _ _).mono ?_;rintro e a ⟨rfl,rfl⟩)
 go_ret;exact ⟨rfl,Bn⟩
theorem bsRT (v:Value)(l:List RT)(id:Int)(w:World)(hv:Sl eRT 7 w v l)(hn:l.length≤1000000)(hs:Rsg RT.rid l) :
  Calls Tryz.prog 236 #[v,.int .i64 id,.func (.func 237) #[] #[]] w fun e w'=>e=.returned (.tuple #[.int .i64 (posM RT.rid l id:Nat),.bool (hasM RT.rid l id)])∧Bw w w':=by
 obtain ⟨a,ab,rfl,_,ad,O,m⟩:=hv;unfold maxLen at O;have n:=aa m;have R:=aa hs;clear m hs;go_enter Tryz.func236,Tryz.ntmps236;go_wp2_with fail;go_loopw [9,10] (fun vi vj wr=>∃i j:Nat,i≤j∧j≤l.length∧vi=.int .i64 i∧vj=.int .i64 j∧Bw w wr∧(∀k (h:k<l.length),k<i→l[k].rid<id)∧(∀k (h:k<l.length),j≤k→id≤l[k].rid)) (fun vi vj _=>(intOf vj).toNat - (intOf vi).toNat)
 case atStart=>exact ⟨0,l.length,Af _,zY _,rfl,rfl,zZ _ _,(fun k h h2=>by omega),(fun k h h2=>by omega)⟩
 case round=>
  obtain ⟨i,j,Y,W,rfl,rfl,d,H,z⟩:=hrel;have r:=aa H;have t:=aa z;clear H z;by_cases hlt:i<j
  ·obtain ⟨b,f,rfl,g,q⟩:=n.o (by omega);have V:(i+j) / 2<l.length:=by omega
   have X:i≤(i+j) / 2:=by omega
   have ac:(i+j) / 2<j:=by omega
   obtain ⟨B,G,I,D,F,E,C⟩:=atRT (q ((i+j) / 2) V);have K:=(d.c (p:=⟨b,f+((i+j) / 2) * 7,none⟩) g).trans B;have N:=(d.c (p:=⟨b,f+((i+j) / 2) * 7+1,none⟩) g).trans G;have P:=(d.c (p:=⟨b,f+((i+j) / 2) * 7+2,none⟩) g).trans I;have Q:=(d.c (p:=⟨b,f+((i+j) / 2) * 7+3,none⟩) g).trans D;have J:=(d.c (p:=⟨b,f+((i+j) / 2) * 7+4,none⟩) g).trans F;have U:=(d.c (p:=⟨b,f+((i+j) / 2) * 7+5,none⟩) g).trans E;have M:=(d.c (p:=⟨b,f+((i+j) / 2) * 7+6,none⟩) g).trans C;clear q B G I D F E C;obtain ⟨x,hx⟩:∃x,l[(i+j) / 2]=x:=⟨_,rfl⟩;rw [hx] at K N P Q J U M;have s:=aa hx;clear hx;by_cases hc:x.rid<id
   ·have u:=aa (jz hc);go_wp2_with (go_at_call 237;refine (fD x id _).mono ?_;rintro e L ⟨rfl,y⟩;rw [u.o])
    go_roundw
    case rel=>exact ⟨(i+j) / 2+1,j,by omega,W,by go_num,rfl,d.trans (y.mono d.size),(fun k h hk=>by
     rcases Az k ((i+j) / 2) with h3 | h3
     ·have:=aK R.o k ((i+j) / 2) h V h3
      rw [s.o] at this;omega
     ·obtain rfl:k=(i+j) / 2:=by omega
      rw [s.o];exact hc),t.o⟩
    case measure=>simp [intOf];omega
   ·have u:Hid (cmpM x.rid id=0∨cmpM x.rid id=1):=aa (by
     by_cases e:x.rid=id
     ·rw [e];exact Or.inl (cv _)
     ·exact Or.inr (du (by omega)))
    rcases u.o with HD | HD
    all_goals
     have Z:=aa HD;clear HD;go_wp2_with (go_at_call 237;refine (fD x id _).mono ?_;rintro e L ⟨rfl,y⟩;rw [Z.o])
     go_roundw
     case rel=>exact ⟨i,(i+j) / 2,by omega,by omega,rfl,by go_num,d.trans (y.mono d.size),r.o,(fun k h hk=>by
      rcases Az ((i+j) / 2) k with h3 | h3
      ·have:=aK R.o ((i+j) / 2) k V h h3
       rw [s.o] at this;omega
      ·obtain rfl:k=(i+j) / 2:=by omega
       rw [s.o];omega)⟩
     case measure=>simp [intOf];omega
  ·obtain rfl:i=j:=by omega
   have S:=aa (fS RT.rid l id i W r.o t.o);by_cases hin:i<l.length
   ·obtain ⟨b,f,rfl,g,q⟩:=n.o (by omega);obtain ⟨B,G,I,D,F,E,C⟩:=atRT (q i hin);have K:=(d.c (p:=⟨b,f+i * 7,none⟩) g).trans B;have N:=(d.c (p:=⟨b,f+i * 7+1,none⟩) g).trans G;have P:=(d.c (p:=⟨b,f+i * 7+2,none⟩) g).trans I;have Q:=(d.c (p:=⟨b,f+i * 7+3,none⟩) g).trans D;have J:=(d.c (p:=⟨b,f+i * 7+4,none⟩) g).trans F;have U:=(d.c (p:=⟨b,f+i * 7+5,none⟩) g).trans E;have M:=(d.c (p:=⟨b,f+i * 7+6,none⟩) g).trans C;clear q B G I D F E C;have T:=t.o i hin (zY _);obtain ⟨x,hx⟩:∃x,l[i]=x:=⟨_,rfl⟩;rw [hx] at K N P Q J U M T;have s:=aa hx;clear hx;by_cases hc:x.rid=id
    ·have A:=aa (jy RT.rid l id i hin (by rw [s.o];exact hc));have u:Hid (cmpM x.rid id=0):=aa (by rw [hc];exact cv _);clear hc;go_wp2_with (go_at_call 237;refine (fD x id _).mono ?_;rintro e L ⟨rfl,y⟩;rw [u.o])
     go_ret2;exact ⟨by rw [S.o,A.o];rfl,d.trans (y.mono d.size)⟩
    ·have A:=aa (eJ RT.rid l id i r.o (fun k h hk=>by
      rcases Az i k with h3 | h3
      ·have:=aK R.o i k hin h h3
       rw [s.o] at this;omega
      ·obtain rfl:k=i:=by omega
       rw [s.o];omega))
     have u:Hid (cmpM x.rid id=1):=aa (du (by omega));clear hc;go_wp2_with (go_at_call 237;refine (fD x id _).mono ?_;rintro e L ⟨rfl,y⟩;rw [u.o])
     go_ret2;exact ⟨by rw [S.o,A.o];rfl,d.trans (y.mono d.size)⟩
   ·have A:=aa (eJ RT.rid l id i r.o (fun k h hk=>by omega));have ae:¬ ((i:Int)<(l.length:Int)):=by omega
    go_wp2_with fail;go_ret2;exact ⟨by rw [S.o,A.o];rfl,d⟩
theorem zm (g:Nat)(v:Value)(room:Int)(l:List RT)(id:Int)(w:World)(hb:Blk w g 188 #[.int .i64 room,v])(hv:Sl eRT 7 w v l)(hn:l.length≤1000000)(hs:Rsg RT.rid l) :
  Calls Tryz.prog 188 #[ptr g,.int .i64 id] w fun e w'=>e=.returned (.tuple #[.int .i64 (posM RT.rid l id:Nat),.bool (hasM RT.rid l id)])∧Bw w w':=by
 have h:=hb.c 1;have f:=aa hv;have d:=aa hs;obtain ⟨a,b,rfl,_⟩:=hv;clear hs hb;go_enter Tryz.func188,Tryz.ntmps188;go_wp2_with (go_at_call 236;refine (bsRT _ l id _ f.o hn d.o).mono ?_;rintro e w1 ⟨rfl,c1⟩)
 go_ret2;exact ⟨rfl,c1⟩
theorem fE (x:RH)(id:Int)(w:World):Calls Tryz.prog 353 #[vRH x,.int .i64 id] w fun e w'=>e=.returned (.int .i64 (cmpM x.rid id))∧Bw w w':=by
 go_enter Tryz.func353,Tryz.ntmps353;go_wp2_with (go_at_call 233;refine (bN _ _ _).mono ?_;rintro e a ⟨rfl,rfl⟩)
 go_ret;exact ⟨rfl,Bn⟩
theorem bsRH (v:Value)(l:List RH)(id:Int)(w:World)(hv:Sl eRH 5 w v l)(hn:l.length≤1000000)(hs:Rsg RH.rid l) :
  Calls Tryz.prog 352 #[v,.int .i64 id,.func (.func 353) #[] #[]] w fun e w'=>e=.returned (.tuple #[.int .i64 (posM RH.rid l id:Nat),.bool (hasM RH.rid l id)])∧Bw w w':=by
 obtain ⟨a,W,rfl,_,Y,L,m⟩:=hv;unfold maxLen at L;have n:=aa m;have O:=aa hs;clear m hs;go_enter Tryz.func352,Tryz.ntmps352;go_wp2_with fail;go_loopw [9,10] (fun vi vj wr=>∃i j:Nat,i≤j∧j≤l.length∧vi=.int .i64 i∧vj=.int .i64 j∧Bw w wr∧(∀k (h:k<l.length),k<i→l[k].rid<id)∧(∀k (h:k<l.length),j≤k→id≤l[k].rid)) (fun vi vj _=>(intOf vj).toNat - (intOf vi).toNat)
 case atStart=>exact ⟨0,l.length,Af _,zY _,rfl,rfl,zZ _ _,(fun k h h2=>by omega),(fun k h h2=>by omega)⟩
 case round=>
  obtain ⟨i,j,U,S,rfl,rfl,d,F,z⟩:=hrel;have r:=aa F;have t:=aa z;clear F z;by_cases hlt:i<j
  ·obtain ⟨b,f,rfl,g,q⟩:=n.o (by omega);have R:(i+j) / 2<l.length:=by omega
   have T:i≤(i+j) / 2:=by omega
   have X:(i+j) / 2<j:=by omega
   obtain ⟨B,E,G,C,D⟩:=atRH (q ((i+j) / 2) R);have I:=(d.c (p:=⟨b,f+((i+j) / 2) * 5,none⟩) g).trans B;have K:=(d.c (p:=⟨b,f+((i+j) / 2) * 5+1,none⟩) g).trans E;have M:=(d.c (p:=⟨b,f+((i+j) / 2) * 5+2,none⟩) g).trans G;have N:=(d.c (p:=⟨b,f+((i+j) / 2) * 5+3,none⟩) g).trans C;have H:=(d.c (p:=⟨b,f+((i+j) / 2) * 5+4,none⟩) g).trans D;clear q B E G C D;obtain ⟨x,hx⟩:∃x,l[(i+j) / 2]=x:=⟨_,rfl⟩;rw [hx] at I K M N H;have s:=aa hx;clear hx;by_cases hc:x.rid<id
   ·have u:=aa (jz hc);go_wp2_with (go_at_call 353;refine (fE x id _).mono ?_;rintro e J ⟨rfl,y⟩;rw [u.o])
    go_roundw
    case rel=>exact ⟨(i+j) / 2+1,j,by omega,S,by go_num,rfl,d.trans (y.mono d.size),(fun k h hk=>by
     rcases Az k ((i+j) / 2) with h3 | h3
     ·have:=aK O.o k ((i+j) / 2) h R h3
      rw [s.o] at this;omega
     ·obtain rfl:k=(i+j) / 2:=by omega
      rw [s.o];exact hc),t.o⟩
    case measure=>simp [intOf];omega
   ·have u:Hid (cmpM x.rid id=0∨cmpM x.rid id=1):=aa (by
     by_cases e:x.rid=id
     ·rw [e];exact Or.inl (cv _)
     ·exact Or.inr (du (by omega)))
    rcases u.o with HD | HD
    all_goals
     have V:=aa HD;clear HD;go_wp2_with (go_at_call 353;refine (fE x id _).mono ?_;rintro e J ⟨rfl,y⟩;rw [V.o])
     go_roundw
     case rel=>exact ⟨i,(i+j) / 2,by omega,by omega,rfl,by go_num,d.trans (y.mono d.size),r.o,(fun k h hk=>by
      rcases Az ((i+j) / 2) k with h3 | h3
      ·have:=aK O.o ((i+j) / 2) k R h h3
       rw [s.o] at this;omega
      ·obtain rfl:k=(i+j) / 2:=by omega
       rw [s.o];omega)⟩
     case measure=>simp [intOf];omega
  ·obtain rfl:i=j:=by omega
   have P:=aa (fS RH.rid l id i S r.o t.o);by_cases hin:i<l.length
   ·obtain ⟨b,f,rfl,g,q⟩:=n.o (by omega);obtain ⟨B,E,G,C,D⟩:=atRH (q i hin);have I:=(d.c (p:=⟨b,f+i * 5,none⟩) g).trans B;have K:=(d.c (p:=⟨b,f+i * 5+1,none⟩) g).trans E;have M:=(d.c (p:=⟨b,f+i * 5+2,none⟩) g).trans G;have N:=(d.c (p:=⟨b,f+i * 5+3,none⟩) g).trans C;have H:=(d.c (p:=⟨b,f+i * 5+4,none⟩) g).trans D;clear q B E G C D;have Q:=t.o i hin (zY _);obtain ⟨x,hx⟩:∃x,l[i]=x:=⟨_,rfl⟩;rw [hx] at I K M N H Q;have s:=aa hx;clear hx;by_cases hc:x.rid=id
    ·have A:=aa (jy RH.rid l id i hin (by rw [s.o];exact hc));have u:Hid (cmpM x.rid id=0):=aa (by rw [hc];exact cv _);clear hc;go_wp2_with (go_at_call 353;refine (fE x id _).mono ?_;rintro e J ⟨rfl,y⟩;rw [u.o])
     go_ret2;exact ⟨by rw [P.o,A.o];rfl,d.trans (y.mono d.size)⟩
    ·have A:=aa (eJ RH.rid l id i r.o (fun k h hk=>by
      rcases Az i k with h3 | h3
      ·have:=aK O.o i k hin h h3
       rw [s.o] at this;omega
      ·obtain rfl:k=i:=by omega
       rw [s.o];omega))
     have u:Hid (cmpM x.rid id=1):=aa (du (by omega));clear hc;go_wp2_with (go_at_call 353;refine (fE x id _).mono ?_;rintro e J ⟨rfl,y⟩;rw [u.o])
     go_ret2;exact ⟨by rw [P.o,A.o];rfl,d.trans (y.mono d.size)⟩
   ·have A:=aa (eJ RH.rid l id i r.o (fun k h hk=>by omega));have Z:¬ ((i:Int)<(l.length:Int)):=by omega
    go_wp2_with fail;go_ret2;exact ⟨by rw [P.o,A.o];rfl,d⟩
theorem mn (g:Nat)(v:Value)(room:Int)(l:List RH)(id:Int)(w:World)(hb:Blk w g 227 #[.int .i64 room,v])(hv:Sl eRH 5 w v l)(hn:l.length≤1000000)(hs:Rsg RH.rid l) :
  Calls Tryz.prog 320 #[ptr g,.int .i64 id] w fun e w'=>e=.returned (.tuple #[.int .i64 (posM RH.rid l id:Nat),.bool (hasM RH.rid l id)])∧Bw w w':=by
 have h:=hb.c 1;have f:=aa hv;have d:=aa hs;obtain ⟨a,b,rfl,_⟩:=hv;clear hs hb;go_enter Tryz.func320,Tryz.ntmps320;go_wp2_with (go_at_call 352;refine (bsRH _ l id _ f.o hn d.o).mono ?_;rintro e w1 ⟨rfl,c1⟩)
 go_ret2;exact ⟨rfl,c1⟩
theorem mo (g:Nat)(v:Value)(room:Int)(l:List RH)(w:World)(hb:Blk w g 227 #[.int .i64 room,v])(hv:Sl eRH 5 w v l)(hr:0≤room∧room≤1000000)(hn:l.length≤1000000) :
  Calls Tryz.prog 309 #[ptr g] w fun e w'=>e=.returned (.int .i64 (room - l.length))∧Bw w w':=by
 have d:=hb.c 0;have h:=hb.c 1;obtain ⟨a,b,rfl,_⟩:=hv;have f:IntKind.i64.wrap (room - (l.length:Int))=room - (l.length:Int):=Ax _ (by omega);clear hb;go_enter Tryz.func309,Tryz.ntmps309;go_wp2;go_quiet (fail)
 go_wp2;go_ret;exact ⟨rfl,aj (zZ _ _) _⟩
def BCopyPost (ms na:Nat)(bl:List Int)(pst:Int)(w:World)(e:Ending)(w':World):Prop:=∃g v,e=.returned (ptr g)∧BookAt w' w.heap.size g v ms na bl pst∧w.heap.size≤g∧Bw w w'
theorem eK (B g:Nat)(vb:Value)(ms na:Nat)(bl:List Int)(pst:Int)(w:World)(hb:BookAt w B g vb ms na bl pst)(hn:bl.length≤1000000):Calls Tryz.prog 177 #[ptr g] w (BCopyPost ms na bl pst w):=by
 have q:=aa hb;have m:=ag hb.own;obtain ⟨i,j,rfl⟩:=m;have n:=hb.blk.c 0;have s:=hb.blk.c 1;have p:=hb.blk.c 2;have r:=hb.blk.c 3;have b:Bw w (w.alloc (.cells #[.int .i64 ms,.int .i64 na,.slice i bl.length j,.int .i64 pst] 224)):=Bn;have v:=(hb.keep b).blk.c 2;have d:=aa (Sl.own kI (hb.keep b).own);have l:=aa (Blk.new w 224 #[.int .i64 ms,.int .i64 na,.slice i bl.length j,.int .i64 pst]);clear hb;go_enter Tryz.func177,Tryz.ntmps177;go_wp2_with (go_at_call 225;refine (yS _ bl _ d.o hn).mono ?_;rintro e w1 ⟨v1,rfl,hown,c1⟩;have a:=aa (l.o.keep c1);have t:=a.o.c 2;have u:=a.o.free 2;have f:=ag hown;obtain ⟨n1,k1,rfl⟩:=f)
 go_ret;refine ⟨w.heap.size,.slice n1 bl.length k1,rfl,⟨a.o.set 2 _,?_⟩,zY _,?_⟩
 ·exact au (aw hown (by simp)) fun k hk=>An _ _ _ _ (aD a.o hown (by decide) k hk)
 ·have h:=b.trans (c1.mono (by simp));exact ⟨h.os,h.tape,h.output,by simpa [World.setCell] using h.size,fun k hk=>(An w1 ⟨w.heap.size,2,none⟩ _ k (by show k≠w.heap.size;omega)).trans (h.block k hk)⟩
theorem iC (g:Nat)(v:Value)(room:Int)(l:List RH)(w:World)(hb:Blk w g 227 #[.int .i64 room,v])(hv:Sl eRH 5 w v l)(hn:l.length≤1000000):Calls Tryz.prog 260 #[ptr g] w (CPo eRH 333 5 l w):=by
 have j:=hb.c 1;have d:=aa hv;obtain ⟨a,b,rfl,_⟩:=hv;clear hb;go_enter Tryz.func260,Tryz.ntmps260;go_wp2_with (go_at_call 319;refine (wt _ l _ d.o hn).mono ?_;rintro e w1 ⟨v1,rfl,hown,c1⟩)
 have f:=ag hown;obtain ⟨h,i,rfl⟩:=f;go_ret;exact ⟨_,rfl,hown,c1⟩
def heldM (l:List RH)(a:Ac)(ass:Int):Int:=l.foldl (fun S r=>if r.kind=a.k∧r.mem=a.m∧r.ass=ass then wrap64 (S+r.amt) else S) 0
theorem pc (l:List RH)(r:RH)(a:Ac)(ass:Int):heldM (l++[r]) a ass=if r.kind=a.k∧r.mem=a.m∧r.ass=ass then wrap64 (heldM l a ass+r.amt) else heldM l a ass:=by
 unfold heldM;rw [List.foldl_append];rfl
theorem oq (n:Int):In64 (wrap64 n):=by unfold In64 wrap64;omega
theorem wI (l:List RH)(a:Ac)(ass:Int):In64 (heldM l a ass):=by
 unfold heldM;have:∀(l:List RH) (S:Int),In64 S→In64 (l.foldl (fun S r=>if r.kind=a.k∧r.mem=a.m∧r.ass=ass then wrap64 (S+r.amt) else S) S):=by
  intro l;induction l with
  | nil=>intro S h;exact h
  | cons r l ih=>
   intro S h;rw [List.foldl_cons];refine ih _ ?_;split
   ·exact oq _
   ·exact h
 exact this l 0 (by decide)
theorem ke (G gb gh:Nat)(v:Value)(room:Int)(l:List RH)(a:Ac)(ass:Int)(w:World)(hg:Blk w G 184 #[ptr gb,ptr gh])(hb:Blk w gh 227 #[.int .i64 room,v])(hv:Sl eRH 5 w v l)(hn:l.length≤1000) :
  Calls Tryz.prog 228 #[ptr G,aval a,.int .i64 ass] w fun e w'=>e=.returned (.int .i64 (heldM l a ass))∧Bw w w':=by
 obtain ⟨j,m⟩:=a;have r:Bw w (w.alloc (.cells (acs ⟨j,m⟩) 81)):=Bn;have p1:=(hg.keep r).c 1;have T:=aa (iC gh v room l _ (hb.keep r) (hv.keep r) (by omega));have I:=aa (Blk.new w 81 (acs ⟨j,m⟩));clear hg hb hv;go_enter Tryz.func228,Tryz.ntmps228;go_wp2_with (go_at_call 260;refine T.o.mono ?_;rintro e w1 ⟨v1,rfl,hown,c1⟩;have X:=ag hown;obtain ⟨n1,k1,rfl⟩:=X)
 have U:=aa (Sl.own kRH hown);have D:=aa (I.o.keep c1);have H:=r.trans (c1.mono r.size);clear hown c1 I;go_loopw [7,16] (fun vn vi wr=>∃k:Nat,k≤l.length∧vi=.int .i64 k∧vn=.int .i64 (heldM (l.take k) ⟨j,m⟩ ass)∧Bw w1 wr) (fun _ vi _=>l.length - (intOf vi).toNat)
 case atStart=>exact ⟨0,Af _,rfl,rfl,zZ _ _⟩
 case round=>
  obtain ⟨k,hk,rfl,rfl,d⟩:=hrel;by_cases hlt:k<l.length
  ·obtain ⟨O,u,q,_,R,E,s⟩:=U.o;obtain ⟨e1,e2⟩:n1=O∧k1=u:=by simpa using q
   subst e1 e2;obtain ⟨b,i,rfl,g,t⟩:=s (by omega);obtain ⟨q0,q1,q2,q3,q4⟩:=atRH (t k hlt);have L:=(d.c (p:=⟨b,i+k * 5,none⟩) g).trans q0;have M:=(d.c (p:=⟨b,i+k * 5+1,none⟩) g).trans q1;have P:=(d.c (p:=⟨b,i+k * 5+2,none⟩) g).trans q2;have Q:=(d.c (p:=⟨b,i+k * 5+3,none⟩) g).trans q3;have J:=(d.c (p:=⟨b,i+k * 5+4,none⟩) g).trans q4;have Y:(0:Int)≤(k:Int):=by omega
   have W:(k:Int)<(l.length:Int):=by omega
   unfold maxLen at E;have f:=aa (pc (l.take k) l[k] ⟨j,m⟩ ass);rw [←z9 hlt] at f;clear t q0 q1 q2 q3 q4 s q;generalize l[k]=x at *;generalize heldM (l.take k) ⟨j,m⟩ ass=S at *;obtain ⟨N,n,z,B,V⟩:=x;dsimp only at L M P Q J f;have C:=d.alloc d.size (.cells (cRH ⟨N,n,z,B,V⟩) 333);have y:=D.o.keep C;have Z:=y.c 0;have s1:=y.c 1;by_cases hc:n=j∧z=m∧B=ass
   ·obtain ⟨rfl,rfl,rfl⟩:=hc;rw [if_pos ⟨rfl,rfl,rfl⟩] at f;go_wp2_with fail;go_roundw
    case rel=>exact ⟨k+1,by omega,by go_num,by rw [f.o],C⟩
    case measure=>simp [intOf];omega
   ·rw [if_neg hc] at f;have F:n≠j∨(n=j∧z≠m)∨(n=j∧z=m∧B≠ass):=by omega
    clear hc;rcases F with h | ⟨rfl,h⟩ | ⟨rfl,rfl,h⟩
    all_goals
     have hb:=beq_eq_false_iff_ne.2 h;clear h;go_wp2_with fail;go_roundw
     case rel=>exact ⟨k+1,by omega,by go_num,by rw [f.o],C⟩
     case measure=>simp [intOf];omega
  ·have K:¬ ((k:Int)<(l.length:Int)):=by omega
   have A:l.take k=l:=Ae (by omega);rw [A];go_wp2_with fail;go_ret;exact ⟨rfl,H.trans (d.mono H.size)⟩
structure VtA (w:World)(B gv gb gh:Nat)(vb vh:Value)(ms na:Nat)(bal:List Int)(pst room:Int)(hlds:List RH):Prop where
 blk:Blk w gv 184 #[ptr gb,ptr gh]
 book:BookAt w B gb vb ms na bal pst
 hblk:Blk w gh 227 #[.int .i64 room,vh]
 hown:w.ownsRow B 333 5 vh hlds.length (flat eRH hlds)
 l1:B≤gv
 l2:B≤gb
 l3:B≤gh
theorem VtA.keep {w w':World}{B gv gb gh:Nat}{vb vh:Value}{ms na:Nat}{bal:List Int}{pst room:Int}{hlds:List RH}(h:VtA w B gv gb gh vb vh ms na bal pst room hlds)(hb:Bw w w'):VtA w' B gv gb gh vb vh ms na bal pst room hlds:=
 ⟨h.blk.keep hb,h.book.keep hb,h.hblk.keep hb,ah h.hown hb,h.l1,h.l2,h.l3⟩
theorem VtA.keepD {w wd w':World}{B gv gb gh:Nat}{vb vh:Value}{ms na:Nat}{bal:List Int}{pst room:Int}{hlds:List RH}(h:VtA w B gv gb gh vb vh ms na bal pst room hlds)(hb:Bw wd w')(e:wd.heap=w.heap:=by rfl):VtA w' B gv gb gh vb vh ms na bal pst room hlds:=
 ⟨h.blk.keepD hb e,⟨h.book.blk.keepD hb e,bD h.book.own hb e⟩,h.hblk.keepD hb e,bD h.hown hb e,h.l1,h.l2,h.l3⟩
theorem BookAt.keepD {w wd w':World}{B g:Nat}{v:Value}{ms na:Int}{l:List Int}{p:Int}(h:BookAt w B g v ms na l p)(hb:Bw wd w')(e:wd.heap=w.heap:=by rfl):BookAt w' B g v ms na l p:=⟨h.blk.keepD hb e,bD h.own hb e⟩
def lowM (ms na:Nat)(hlds:List RH)(bal bal2:List Int)(x:En):Bool:=
 !freeM ⟨x.k,x.m⟩&&decide ((balM ms na bal2 ⟨x.k,x.m⟩ x.ass).1<(balM ms na bal ⟨x.k,x.m⟩ x.ass).1)&&decide ((balM ms na bal2 ⟨x.k,x.m⟩ x.ass).1<heldM hlds ⟨x.k,x.m⟩ x.ass)
def belowM (ms na:Nat)(hlds:List RH)(bal bal2:List Int)(l:List En):Bool:=l.any (lowM ms na hlds bal bal2)
theorem zn {α:Type}(f:α→Bool)(l:List α)(k:Nat)(h:k<l.length)(hf:f l[k]=true):l.any f=true:=by
 rw [At];exact ⟨l[k],Ag h,hf⟩
theorem zo {α:Type}(f:α→Bool)(l:List α)(h:∀j (h:j<l.length),f l[j]=false):l.any f=false:=by
 rw [Bj];intro x a;obtain ⟨i,hi,rfl⟩:=Ao a;simp [h i hi]
theorem iD (B gv gb gh g2 B2:Nat)(vb vh vb2 v:Value)(ms na:Nat)(hms:ms≤16)(hna:na≤9)(bal bal2:List Int)(hl:bal.length=na * (6+3 * ms))(hl2:bal2.length=na * (6+3 * ms))(pst posted2 room:Int)(hlds:List RH)(hn:hlds.length≤1000)(l:List En)(w:World)
  (hV:VtA w B gv gb gh vb vh ms na bal pst room hlds) (hB2:BookAt w B2 g2 vb2 ms na bal2 posted2) (hv:Sl eEn 4 w v l) :
  Calls Tryz.prog 179 #[ptr gv,ptr g2,v] w fun e w'=>e=.returned (.bool (belowM ms na hlds bal bal2 l))∧Bw w w':=by
 have HV:=aa hV;have af:=aa hB2;obtain ⟨a,al,rfl,_,ai,ag,q⟩:=hv;unfold maxLen at ag;have E:=aa q;clear q hV hB2;go_enter Tryz.func179,Tryz.ntmps179;go_wp2_with fail;go_loopw [15] (fun vi wr=>∃k:Nat,k≤l.length∧vi=.int .i64 k∧Bw w wr∧∀j (h:j<k) (h2:j<l.length),lowM ms na hlds bal bal2 l[j]=false) (fun vi _=>l.length - (intOf vi).toNat)
 case atStart=>exact ⟨0,Af _,rfl,zZ _ _,fun j h=>by omega⟩
 case round=>
  obtain ⟨k,hk,rfl,g,O⟩:=hrel;have F:=aa O;clear O;by_cases hlt:k<l.length
  ·obtain ⟨b,C,rfl,A,K⟩:=E.o (by omega);obtain ⟨Q,S,T,q3⟩:=atEn (K k hlt);have r0:=(g.c (p:=⟨b,C+k * 4,none⟩) A).trans Q;have r1:=(g.c (p:=⟨b,C+k * 4+1,none⟩) A).trans S;have r2:=(g.c (p:=⟨b,C+k * 4+2,none⟩) A).trans T;have r3:=(g.c (p:=⟨b,C+k * 4+3,none⟩) A).trans q3;have ak:(0:Int)≤(k:Int):=by omega
   have aj:(k:Int)<(l.length:Int):=by omega
   obtain ⟨z,U⟩:∃z,lowM ms na hlds bal bal2 l[k]=z:=⟨_,rfl⟩;have Z:=aa U;have ae:=aa (fun (h:z=true)=>zn (lowM ms na hlds bal bal2) l k hlt (by rw [U,h]));have G:=aa (fun (h:z=false) (j:Nat) (h1:j<k+1) (h2:j<l.length)=>show lowM ms na hlds bal bal2 l[j]=false from (by
    by_cases e:j=k
    ·subst e;rw [U,h]
    ·exact F.o j (by omega) h2))
   clear K Q S T q3 U F;generalize l[k]=x at *;obtain ⟨d,f,i,H⟩:=x;dsimp only at r0 r1 r2 r3 Z;have N:=g.alloc g.size (.cells (cEn ⟨d,f,i,H⟩) 231);have I:=aa (Blk.new wr 231 (cEn ⟨d,f,i,H⟩));have s:=aa (HV.o.keep N);have P:=aa (af.o.keep N);have hS:(wr.alloc (.cells (cEn ⟨d,f,i,H⟩) 231)).cell? ⟨gv,0,none⟩=some (ptr gb)∧(wr.alloc (.cells (cEn ⟨d,f,i,H⟩) 231)).cell? ⟨wr.heap.size,0,none⟩=some (.int .i64 d)∧(wr.alloc (.cells (cEn ⟨d,f,i,H⟩) 231)).cell? ⟨wr.heap.size,1,none⟩=some (.int .i64 f)∧(wr.alloc (.cells (cEn ⟨d,f,i,H⟩) 231)).cell? ⟨wr.heap.size,2,none⟩=some (.int .i64 i):=⟨s.o.blk.c 0,I.o.c 0,I.o.c 1,I.o.c 2⟩;obtain ⟨⟨wa,e1⟩,hp1⟩:∃r,balM ms na bal ⟨d,f⟩ i=r:=⟨_,rfl⟩;obtain ⟨⟨nw,e2⟩,hp2⟩:∃r,balM ms na bal2 ⟨d,f⟩ i=r:=⟨_,rfl⟩;obtain ⟨hh,hp3⟩:∃r,heldM hlds ⟨d,f⟩ i=r:=⟨_,rfl⟩;obtain ⟨fr,hp4⟩:∃r,freeM ⟨d,f⟩=r:=⟨_,rfl⟩;have t:Hid ((!fr&&decide (nw<wa)&&decide (nw<hh))=z):=aa (by
    have h:=Z.o;unfold lowM at h;dsimp only at h;rw [hp1,hp2,hp3,hp4] at h;exact h)
   have ac:=aa hp1;have Y:=aa hp2;have M:=aa hp3;have y:=aa hp4;clear Z hp1 hp2 hp3 hp4;go_wp2_with fail;dsimp only [cEn] at N I s P hS;generalize ab:wr.alloc (.cells #[.int .i64 d,.int .i64 f,.int .i64 i,.int .i64 H] 231)=W0 at *;clear ab;go_region_held3 (fun W=>W.cell? ⟨gv,0,none⟩=some (ptr gb)∧W.cell? ⟨wr.heap.size,0,none⟩=some (.int .i64 d)∧W.cell? ⟨wr.heap.size,1,none⟩=some (.int .i64 f)∧W.cell? ⟨wr.heap.size,2,none⟩=some (.int .i64 i)) (first | exact hS | assumption | go_keep)
    (first | (go_at_call 122;refine (fO B gb vb ms na bal pst hms hna hl ⟨d,f⟩ i _ (by exact ⟨s.o.book.blk,s.o.book.own⟩)).mono ?_;rintro e L ⟨rfl,J⟩;rw [ac.o];have V1:=aa (s.o.keepD J);have K1:=aa (P.o.keepD J);have D:=aa (I.o.keepD J);have b1:Bw w L:=(aB N J N.size);have X:L.cell? ⟨gv,0,none⟩=some (ptr gb)∧L.cell? ⟨wr.heap.size,0,none⟩=some (.int .i64 d)∧L.cell? ⟨wr.heap.size,1,none⟩=some (.int .i64 f)∧L.cell? ⟨wr.heap.size,2,none⟩=some (.int .i64 i):=⟨V1.o.blk.c 0,D.o.c 0,D.o.c 1,D.o.c 2⟩))
   rename_i u
   clear u X hS J;have Q:=D.o.c 0;have S:=D.o.c 1;have T:=D.o.c 2;have cA:∀W:World,Bw W (W.alloc (.cells (acs ⟨d,f⟩) 81)):=fun W=>Bn
   go_wp2_with (go_at_call 122;refine (fO B2 g2 vb2 ms na bal2 posted2 hms hna hl2 ⟨d,f⟩ i _ K1.o).mono ?_;rintro e x2 ⟨rfl,R⟩;rw [Y.o];have V2:=aa (V1.o.keep R);have V:=aa (D.o.keep R);have n:=b1.trans (R.mono b1.size);have s0:=V.o.c 0;have s1:=V.o.c 1;have s2:=V.o.c 2)
   clear R Q S T;cases fr with
   | true=>
    have m:z=false:=by rw [←t.o];rfl
    go_wp2_with (go_at_call 227;refine (aU ⟨d,f⟩ _).mono ?_;rintro e x3 ⟨rfl,rfl⟩;rw [y.o])
    go_roundw
    case rel=>exact ⟨k+1,by omega,by go_num,n.alloc n.size _,G.o m⟩
    case measure=>simp [intOf];omega
   | false=>
    have V3:=aa (V2.o.keep (cA x2));have X3:=aa (V.o.keep (cA x2));have t0:=X3.o.c 0;have t1:=X3.o.c 1;have t2:=X3.o.c 2;by_cases hw:nw<wa
    ·have hd:=dT hw;have HC:=aa (ke gv gb gh vh room hlds ⟨d,f⟩ i _ V3.o.blk V3.o.hblk (Sl.own kRH V3.o.hown) hn);by_cases hq:nw<hh
     ·have m:z=true:=by rw [←t.o];simp [hw,hq]
      have ad:=dT hq;go_wp2_with (first
       | (go_at_call 227;refine (aU ⟨d,f⟩ _).mono ?_;rintro e x3 ⟨rfl,rfl⟩;rw [y.o])
       | (go_at_call 228;refine HC.o.mono ?_;rintro e x4 ⟨rfl,c4⟩;rw [M.o];have b4:=(n.alloc n.size (.cells (acs ⟨d,f⟩) 81)).trans (c4.mono (n.alloc n.size _).size)))
      go_ret;exact ⟨by rw [show belowM ms na hlds bal bal2 l=true from ae.o m];rfl,b4⟩
     ·have m:z=false:=by rw [←t.o];simp [hq]
      have ad:=dF hq;go_wp2_with (first
       | (go_at_call 227;refine (aU ⟨d,f⟩ _).mono ?_;rintro e x3 ⟨rfl,rfl⟩;rw [y.o])
       | (go_at_call 228;refine HC.o.mono ?_;rintro e x4 ⟨rfl,c4⟩;rw [M.o];have b4:=(n.alloc n.size (.cells (acs ⟨d,f⟩) 81)).trans (c4.mono (n.alloc n.size _).size)))
      go_roundw
      case rel=>exact ⟨k+1,by omega,by go_num,b4,G.o m⟩
      case measure=>simp [intOf];omega
    ·have hd:=dF hw;have m:z=false:=by rw [←t.o];simp [hw]
     go_wp2_with (go_at_call 227;refine (aU ⟨d,f⟩ _).mono ?_;rintro e x3 ⟨rfl,rfl⟩;rw [y.o])
     go_roundw
     case rel=>exact ⟨k+1,by omega,by go_num,n.alloc n.size _,G.o m⟩
     case measure=>simp [intOf];omega
  ·have ah:¬ ((k:Int)<(l.length:Int)):=by omega
   have HN:=aa (zo (lowM ms na hlds bal bal2) l (fun j h=>F.o j (by omega) h));go_wp2_with fail;go_ret;exact ⟨by rw [show belowM ms na hlds bal bal2 l=false from HN.o];rfl,g⟩
def vpostM (ms na:Nat)(hlds:List RH)(bal:List Int)(l:List En):Int×List Int:=
 if (postM ms na bal l).1≠0 then ((postM ms na bal l).1,bal) else if belowM ms na hlds bal (postM ms na bal l).2 l then (13,bal) else (0,(postM ms na bal l).2)
def VPost (B gv gb gh:Nat)(vb vh:Value)(ms na:Nat)(bal:List Int)(pst room:Int)(hlds:List RH)(K:List Nat)(r:Int×List Int)(w:World)(e:Ending)(w':World):Prop:=
 ∃gb' vb' posted',e=.returned (.int .i64 r.1)∧VtA w' B gv gb' gh vb' vh ms na r.2 posted' room hlds∧ModT B [184] K w w'
theorem kf {ms na:Nat}{bal:List Int}{l:List En}:(postM ms na bal l).2.length=bal.length:=by
 unfold postM;split
 ·rfl
 ·split
  ·rfl
  ·unfold putM;have:∀(a:List Ch) (b:List Int),(a.foldl (fun b x=>b.set x.place.toNat x.now) b).length=b.length:=by
    intro a;induction a with
    | nil=>intro b;rfl
    | cons c a ih=>intro b;rw [List.foldl_cons,ih,AH]
   exact this _ _
theorem iE (B gv gb gh:Nat)(vb vh v:Value)(ms na:Nat)(hms:ms≤16)(hna:na≤9)(bal:List Int)(hl:bal.length=na * (6+3 * ms))(hbl:All64 bal)(pst room:Int)(hlds:List RH)(hn:hlds.length≤1000)(l:List En)(K:List Nat)(w:World)
  (hV:VtA w B gv gb gh vb vh ms na bal pst room hlds) (hv:Sl eEn 4 w v l) (hnl:l.length≤1000000) (h64:∀x∈l,In64 x.amt) (hK:gv∉K) (hBw:B≤w.heap.size) :
  Calls Tryz.prog 141 #[ptr gv,v] w (VPost B gv gb gh vb vh ms na bal pst room hlds K (vpostM ms na hlds bal l) w):=by
 have W:na * (6+3 * ms)≤9 * 54:=Nat.mul_le_mul hna (by omega);have q:=aa hV;have m:=aa hv;have p0:=hV.blk.c 0;have Q:=kf (ms:=ms) (na:=na) (bal:=bal) (l:=l);obtain ⟨⟨O,f⟩,P⟩:∃r,postM ms na bal l=r:=⟨_,rfl⟩;have n:Hid (vpostM ms na hlds bal l=if O≠0 then (O,bal) else if belowM ms na hlds bal f l then (13,bal) else (0,f)):=aa (by unfold vpostM;rw [P]);rw [P] at Q;have J:=aa P;obtain ⟨a,cap,rfl,_⟩:=hv;clear hV P;by_cases her:O=0
 ·subst her;cases hbe:belowM ms na hlds bal f l with
  | true=>
   have H:=aa hbe;have h:Hid (vpostM ms na hlds bal l=(13,bal)):=aa (by rw [n.o,hbe];rfl);clear hbe n;go_enter Tryz.func141,Tryz.ntmps141;go_wp2_with (first
  | (go_at_call 177;refine (eK B gb vb ms na bal pst _ q.o.book (by omega)).mono ?_;rintro e T ⟨C,E,rfl,j,t,i⟩;have g:=aa j;have M:=aa (q.o.keep i);have y:=aa (m.o.keep i);clear j)
  | (go_at_call 178;refine (fR w.heap.size C E _ ms na bal pst hms hna hl hbl l _ g.o t i.size y.o hnl h64).mono ?_;rintro e S ⟨rfl,F,d⟩;rw [J.o] at d;have s:=aa d;rw [J.o];have b:=i.trans F;have z:=aa (q.o.keep b);have D:=aa (m.o.keep b);clear d i F g)
  | (go_at_call 179;refine (iD B gv gb gh C w.heap.size vb vh E _ ms na hms hna bal f hl (by omega) pst _ room hlds hn l _ z.o s.o D.o).mono ?_;rintro e U ⟨rfl,L⟩;rw [H.o]))
   go_ret;have u:=b.trans (L.mono b.size);rw [h.o];exact ⟨gb,vb,pst,rfl,q.o.keep u,ModT.below u⟩
  | false=>
   have H:=aa hbe;have h:Hid (vpostM ms na hlds bal l=(0,f)):=aa (by rw [n.o,hbe];rfl);clear hbe n;go_enter Tryz.func141,Tryz.ntmps141;go_wp2_with (first
  | (go_at_call 177;refine (eK B gb vb ms na bal pst _ q.o.book (by omega)).mono ?_;rintro e T ⟨C,E,rfl,j,t,i⟩;have g:=aa j;have M:=aa (q.o.keep i);have y:=aa (m.o.keep i);clear j)
  | (go_at_call 178;refine (fR w.heap.size C E _ ms na bal pst hms hna hl hbl l _ g.o t i.size y.o hnl h64).mono ?_;rintro e S ⟨rfl,F,d⟩;rw [J.o] at d;have s:=aa d;rw [J.o];have b:=i.trans F;have z:=aa (q.o.keep b);have D:=aa (m.o.keep b);clear d i F g)
  | (go_at_call 179;refine (iD B gv gb gh C w.heap.size vb vh E _ ms na hms hna bal f hl (by omega) pst _ room hlds hn l _ z.o s.o D.o).mono ?_;rintro e U ⟨rfl,L⟩;rw [H.o];have u:=b.trans (L.mono b.size);have G:=aa (q.o.keep u);have A:=aa (s.o.keep L);clear L;have Y:=G.o.blk.c 0;have Z:=G.o.blk.free 0))
   go_ret;rw [h.o];have V:=q.o.blk.lt;have p:=G.o;have N:gv≠C:=fun e=>by
    have:=A.o.blk
    rw [←e] at this;have I:=p.blk;unfold Blk at this I;rw [this] at I;simp at I
   refine ⟨C,E,_,rfl,⟨p.blk.set 0 _,⟨A.o.blk.far 0 _ N.symm,?_⟩,p.hblk.far 0 _ ?_,?_,p.l1,?_,p.l3⟩,(ModT.below u).trans (ModT.set p.blk (by simp) p.l1 hK)⟩
   ·exact au (aw A.o.own hBw) fun k hk=>An _ _ _ _ (aD p.blk A.o.own (by decide) k hk)
   ·intro e;have R:=p.hblk;have I:=p.blk;rw [e] at R;unfold Blk at R I;rw [R] at I;simp at I
   ·exact au p.hown fun k hk=>An _ _ _ _ (aD p.blk p.hown (by decide) k hk)
   ·omega
 ·have X:(O != 0)=true:=by simpa using her
  have h:Hid (vpostM ms na hlds bal l=(O,bal)):=aa (by rw [n.o,if_pos her]);clear n her;go_enter Tryz.func141,Tryz.ntmps141;go_wp2_with (first
  | (go_at_call 177;refine (eK B gb vb ms na bal pst _ q.o.book (by omega)).mono ?_;rintro e T ⟨C,E,rfl,j,t,i⟩;have g:=aa j;have M:=aa (q.o.keep i);have y:=aa (m.o.keep i);clear j)
  | (go_at_call 178;refine (fR w.heap.size C E _ ms na bal pst hms hna hl hbl l _ g.o t i.size y.o hnl h64).mono ?_;rintro e S ⟨rfl,F,d⟩;rw [J.o] at d;have s:=aa d;rw [J.o];have b:=i.trans F;have z:=aa (q.o.keep b);have D:=aa (m.o.keep b);clear d i F g))
  go_ret;rw [h.o];exact ⟨gb,vb,pst,rfl,z.o,ModT.below b⟩
def moveL (a b:Ac)(ass amt:Int):List En:=[⟨a.k,a.m,ass,-amt⟩,⟨b.k,b.m,ass,amt⟩]
def vmoveM (ms na:Nat)(hlds:List RH)(bal:List Int)(a b:Ac)(ass amt:Int):Int×List Int:=
 if amt<0 then (1,bal) else vpostM ms na hlds bal (moveL a b ass amt)
theorem Sl.two {w:World}{g:Nat}{x y:En}(h:Blk w g 231 #[.int .i64 x.k,.int .i64 x.m,.int .i64 x.ass,.int .i64 x.amt,.int .i64 y.k,.int .i64 y.m,.int .i64 y.ass,.int .i64 y.amt]):Sl eEn 4 w (.slice (some ⟨g,0,none⟩) 2 2) [x,y]:=
 ⟨some ⟨g,0,none⟩,2,rfl,(fun h=>by cases h),by simp,by unfold maxLen;omega,fun _=>⟨g,0,rfl,h.lt,fun i hi j u hu=>by
  have hj:j<4:=by
   have:=(AA.1 hu).1
   simpa [eEn] using this
  have a:i<2:=by simpa using hi
  rw [h.c];rcases (show i=0∨i=1 by omega) with rfl | rfl
  ·rcases (show j=0∨j=1∨j=2∨j=3 by omega) with rfl | rfl | rfl | rfl <;> simpa [eEn] using hu
  ·rcases (show j=0∨j=1∨j=2∨j=3 by omega) with rfl | rfl | rfl | rfl <;> simpa [eEn] using hu⟩⟩
theorem pd (B gv gb gh:Nat)(vb vh:Value)(ms na:Nat)(hms:ms≤16)(hna:na≤9)(bal:List Int)(hl:bal.length=na * (6+3 * ms))(hbl:All64 bal)(pst room:Int)(hlds:List RH)(hn:hlds.length≤1000)(K:List Nat)(w:World)
  (hV:VtA w B gv gb gh vb vh ms na bal pst room hlds) (hK:gv∉K) (hBw:B≤w.heap.size) (a b:Ac) (ass amt:Int) (h64:In64 amt) :
  Calls Tryz.prog 167 #[ptr gv,aval a,aval b,.int .i64 ass,.int .i64 amt] w (VPost B gv gb gh vb vh ms na bal pst room hlds K (vmoveM ms na hlds bal a b ass amt) w):=by
 obtain ⟨d,g⟩:=a;obtain ⟨bk,bm⟩:=b;obtain ⟨W1,hW1⟩:∃W1,W1=(w.alloc (.cells (acs ⟨d,g⟩) 81)).alloc (.cells (acs ⟨bk,bm⟩) 81):=⟨_,rfl⟩;have h:Bw w W1:=by rw [hW1];exact Bn.alloc (by simp) _
 by_cases hneg:amt<0
 ·have E:=dT hneg;have t:Hid (vmoveM ms na hlds bal ⟨d,g⟩ ⟨bk,bm⟩ ass amt=(1,bal)):=aa (by unfold vmoveM;rw [if_pos hneg]);have m:=aa (hV.keep h);have p:=aa h;have r:=aa hW1;clear hV hneg h hW1;go_enter Tryz.func167,Tryz.ntmps167;go_wp2_with fail;go_ret;rw [t.o];have A:=m.o;have z:=p.o;rw [r.o] at A z;exact ⟨gb,vb,pst,rfl,A,ModT.below z⟩
 ·have E:=dF hneg;have t:Hid (vmoveM ms na hlds bal ⟨d,g⟩ ⟨bk,bm⟩ ass amt=vpostM ms na hlds bal (moveL ⟨d,g⟩ ⟨bk,bm⟩ ass amt)):=aa (by unfold vmoveM;rw [if_neg hneg]);have f:∀x∈moveL ⟨d,g⟩ ⟨bk,bm⟩ ass amt,In64 x.amt:=by
   intro x q;unfold moveL at q;unfold In64 at *;simp at q;rcases q with rfl | rfl
   ·dsimp only;omega
   ·exact h64
  have D:IntKind.i64.wrap (-amt)=-amt:=Ax _ (by unfold In64 at h64;omega);have v:wrap64 (-amt)=-amt:=by unfold In64 at h64;unfold wrap64;omega
  have i:Bw w (W1.alloc (.cells #[.int .i64 d,.int .i64 g,.int .i64 ass,.int .i64 (-amt),.int .i64 bk,.int .i64 bm,.int .i64 ass,.int .i64 amt] 231)):=h.alloc h.size _;have u:W1.heap.size=w.heap.size+1+1:=by rw [hW1];simp
  have s:=(iE B gv gb gh vb vh (.slice (some ⟨W1.heap.size,0,none⟩) 2 2) ms na hms hna bal hl hbl pst room hlds hn (moveL ⟨d,g⟩ ⟨bk,bm⟩ ass amt) K _ (hV.keep i) (Sl.two (x:=⟨d,g,ass,-amt⟩) (y:=⟨bk,bm,ass,amt⟩) (Blk.new W1 231 _)) (by simp [moveL]) f hK (z5 hBw i.size));rw [u] at s;have C:=aa s;clear s u;have j:=aa i;subst hW1;clear hV hneg h f i;go_enter Tryz.func167,Tryz.ntmps167;go_wp2_with (go_at_call 141;refine C.o.mono ?_;rintro e G ⟨n,k,c,rfl,l,F⟩)
  go_ret;rw [t.o];exact ⟨n,k,c,rfl,l,(ModT.below j.o).trans F⟩
end Go.Proofs.YtmhohaanddglbaaGreatDoor
