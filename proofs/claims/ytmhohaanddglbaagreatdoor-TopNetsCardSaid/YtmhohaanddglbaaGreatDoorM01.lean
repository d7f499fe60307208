/- Texts of the proof of TopNets, joined: GMap, Phase0, Phase, Phase2, BaseC, JoinC, Book, Bal, Log, Small2, App, Hear, Tell, Shelf, Mul, Trade, Trade2, Cal, Timer. -/
import Derived.Test.YtmhohaanddglbaaGreatDoorM00
import Derived.Laws.StructEq
import Derived.Test.YtmhohaanddglbaaGreatDoorRows
import Derived.Test.YtmhohaanddglbaaGreatDoorCards
import Derived.Test.YtmhohaanddglbaaGreatDoorTie
import Derived.WalkKit
import Derived.ProofKit
import Derived.LaidMore
import Derived.OpenShut
import Derived.ShutString
import Derived.ChangeSame
import Derived.Stop.Joined
import Derived.SevenTiedAt
import Derived.Carry
import Derived.JoinedOf
import Derived.Maps.AppendAt
import Derived.StillTailTactics
import Derived.Deep.RegionLaw
import Derived.Shelf.Small.Bits
import Derived.Shelf.Small.Wraps
import Derived.Shelf.Strconv.Itoa0
import Derived.Shelf.Sort.Plain
import Derived.Shelf.Bits.Mul64
import Derived.Shelf.Slices.Turned
import Derived.Ground.Names2Prog
import Derived.Shelf.Slices.Clone
import Derived.Shelf.Slices.CompactI
import Derived.Shelf.Slices.SearchI
import Derived.Shelf.Slices.Cells
import Derived.Shelf.Slices.In.SortNone
import Derived.Ground.SlgnProg
import Derived.Shelf.SlicesG.Clone
import Derived.Shelf.SlicesG.SearchI
import Derived.Shelf.SlicesE.Clone
import Derived.Test.YtmhohaanddglbaaGreatDoorProg
set_option linter.all false
set_option maxRecDepth 100000
set_option maxHeartbeats 16000000
namespace Go.Proofs.YtmhohaanddglbaaGreatDoor
open Go.RowKit
section
variable {κ:Type}
def ents (enc:κ→Value)(D:List (κ×Value)):List MapEntry:=D.zipIdx.map fun p=>⟨enc p.1.1,p.1.2,p.2⟩
def mkMap (enc:κ→Value)(D:List (κ×Value)):Obj:=.map (ents enc D).toArray D.length
def look [DecidableEq κ](a:κ):List (κ×Value)→Nat→Option (Nat×Value)
 | [],_=>none
 | p :: l,i=>if a=p.1 then some (i,p.2) else look a l (i+1)
theorem wv [DecidableEq κ]{K:TypeId}{enc:κ→Value}(heq:∀a b w,(Op.equal K (enc a) (enc b)).run Tryz.prog w=.ok (decide (a=b)) w)(a:κ)(w:World):∀(D:List (κ×Value))(es:List MapEntry)(i:Nat),es.map (fun e=>(e.key,e.val))=D.map (fun p=>(enc p.1,p.2))→
  (Instr.findAsking K (enc a) es i).run Tryz.prog w=.ok (look a D i) w:=by
 intro D;induction D with
 | nil=>intro es i h;simp at h;subst h;rfl
 | cons p D ih=>
  intro es i h;cases es with
  | nil=>simp at h
  | cons e es=>
   simp only [Am,List.cons.injEq,Prod.mk.injEq] at h;obtain ⟨⟨f,c⟩,d⟩:=h;unfold Instr.findAsking look;have:=heq a p.1 w
   simp only [f,Sem.run_bind,this,Result.andThen];by_cases hd:a=p.1
   ·simp [hd,c]
   ·simp [hd,ih es (i+1) d]
theorem bS (enc:κ→Value)(D:List (κ×Value)):(ents enc D).map (fun e=>(e.key,e.val))=D.map (fun p=>(enc p.1,p.2)):=by
 unfold ents;rw [List.map_map];apply AY
 intro i;simp
 cases D[i]? <;> simp
structure KeyLaw2 [DecidableEq κ](K:TypeId)(enc:κ→Value):Prop where
 check:∀em a w,(Instr.checkKey em 10000 K (enc a)).run Tryz.prog w=.ok () w
 find:∀a D es w,es.map (fun e=>(e.key,e.val))=D.map (fun p=>(enc p.1,p.2))→(Instr.findKey K (enc a) es).run Tryz.prog w=.ok (look a D 0) w
 stays:∀a w,(Instr.keyThatStays (enc a) (enc a)).run Tryz.prog w=.ok (enc a) w
theorem oT [DecidableEq κ]{a:κ}:∀{D:List (κ×Value)}{i:Nat},look a D i=none→∀p∈D,a≠p.1:=by
 intro D;induction D with
 | nil=>intro i _ p b;simp at b
 | cons q D ih=>
  intro i h p b;unfold look at h;split at h
  ·cases h
  ·rename_i c
   rcases Aq.1 b with rfl | b
   ·exact c
   ·exact ih h p b
theorem cj [DecidableEq κ]{a:κ}:∀{D:List (κ×Value)}{i j:Nat}{v:Value},look a D i=some (j,v)→∃n,j=i+n∧D[n]?=some (a,v):=by
 intro D;induction D with
 | nil=>intro i j v h;cases h
 | cons q D ih=>
  intro i j v h;unfold look at h;split at h
  ·rename_i b
   cases h
   exact ⟨0,rfl,by simp [b]⟩
  ·obtain ⟨n,d,c⟩:=ih h;exact ⟨n+1,by omega,by simpa using c⟩
theorem cp (enc:κ→Value)(D:List (κ×Value)):(ents enc D).length=D.length:=by simp [ents]
theorem aY (enc:κ→Value)(D:List (κ×Value))(n:Nat):(ents enc D)[n]?=D[n]?.map fun p=>⟨enc p.1,p.2,n⟩:=by
 unfold ents;simp
 rfl
theorem ir (enc:κ→Value)(D:List (κ×Value))(k:κ)(v:Value):(ents enc D).toArray.push ⟨enc k,v,D.length⟩=(ents enc (D++[(k,v)])).toArray:=by
 unfold ents;simp [List.zipIdx_append]
theorem fM (l:List MapEntry)(i:Nat)(f:MapEntry→MapEntry):l.toArray.modify i f=(l.modify i f).toArray:=by simp
theorem rI (enc:κ→Value)(D:List (κ×Value))(n:Nat)(k:κ)(v v':Value)(h:D[n]?=some (k,v)):(ents enc D).toArray.modify n (fun e=>{ e with val:=v' })=(ents enc (D.set n (k,v'))).toArray:=by
 rw [fM];congr 1
 apply AY
 intro i;rw [List.getElem?_modify,aY,aY,List.getElem?_set];have a:n<D.length:=(AA.1 h).1;by_cases hi:n=i
 ·subst hi;rw [if_pos rfl,if_pos a,h];simp
 ·simp [hi]
theorem rJ (enc:κ→Value)(D:List (κ×Value))(n:Nat)(k:κ)(v:Value)(h:D[n]?=some (k,v)):(ents enc D).toArray.modify n (fun e=>{ e with key:=enc k })=(ents enc D).toArray:=by
 rw [fM];congr 1
 apply AY
 intro i;rw [List.getElem?_modify,aY];by_cases hi:n=i
 ·subst hi;simp [h]
 ·simp [hi]
def MapB (w:World)(M:Nat)(enc:κ→Value)(D:List (κ×Value)):Prop:=w.heap[M]?=some (mkMap enc D)
def pOb (w:World)(M:Nat)(o:Obj):World:={ w with heap:=w.heap.setIfInBounds M o }
theorem MapB.lt {w:World}{M:Nat}{enc:κ→Value}{D:List (κ×Value)}(h:MapB w M enc D):M<w.heap.size:=by
 unfold MapB at h;rcases Az M w.heap.size with h' | h'
 ·exact h'
 ·simp [AO h'] at h
theorem bu {enc:κ→Value}(w:World)(M:Nat)(D:List (κ×Value))(n:Nat)(a:κ)(v v':Value)(h:MapB w M enc D)(hD:D[n]?=some (a,v))(T:TypeId) :
  (Instr.entryStore T (.map (some M)) (goInt n) v').run Tryz.prog w=.ok () (pOb w M (mkMap enc (D.set n (a,v')))):=by
 have c:n<D.length:=(AA.1 hD).1;unfold MapB mkMap at h;unfold Instr.entryStore;have d:(ents enc D).toArray.findIdx? (fun e=>(e.born:Int)==(n:Int))=some n:=by
  rw [List.findIdx?_toArray];rw [List.findIdx?_eq_some_iff_getElem];refine ⟨by rw [cp];exact c,?_,?_⟩
  ·have:=aY enc D n
   rw [hD] at this;have e:=(AA.1 this).2;rw [e];simp
  ·intro j i;have b:j<D.length:=by omega
   have:=aY enc D j
   rw [Ab b] at this;have e:=(AA.1 this).2;rw [e];simp;omega
 have g:=rI enc D n a v v' hD;have f:Sem.run Tryz.prog (asInt (goInt n)) w=.ok (n:Int) w:=by simp [asInt,asIntOf,goInt]
 simp only [Sem.run_bind,Result.andThen,getObj,Sem.run,h,f];rw [d];simp only [setObj,Sem.run,h,g,pOb,mkMap,AH]
variable [DecidableEq κ]{K E T:TypeId}{enc:κ→Value}(L:KeyLaw2 K enc)(hT:Tryz.prog.underlying T=some (.map K E))
include L hT
theorem bi (z:Value)(hz:∀w,(zeroValue E).run Tryz.prog w=.ok z w)(w:World)(M:Nat)(D:List (κ×Value))(a:κ)(h:MapB w M enc D) :
  (Instr.lookup T (.map (some M)) (enc a) false).run Tryz.prog w=.ok (((look a D 0).map (·.2)).getD z) w:=by
 have b:=L.find a D (ents enc D) w (bS enc D);have c:=run_underlying hT;unfold MapB mkMap at h;unfold Instr.lookup;simp only [Sem.run_bind,c,Result.andThen,getObj,Sem.run,h,L.check,b];have d:Sem.run Tryz.prog (pure (ents enc D).toArray) w=.ok (ents enc D).toArray w:=rfl;simp only [d];rw [b];cases hl:look a D 0 with
 | none=>simp [hz]
 | some p=>obtain ⟨i,v⟩:=p;simp
theorem ei (w:World)(M:Nat)(D:List (κ×Value))(a:κ)(n:Nat)(v:Value)(h:MapB w M enc D)(hl:look a D 0=some (n,v)) :
  (Instr.mapEntry T (.map (some M)) (enc a)).run Tryz.prog w=.ok (.tuple #[v,goInt n]) w:=by
 have f:=L.find a D (ents enc D) w (bS enc D);rw [hl] at f;have j:=run_underlying hT;obtain ⟨m,l,d⟩:=cj hl;obtain rfl:n=m:=by omega
 have g:{ w with heap:=w.heap.setIfInBounds M (mkMap enc D) }=w:=by
  have c:=MapB.lt h;unfold MapB at h;have:w.heap.setIfInBounds M (mkMap enc D)=w.heap:=by
   apply Array.ext_getElem?
   intro i;rw [Bk];by_cases hi:M=i
   ·subst hi;rw [if_pos rfl,if_pos c,h]
   ·rw [if_neg hi]
  rw [this]
 unfold MapB at h;unfold mkMap at h g;unfold Instr.mapEntry;have b:(ents enc D)[n]?=some ⟨enc a,v,n⟩:=by rw [aY,d];rfl
 have k:=rJ enc D n a v d;simp only [Sem.run_bind,j,Result.andThen,getObj,Sem.run,h,L.check];rw [f];simp only [AM,b,Option.map_some,Option.getD_some,Sem.run_bind,L.stays,Result.andThen,setObj,Sem.run,h,k,g];rfl
theorem ek (z:Value)(hz:∀w,(zeroValue E).run Tryz.prog w=.ok z w)(w:World)(M:Nat)(D:List (κ×Value))(a:κ)(h:MapB w M enc D)(hl:look a D 0=none) :
  (Instr.mapEntry T (.map (some M)) (enc a)).run Tryz.prog w=.ok (.tuple #[z,goInt D.length]) (pOb w M (mkMap enc (D++[(a,z)]))):=by
 have b:=L.find a D (ents enc D) w (bS enc D);rw [hl] at b;have c:=run_underlying hT;unfold MapB mkMap at h;unfold Instr.mapEntry;have d:=ir enc D a z;simp only [Sem.run_bind,c,Result.andThen,getObj,Sem.run,h,L.check];rw [b];simp only [Sem.run_bind,hz,Result.andThen,setObj,Sem.run,h,d,pOb,mkMap,z8,Ai];rfl
end
structure Sp where
 k:Int
 m:Int
 ass:Int
  deriving DecidableEq
abbrev vSp (x:Sp):Value:=.agg #[.int .i64 x.k,.int .i64 x.m,.int .i64 x.ass]
structure Sd where
 mem:Int
 ass:Int
  deriving DecidableEq
abbrev vSd (x:Sd):Value:=.agg #[.int .i64 x.mem,.int .i64 x.ass]
theorem cV {κ:Type} [DecidableEq κ]{K:TypeId}(hK:Tryz.prog.underlying K=some (.struct (Tryz.prog.fieldsOf K))){enc:κ→Value}(hagg:∀a,∃xs,enc a=.agg xs)(heq:∀a b w,(Op.equal K (enc a) (enc b)).run Tryz.prog w=.ok (decide (a=b)) w)(a:κ)(D:List (κ×Value))(es:List MapEntry)(w:World)(h:es.map (fun e=>(e.key,e.val))=D.map (fun p=>(enc p.1,p.2))) :
  (Instr.findKey K (enc a) es).run Tryz.prog w=.ok (look a D 0) w:=by
 unfold Instr.findKey;simp only [Sem.run_bind,run_underlying hK,Result.andThen];cases es with
 | nil=>
  cases D with
  | nil=>rfl
  | cons p D=>simp at h
 | cons e es=>
  obtain ⟨xs,c⟩:=hagg a;have:Instr.findNow (.struct (Tryz.prog.fieldsOf K)) (enc a) (e :: es) 0=none:=by rw [c];rfl
  rw [this];exact wv heq a w D (e :: es) 0 h
theorem ww (a1 a2 b1 b2:Int)(w:World):(Op.equalIn 9999 81 (.agg #[.int .i64 a1,.int .i64 a2]) (.agg #[.int .i64 b1,.int .i64 b2])).run Tryz.prog w=.ok (decide (a1=b1∧a2=b2)) w:=by
 have a:Tryz.prog.underlying 81=some (.struct (Tryz.prog.fieldsOf 81)):=by kernel_rfl
 have b:Tryz.prog.stoodInHeld 81=false:=by kernel_rfl
 rw [show (9999:Nat)=9998+1 from rfl,run_equalIn_agg w 9998 81 _ _ a b];simp only [Program.fieldsOf,Tryz.underlying81];clear a b;have d:=Tryz.underlying3;have c:=Tryz.isAgg3;have f:=Tryz.sizeOf3;go_simp
 by_cases h1:a1=b1 <;> by_cases h2:a2=b2 <;> simp [h1,h2]
theorem sd_eq (a b:Sd)(w:World):(Op.equal 382 (vSd a) (vSd b)).run Tryz.prog w=.ok (decide (a=b)) w:=by
 obtain ⟨g,f⟩:=a;obtain ⟨b1,b2⟩:=b;have c:Tryz.prog.underlying 382=some (.struct (Tryz.prog.fieldsOf 382)):=by kernel_rfl
 have d:Tryz.prog.stoodInHeld 382=false:=by kernel_rfl
 unfold Op.equal Op.maxDepth;rw [show (10000:Nat)=9999+1 from rfl,run_equalIn_agg w 9999 382 _ _ c d];simp only [Program.fieldsOf,Tryz.underlying382];clear c d;have i:=Tryz.underlying3;have h:=Tryz.isAgg3;have j:=Tryz.sizeOf3;go_simp
 by_cases h1:g=b1 <;> by_cases h2:f=b2 <;> simp [h1,h2]
theorem sp_eq (a b:Sp)(w:World):(Op.equal 369 (vSp a) (vSp b)).run Tryz.prog w=.ok (decide (a=b)) w:=by
 obtain ⟨d,c,h⟩:=a;obtain ⟨b1,b2,b3⟩:=b;have f:Tryz.prog.underlying 369=some (.struct (Tryz.prog.fieldsOf 369)):=by kernel_rfl
 have g:Tryz.prog.stoodInHeld 369=false:=by kernel_rfl
 unfold Op.equal Op.maxDepth;rw [show (10000:Nat)=9999+1 from rfl,run_equalIn_agg w 9999 369 _ _ f g];simp only [Program.fieldsOf,Tryz.underlying369];clear f g;have m:=Tryz.underlying3;have l:=Tryz.isAgg3;have n:=Tryz.sizeOf3;have j:=Tryz.isAgg81;have k:=Tryz.sizeOf81;have i:=fun (d c b1 b2:Int) (w:World)=>ww d c b1 b2 w
 go_simp
 by_cases h1:d=b1 <;> by_cases h2:c=b2 <;> by_cases h3:h=b3 <;> simp [h1,h2,h3]
theorem rK (em:Bool)(a:Sp)(w:World):(Instr.checkKey em 10000 369 (vSp a)).run Tryz.prog w=.ok () w:=by
 kernel_rfl
theorem rL (a:Sp)(w:World):(Instr.keyThatStays (vSp a) (vSp a)).run Tryz.prog w=.ok (vSp a) w:=by
 unfold Instr.keyThatStays;simp [Instr.sameBits]
theorem ol:KeyLaw2 369 vSp:=⟨rK,fun a D es w h=>cV (by kernel_rfl) (fun a=>⟨_,rfl⟩) sp_eq a D es w h,rL⟩
theorem rM (em:Bool)(a:Sd)(w:World):(Instr.checkKey em 10000 382 (vSd a)).run Tryz.prog w=.ok () w:=by
 kernel_rfl
theorem rO (a:Sd)(w:World):(Instr.keyThatStays (vSd a) (vSd a)).run Tryz.prog w=.ok (vSd a) w:=by
 unfold Instr.keyThatStays;simp [Instr.sameBits]
theorem rP:KeyLaw2 382 vSd:=⟨rM,fun a D es w h=>cV (by kernel_rfl) (fun a=>⟨_,rfl⟩) sd_eq a D es w h,rO⟩
theorem rQ (a:Int)(w:World):∀(D:List (Int×Value))(es:List MapEntry)(i:Nat),es.map (fun e=>(e.key,e.val))=D.map (fun p=>(Value.int .i64 p.1,p.2))→Instr.findNow (.int .i64) (.int .i64 a) es i=some (look a D i):=by
 intro D;induction D with
 | nil=>intro es i h;simp at h;subst h;rfl
 | cons p D ih=>
  intro es i h;cases es with
  | nil=>simp at h
  | cons e es=>
   simp only [Am,List.cons.injEq,Prod.mk.injEq] at h;obtain ⟨⟨d,b⟩,c⟩:=h;unfold Instr.findNow look;rw [d];by_cases hd:a=p.1
   ·simp [Instr.sameNow,hd,b]
   ·have:(a==p.1)=false:=by simpa using hd
    simp [Instr.sameNow,this,hd,ih es (i+1) c]
theorem iu:KeyLaw2 3 (Value.int .i64):=⟨fun em a w=>by kernel_rfl,fun a D es w h=>by
 unfold Instr.findKey;simp only [Sem.run_bind,run_underlying Tryz.underlying3,Result.andThen];rw [rQ a w D es 0 h];rfl,fun a w=>by unfold Instr.keyThatStays;simp [Instr.sameBits]⟩
theorem MapB.keep {κ:Type}{w w':World}{M:Nat}{enc:κ→Value}{D:List (κ×Value)}(h:MapB w M enc D)(hb:Bw w w'):MapB w' M enc D:=(hb.block M h.lt).trans h
theorem MapB.heap {κ:Type}{w w':World}{M:Nat}{enc:κ→Value}{D:List (κ×Value)}(h:MapB w M enc D)(hb:w'.heap[M]?=w.heap[M]?):MapB w' M enc D:=hb.trans h
theorem MapB.put {κ:Type}{w:World}{M:Nat}{enc:κ→Value}{D D':List (κ×Value)}(h:MapB w M enc D):MapB (pOb w M (mkMap enc D')) M enc D':=by
 unfold MapB pOb;have:=h.lt
 simp [this]
theorem bj (w:World)(M k:Nat)(o:Obj)(h:k≠M):(pOb w M o).heap[k]?=w.heap[k]?:=by
 unfold pOb;simp [Ne.symm h]
theorem bT (w:World)(M:Nat)(o:Obj):Mod [M] w (pOb w M o):=⟨rfl,rfl,rfl,by simp [pOb],fun k _ hb=>bj w M k o (by simpa using hb)⟩
structure Rws (w:World)(B:Nat)(vs:List Value)(zs:List (List Int)):Prop where
 len:vs.length=zs.length
 own:∀i (h:i<vs.length) (h2:i<zs.length),w.ownsRow B 2 1 vs[i] zs[i].length (flat eI zs[i])
 apart:∀i j (h:i<vs.length) (h2:j<vs.length),i≠j→vs[i].ownBlock=none∨vs[i].ownBlock≠vs[j].ownBlock
theorem Rws.heap {w w':World}{B:Nat}{vs:List Value}{zs:List (List Int)}(h:Rws w B vs zs)(hk:∀v∈vs,∀g,v.ownBlock=some g→w'.heap[g]?=w.heap[g]?):Rws w' B vs zs:=
 ⟨h.len,fun i h1 h2=>au (h.own i h1 h2) (hk _ (Ag h1)),h.apart⟩
theorem Rws.lt {w:World}{B:Nat}{vs:List Value}{zs:List (List Int)}(h:Rws w B vs zs):∀v∈vs,∀g,v.ownBlock=some g→B≤g∧g<w.heap.size:=by
 intro v a g b;obtain ⟨i,hi,rfl⟩:=Ao a;exact (h.own i hi (by rw [←h.len];exact hi)).lt g b
theorem Rws.keep {w w':World}{B:Nat}{vs:List Value}{zs:List (List Int)}(h:Rws w B vs zs)(hb:Bw w w'):Rws w' B vs zs:=h.heap fun v hv g hg=>hb.block g (h.lt v hv g hg).2
theorem Rws.nils (w:World)(B n:Nat):Rws w B (List.replicate n (.slice none 0 0)) (List.replicate n []):=
 ⟨by simp,fun i h1 h2=>by simp only [List.getElem_replicate];exact ⟨rfl,Or.inl ⟨rfl,rfl⟩⟩,fun i j h1 h2 _=>by simp only [List.getElem_replicate];exact Or.inl rfl⟩
theorem Rws.push {w:World}{B:Nat}{vs:List Value}{zs:List (List Int)}(h:Rws w B vs zs):Rws w B (vs++[.slice none 0 0]) (zs++[[]]):=by
 refine ⟨by simp [h.len],fun i h1 h2=>?_,fun i j h1 h2 hne=>?_⟩
 ·by_cases hi:i<vs.length
  ·rw [List.getElem_append_left hi,List.getElem_append_left (by rw [←h.len];exact hi)];exact h.own i hi _
  ·have a:i=vs.length:=by simp at h1;omega
   subst a;simp only [List.getElem_append_right (zY _),Nat.sub_self,Aw];have:(zs++[[]])[vs.length]'h2=[]:=by rw [List.getElem_append_right (by rw [h.len];exact zY _)];simp [h.len]
   rw [this];exact ⟨rfl,Or.inl ⟨rfl,rfl⟩⟩
 ·by_cases hi:i<vs.length
  ·by_cases hj:j<vs.length
   ·rw [List.getElem_append_left hi,List.getElem_append_left hj];exact h.apart i j hi hj hne
   ·have a:j=vs.length:=by simp at h2;omega
    subst a;rw [List.getElem_append_left hi,List.getElem_append_right (zY _)];simp only [Nat.sub_self,Aw];cases hv:vs[i].ownBlock with
    | none=>exact Or.inl rfl
    | some g=>exact Or.inr (by simp [Value.ownBlock])
  ·have a:i=vs.length:=by simp at h1;omega
   subst a;rw [List.getElem_append_right (zY _)];simp only [Nat.sub_self,Aw];exact Or.inl rfl
theorem Rws.set {w w':World}{B:Nat}{vs:List Value}{zs:List (List Int)}(h:Rws w B vs zs)(i:Nat)(hi:i<vs.length)(hz:i<zs.length)(v':Value)(zs':List Int)(hg:w.grownBy w' vs[i].ownBlock)(ho:w'.ownsRow B 2 1 v' zs'.length (flat eI zs'))(hat:v'.ownBlock=vs[i].ownBlock∨v'.ownBlock=some w.heap.size) :
  Rws w' B (vs.set i v') (zs.set i zs'):=by
 have b:∀j (hj:j<vs.length),j≠i→∀g,vs[j].ownBlock=some g→w'.heap[g]?=w.heap[g]?:=fun j hj hne g hgj=>by
  refine hg.block g (h.lt _ (Ag hj) g hgj).2 ?_;intro e;rcases h.apart j i hj hi hne with h1 | h1
  ·rw [h1] at hgj;cases hgj
  ·exact h1 (by rw [hgj,e])
 refine ⟨by simp [h.len],fun j h1 h2=>?_,fun j k h1 h2 hne=>?_⟩
 ·rw [List.getElem_set,List.getElem_set];by_cases hj:i=j
  ·rw [if_pos hj,if_pos hj];exact ho
  ·rw [if_neg hj,if_neg hj];simp at h1 h2;exact au (h.own j h1 h2) (b j h1 (Ne.symm hj))
 ·simp at h1 h2;rw [List.getElem_set,List.getElem_set];have a:∀j (hj:j<vs.length),j≠i→vs[j].ownBlock=none∨vs[j].ownBlock≠v'.ownBlock:=fun j hj hne=>by
   rcases hat with e | e
   ·rw [e];exact h.apart j i hj hi hne
   ·cases hv:vs[j].ownBlock with
    | none=>exact Or.inl rfl
    | some g=>
     refine Or.inr ?_;rw [e];intro c;have:=(h.lt _ (Ag hj) g hv).2
     simp at c;omega
  by_cases hj:i=j
  ·subst hj;rw [if_pos rfl,if_neg hne];rcases a k h2 (Ne.symm hne) with e | e
   ·cases hv:v'.ownBlock with
    | none=>exact Or.inl rfl
    | some g=>exact Or.inr (by rw [e];simp)
   ·exact Or.inr (Ne.symm e)
  ·rw [if_neg hj];by_cases hk:i=k
   ·subst hk;rw [if_pos rfl];exact a j h1 hne
   ·rw [if_neg hk];exact h.apart j k h1 h2 hne
section
attribute [local go_sem ↓] Go.wp_at_zero Go.wp_at_succ
section
variable {κ:Type} [DecidableEq κ]{K E T:TypeId}{enc:κ→Value}(L:KeyLaw2 K enc)(hT:Tryz.prog.underlying T=some (.map K E))
include L hT
theorem dM (w:World)(M:Nat)(D:List (κ×Value))(a:κ)(v:Value)(h:MapB w M enc D)(hl:look a D 0=none) :
  (Instr.mapUpdate T (.map (some M)) (enc a) v).run Tryz.prog w=.ok () (pOb w M (mkMap enc (D++[(a,v)]))):=by
 have b:=L.find a D (ents enc D) w (bS enc D);rw [hl] at b;have c:=run_underlying hT;unfold MapB mkMap at h;unfold Instr.mapUpdate;have d:=ir enc D a v;simp only [Sem.run_bind,c,Result.andThen,getObj,Sem.run,h,L.check];rw [b];simp only [Sem.run_bind,Result.andThen,setObj,Sem.run,h,d,pOb,mkMap,z8,Ai]
theorem bZ (w:World)(M:Nat)(D:List (κ×Value))(a:κ)(n:Nat)(v v':Value)(h:MapB w M enc D)(hl:look a D 0=some (n,v)) :
  (Instr.mapUpdate T (.map (some M)) (enc a) v').run Tryz.prog w=.ok () (pOb w M (mkMap enc (D.set n (a,v')))):=by
 have d:=L.find a D (ents enc D) w (bS enc D);rw [hl] at d;have f:=run_underlying hT;obtain ⟨m,k,c⟩:=cj hl;obtain rfl:n=m:=by omega
 unfold MapB mkMap at h;unfold Instr.mapUpdate;have b:(ents enc D)[n]?=some ⟨enc a,v,n⟩:=by rw [aY,c];rfl
 have g:(ents enc D).toArray.modify n (fun e=>{ e with key:=enc a,val:=v' })=(ents enc (D.set n (a,v'))).toArray:=by
  rw [fM];congr 1
  apply AY
  intro i;rw [List.getElem?_modify,aY,aY,List.getElem?_set];have j:n<D.length:=(AA.1 c).1;by_cases hi:n=i
  ·subst hi;rw [if_pos rfl,if_pos j,c];simp
  ·simp [hi]
 simp only [Sem.run_bind,f,Result.andThen,getObj,Sem.run,h,L.check];rw [d];simp only [AM,b,Option.map_some,Option.getD_some,Sem.run_bind,L.stays,Result.andThen,setObj,Sem.run,h,g,pOb,mkMap,AH]
theorem eX (z:Value)(hz:∀w,(zeroValue E).run Tryz.prog w=.ok z w)(w:World)(M:Nat)(D:List (κ×Value))(a:κ)(h:MapB w M enc D) :
  (Instr.lookup T (.map (some M)) (enc a) true).run Tryz.prog w=.ok (.tuple #[((look a D 0).map (·.2)).getD z,.bool (look a D 0).isSome]) w:=by
 have b:=L.find a D (ents enc D) w (bS enc D);have c:=run_underlying hT;unfold MapB mkMap at h;unfold Instr.lookup;simp only [Sem.run_bind,c,Result.andThen,getObj,Sem.run,h,L.check,b];have d:Sem.run Tryz.prog (pure (ents enc D).toArray) w=.ok (ents enc D).toArray w:=rfl;simp only [d];rw [b];cases hl:look a D 0 with
 | none=>simp [hz]
 | some p=>obtain ⟨i,v⟩:=p;simp
end
theorem rR {κ:Type} [DecidableEq κ](a:κ):∀(D D':List (κ×Value))(i:Nat),look a (D++D') i=match look a D i with
  | none=>look a D' (i+D.length)
  | some p=>some p:=by
 intro D;induction D with
 | nil=>intro D' i;simp [look]
 | cons p D ih=>
  intro D' i;rw [List.cons_append,look,look];split
  ·rfl
  ·rw [ih];rw [show i+1+D.length=i+(p :: D).length from by simp;omega]
def told {κ:Type} [DecidableEq κ](D:List (κ×Value))(a:κ):Option Value:=(look a D 0).map (·.2)
theorem oU {κ:Type} [DecidableEq κ](D:List (κ×Value))(k a:κ)(v:Value)(h:told D k=none):told (D++[(k,v)]) a=if a=k then some v else told D a:=by
 unfold told at *;rw [rR];cases hl:look a D 0 with
 | none=>
  simp only
  rw [look];by_cases hk:a=k
  ·simp [hk]
  ·simp [hk,look]
 | some p=>
  by_cases hk:a=k
  ·subst hk;rw [hl] at h;simp at h
  ·simp [hk]
theorem jW {κ:Type} [DecidableEq κ](k a:κ)(v:Value):∀(D:List (κ×Value))(i n:Nat)(u:Value),look k D i=some (i+n,u)→(look a (D.set n (k,v)) i).map (·.2)=if a=k then some v else (look a D i).map (·.2):=by
 intro D;induction D with
 | nil=>intro i n u h;cases h
 | cons p D ih=>
  intro i n u h;rw [look] at h;split at h
  ·rename_i b
   simp at h;obtain ⟨rfl,_⟩:n=0∧_:=⟨by omega,h.2⟩;rw [z6,look,look];by_cases ha:a=k
   ·simp [ha]
   ·have:¬ a=p.1:=fun e=>ha (e.trans b.symm)
    simp [ha,this]
  ·rename_i b
   cases n with
   | zero=>
    obtain ⟨m,d,_⟩:=cj h;omega
   | succ n=>
    rw [z7,look,look];have c:=ih (i+1) n u (by rw [h];congr 2;omega);by_cases ha:a=p.1
    ·have:¬ a=k:=fun e=>b (e.symm.trans ha)
     simp [ha]
     intro e;exact absurd (ha.trans e) this
    ·simp only [ha,if_false];exact c
structure Pe where
 phs:Int
 timer:Int
  deriving DecidableEq
abbrev vPe (x:Pe):Value:=.agg #[.int .i64 x.phs,.int .i64 x.timer]
theorem pe_eq (a b:Pe)(w:World):(Op.equal 362 (vPe a) (vPe b)).run Tryz.prog w=.ok (decide (a=b)) w:=by
 obtain ⟨g,f⟩:=a;obtain ⟨b1,b2⟩:=b;have c:Tryz.prog.underlying 362=some (.struct (Tryz.prog.fieldsOf 362)):=by kernel_rfl
 have d:Tryz.prog.stoodInHeld 362=false:=by kernel_rfl
 unfold Op.equal Op.maxDepth;rw [show (10000:Nat)=9999+1 from rfl,run_equalIn_agg w 9999 362 _ _ c d];simp only [Program.fieldsOf,Tryz.underlying362];clear c d;have i:=Tryz.underlying3;have h:=Tryz.isAgg3;have j:=Tryz.sizeOf3;go_simp
 by_cases h1:g=b1 <;> by_cases h2:f=b2 <;> simp [h1,h2]
theorem rS (em:Bool)(a:Pe)(w:World):(Instr.checkKey em 10000 362 (vPe a)).run Tryz.prog w=.ok () w:=by
 kernel_rfl
theorem rT (a:Pe)(w:World):(Instr.keyThatStays (vPe a) (vPe a)).run Tryz.prog w=.ok (vPe a) w:=by
 unfold Instr.keyThatStays;simp [Instr.sameBits]
theorem jX:KeyLaw2 362 vPe:=⟨rS,fun a D es w h=>cV (by kernel_rfl) (fun a=>⟨_,rfl⟩) pe_eq a D es w h,rT⟩
def selB (b0 b1 b2 b3 b4 b5:Bool)(k:Pe):Option Value:=
 if k=⟨1,1⟩ then (if b0 then some (.int .i64 2) else none)
 else if k=⟨2,2⟩ then (if b1 then some (.int .i64 2) else none)
 else if k=⟨2,3⟩ then (if b2 then some (.int .i64 4) else none)
 else if k=⟨3,4⟩ then (if b3 then some (.int .i64 4) else none)
 else if k=⟨4,4⟩ then (if b4 then some (.int .i64 4) else none)
 else if k=⟨4,5⟩ then (if b5 then some (.int .i64 1) else none)
 else none
structure FM (w0 w:World)(D:List (Pe×Value))(b0 b1 b2 b3 b4 b5:Bool):Prop where
 map:MapB w w0.heap.size vPe D
 told:∀k,told D k=selB b0 b1 b2 b3 b4 b5 k
 low:Bw w0 w
theorem eG {w0 w:World}{D:List (Pe×Value)}{b0 b1 b2 b3 b4 b5 c0 c1 c2 c3 c4 c5:Bool}(h:FM w0 w D b0 b1 b2 b3 b4 b5)(k:Pe)(v:Value)(hk:selB b0 b1 b2 b3 b4 b5 k=none)(hn:∀a,(if a=k then some v else selB b0 b1 b2 b3 b4 b5 a)=selB c0 c1 c2 c3 c4 c5 a) :
  (Instr.mapUpdate 359 (.map (some w0.heap.size)) (vPe k) v).run Tryz.prog w=.ok () (pOb w w0.heap.size (mkMap vPe (D++[(k,v)])))∧FM w0 (pOb w w0.heap.size (mkMap vPe (D++[(k,v)]))) (D++[(k,v)]) c0 c1 c2 c3 c4 c5:=by
 have b:told D k=none:=(h.told k).trans hk;refine ⟨dM jX Tryz.underlying359 w _ D k v h.map (by unfold told at b;simpa using b),h.map.put,fun a=>?_,(bT _ _ _).low h.low (by simp)⟩;rw [oU D k a v b,h.told a,hn a]
theorem oV {P:Program}{md:Region.Mode}{ops:Array Oper}{Q:Exit→Act→World→Prop}(I:Nat→Array Bool→Act→World→Prop)
  (hs:∀n l a w,I n l a w→wpAny P md ops Q n l a w∨∃m,n=m+1∧Region.ready md ops l≠[]∧∀i∈Region.ready md ops l,wpOp P ops Q i (I m (l.setIfInBounds i true)) a w):∀n l a w,I n l a w→wpAny P md ops Q n l a w:=by
 intro n;induction n with
 | zero=>
  intro l a w h;rcases hs 0 l a w h with h | ⟨m,hm,_⟩
  ·exact h
  ·omega
 | succ n ih=>
  intro l a w h;rcases hs (n+1) l a w h with h | ⟨m,hm,hne,h⟩
  ·exact h
  ·obtain rfl:n=m:=by omega
   exact wpAny_all rfl hne fun i hi=>wpOp_mono (fun a w hI=>ih _ _ _ hI) (h i hi)
def ops1 (c:Code):Array Oper:=match c with
 | .seq _ (.seq (.region _ ops _) _)=>ops
 | _=>#[]
noncomputable def opsF:Array Oper:=match Tryz.f277.body with
 | some c=>ops1 c
 | none=>#[]
def lst (b0 b1 b2 b3 b4 b5:Bool):Array Bool:=#[true,true,b0,true,b1,true,b2,true,b3,true,b4,true,b5,false,false]
def left1 (b:Bool):Nat:=if b then 0 else 1
theorem jY:∀b0 b1 b2 b3 b4 b5:Bool,(b0&&b1&&b2&&b3&&b4&&b5)=false→Region.ready .any opsF (lst b0 b1 b2 b3 b4 b5)≠[]∧∀i∈Region.ready .any opsF (lst b0 b1 b2 b3 b4 b5),(i=2∧b0=false)∨(i=4∧b1=false)∨(i=6∧b2=false)∨(i=8∧b3=false)∨(i=10∧b4=false)∨(i=12∧b5=false):=by
 intro b0 b1 b2 b3 b4 b5;cases b0 <;> cases b1 <;> cases b2 <;> cases b3 <;> cases b4 <;> cases b5 <;> first | (intro h;exact absurd h (by decide)) | (intro _;exact ⟨by decide +kernel,by decide +kernel⟩)
def followB (s l:Bool)(k:Pe):Option Value:=
 if k=⟨4,5⟩∧l=true then some (.int .i64 5) else if k=⟨2,3⟩∧s=true then some (.int .i64 3) else selB true true true true true true k
def FollowPost (s l:Bool)(w:World)(e:Ending)(w':World):Prop:=∃D,e=.returned (.map (some w.heap.size))∧MapB w' w.heap.size vPe D∧(∀k,told D k=followB s l k)∧Bw w w'
def actF (s l:Bool)(M:Nat):Act:={ tmps:=#[.bool s,.bool l,undef,undef,.map none,undef,.map (some M),.agg #[.int .i64 1,.int .i64 1],.agg #[.int .i64 2,.int .i64 2],.agg #[.int .i64 2,.int .i64 3],.agg #[.int .i64 3,.int .i64 4],.agg #[.int .i64 4,.int .i64 4],.agg #[.int .i64 4,.int .i64 5],undef,undef,undef,undef,undef,undef,undef,undef],defers:=[] }
theorem fN (s l:Bool)(w:World):Calls Tryz.prog 277 #[.bool s,.bool l] w (FollowPost s l w):=by
 have ab:∀w:World,(Instr.makeMap 359 none).run Tryz.prog w=.ok (.map (some w.heap.size)) (w.alloc (.map #[] 0)):=fun w=>rfl
 go_enter Tryz.func277,Tryz.ntmps277;go_wp2_with fail;refine wp_region_any (by kernel_rfl) ?_;refine wpAny_take (i:=1) (oi:=_) (v:=?_) rfl (by kernel_rfl) (by kernel_rfl) (by kernel_rfl) (fun _ _ _ h=>h) (Or.inl ⟨by rfl,?_⟩) ?_;rotate_left
 ·(intro w;go_simp;try with_reducible rfl)
 simp only [Act.put,z4,z6,z7];refine wpAny_take (i:=3) (oi:=_) (v:=?_) rfl (by kernel_rfl) (by kernel_rfl) (by kernel_rfl) (fun _ _ _ h=>h) (Or.inl ⟨by rfl,?_⟩) ?_;rotate_left
 ·(intro w;go_simp;try with_reducible rfl)
 simp only [Act.put,z4,z6,z7];refine wpAny_take (i:=5) (oi:=_) (v:=?_) rfl (by kernel_rfl) (by kernel_rfl) (by kernel_rfl) (fun _ _ _ h=>h) (Or.inl ⟨by rfl,?_⟩) ?_;rotate_left
 ·(intro w;go_simp;try with_reducible rfl)
 simp only [Act.put,z4,z6,z7];refine wpAny_take (i:=7) (oi:=_) (v:=?_) rfl (by kernel_rfl) (by kernel_rfl) (by kernel_rfl) (fun _ _ _ h=>h) (Or.inl ⟨by rfl,?_⟩) ?_;rotate_left
 ·(intro w;go_simp;try with_reducible rfl)
 simp only [Act.put,z4,z6,z7];refine wpAny_take (i:=9) (oi:=_) (v:=?_) rfl (by kernel_rfl) (by kernel_rfl) (by kernel_rfl) (fun _ _ _ h=>h) (Or.inl ⟨by rfl,?_⟩) ?_;rotate_left
 ·(intro w;go_simp;try with_reducible rfl)
 simp only [Act.put,z4,z6,z7];refine wpAny_take (i:=11) (oi:=_) (v:=?_) rfl (by kernel_rfl) (by kernel_rfl) (by kernel_rfl) (fun _ _ _ h=>h) (Or.inl ⟨by rfl,?_⟩) ?_;rotate_left
 ·(intro w;go_simp;try with_reducible rfl)
 simp only [Act.put,z4,z6,z7];refine wpAny_ready (rs:=[0]) (by kernel_rfl) (by simp) ?_;refine AllReady.cons rfl (fun KQ hKQ=>?_) AllReady.nil;go_simp
 refine hKQ _ _ ?_;clear hKQ KQ;have C:FM w (w.alloc (Obj.map #[] 0)).drew [] false false false false false false:=⟨by
  show (w.alloc (Obj.map #[] 0)).heap[w.heap.size]?=_
  exact heap_alloc_new _ _,fun k=>by
  unfold selB told look;simp,Bn.drew⟩
 refine oV (P:=Tryz.prog) (fun n Z a w'=>∃d f c b j g D,n=2+(left1 d+left1 f+left1 c+left1 b+left1 j+left1 g)∧Z=lst d f c b j g∧a=actF s l w.heap.size∧FM w w' D d f c b j g) ?step _ _ _ _ ?start
 case start=>exact ⟨_,_,_,_,_,_,_,rfl,rfl,rfl,C⟩
 case step=>
  rintro n Z a W ⟨d,f,c,b,j,g,D,rfl,rfl,rfl,u⟩;by_cases hall:(d&&f&&c&&b&&j&&g)=false
  ·refine Or.inr ⟨1+(left1 d+left1 f+left1 c+left1 b+left1 j+left1 g),by omega,(jY d f c b j g hall).1,fun i hi=>?_⟩;rcases (jY d f c b j g hall).2 i hi with ⟨rfl,rfl⟩ | ⟨rfl,rfl⟩ | ⟨rfl,rfl⟩ | ⟨rfl,rfl⟩ | ⟨rfl,rfl⟩ | ⟨rfl,rfl⟩
   ·have q:=eG (c0:=true) (c1:=f) (c2:=c) (c3:=b) (c4:=j) (c5:=g) u ⟨1,1⟩ (.int .i64 2) (by simp [selB]) (fun a=>by unfold selB;repeat' split <;> simp_all);refine wpOp_step rfl (fun K' hK=>?_);simp only [actF];go_simp
    exact hK _ _ ⟨true,_,_,_,_,_,_,by simp only [left1];simp;omega,rfl,rfl,q.2⟩
   ·have q:=eG (c0:=d) (c1:=true) (c2:=c) (c3:=b) (c4:=j) (c5:=g) u ⟨2,2⟩ (.int .i64 2) (by simp [selB]) (fun a=>by unfold selB;repeat' split <;> simp_all);refine wpOp_step rfl (fun K' hK=>?_);simp only [actF];go_simp
    exact hK _ _ ⟨_,true,_,_,_,_,_,by simp only [left1];simp;omega,rfl,rfl,q.2⟩
   ·have q:=eG (c0:=d) (c1:=f) (c2:=true) (c3:=b) (c4:=j) (c5:=g) u ⟨2,3⟩ (.int .i64 4) (by simp [selB]) (fun a=>by unfold selB;repeat' split <;> simp_all);refine wpOp_step rfl (fun K' hK=>?_);simp only [actF];go_simp
    exact hK _ _ ⟨_,_,true,_,_,_,_,by simp only [left1];simp;omega,rfl,rfl,q.2⟩
   ·have q:=eG (c0:=d) (c1:=f) (c2:=c) (c3:=true) (c4:=j) (c5:=g) u ⟨3,4⟩ (.int .i64 4) (by simp [selB]) (fun a=>by unfold selB;repeat' split <;> simp_all);refine wpOp_step rfl (fun K' hK=>?_);simp only [actF];go_simp
    exact hK _ _ ⟨_,_,_,true,_,_,_,by simp only [left1];simp;omega,rfl,rfl,q.2⟩
   ·have q:=eG (c0:=d) (c1:=f) (c2:=c) (c3:=b) (c4:=true) (c5:=g) u ⟨4,4⟩ (.int .i64 4) (by simp [selB]) (fun a=>by unfold selB;repeat' split <;> simp_all);refine wpOp_step rfl (fun K' hK=>?_);simp only [actF];go_simp
    exact hK _ _ ⟨_,_,_,_,true,_,_,by simp only [left1];simp;omega,rfl,rfl,q.2⟩
   ·have q:=eG (c0:=d) (c1:=f) (c2:=c) (c3:=b) (c4:=j) (c5:=true) u ⟨4,5⟩ (.int .i64 1) (by simp [selB]) (fun a=>by unfold selB;repeat' split <;> simp_all);refine wpOp_step rfl (fun K' hK=>?_);simp only [actF];go_simp
    exact hK _ _ ⟨_,_,_,_,_,true,_,by simp only [left1];simp;omega,rfl,rfl,q.2⟩
  ·left
   have hb:d=true∧f=true∧c=true∧b=true∧j=true∧g=true:=by
    revert hall
    cases d <;> cases f <;> cases c <;> cases b <;> cases j <;> cases g <;> simp
   obtain ⟨rfl,rfl,rfl,rfl,rfl,rfl⟩:=hb;have r:=aa u;clear u C hall;simp only [left1,lst,actF];refine wpAny_ready (rs:=[13]) (by kernel_rfl) (by simp) ?_;refine AllReady.cons rfl (fun KQ hKQ=>?_) AllReady.nil;go_simp
   refine hKQ _ _ ?_;clear hKQ KQ;refine wpAny_ready (rs:=[14]) (by kernel_rfl) (by simp) ?_;refine AllReady.cons rfl (fun KQ hKQ=>?_) AllReady.nil;go_simp
   refine hKQ _ _ ?_;clear hKQ KQ;refine wpAny_done (by kernel_rfl) ?_ _;have N:told D ⟨2,3⟩=some (.int .i64 4):=(r.o.told _).trans (by simp [selB]);obtain ⟨⟨S,u1⟩,y,_⟩:=Option.map_eq_some_iff.1 N;have Q:=bZ jX Tryz.underlying359 W w.heap.size D ⟨2,3⟩ S u1 (.int .i64 3) r.o.map y;obtain ⟨D1,hD1⟩:∃D1,D.set S (⟨2,3⟩,Value.int .i64 3)=D1:=⟨_,rfl⟩;have K:=aa (fun a=>(jW ⟨2,3⟩ a (.int .i64 3) D 0 S u1 (by rw [Av];exact y)));rw [hD1] at Q K;have O:Hid (MapB (pOb W w.heap.size (mkMap vPe D1)) w.heap.size vPe D1):=aa r.o.map.put;have F:Hid (Bw w (pOb W w.heap.size (mkMap vPe D1))):=aa ((bT _ _ _).low r.o.low (by simp));have U:=aa Q;clear Q y N hD1;generalize V:pOb W w.heap.size (mkMap vPe D1)=W1 at *;clear V;have G:∀(X:World) (E:List (Pe×Value)),MapB X w.heap.size vPe E→Bw w X→(∀k,told E k=if k=⟨2,3⟩∧s=true then some (.int .i64 3) else selB true true true true true true k)→∃m,(l=false∧m=E∨l=true∧(Instr.mapUpdate 359 (.map (some w.heap.size)) (.agg #[.int .i64 4,.int .i64 5]) (.int .i64 5)).run Tryz.prog X=.ok () (pOb X w.heap.size (mkMap vPe m)))∧(∀k,told m k=followB s l k)∧MapB (pOb X w.heap.size (mkMap vPe m)) w.heap.size vPe m∧Bw w (pOb X w.heap.size (mkMap vPe m)):=by
    intro X E Y M z;have hm:Bw w (pOb X w.heap.size (mkMap vPe E)):=(bT _ _ _).low M (by simp);cases l with
    | false=>
     refine ⟨E,Or.inl ⟨rfl,rfl⟩,fun k=>?_,Y.put,hm⟩;rw [z];unfold followB;simp
    | true=>
     have h2:told E ⟨4,5⟩=some (.int .i64 1):=(z _).trans (by simp [selB]);obtain ⟨⟨n2,u2⟩,J,_⟩:=Option.map_eq_some_iff.1 h2;have T:=bZ jX Tryz.underlying359 X w.heap.size E ⟨4,5⟩ n2 u2 (.int .i64 5) Y J;refine ⟨_,Or.inr ⟨rfl,T⟩,fun k=>?_,Y.put,(bT _ _ _).low M (by simp)⟩;have h3:=jW ⟨4,5⟩ k (.int .i64 5) E 0 n2 u2 (by rw [Av];exact J);have R:=z k;unfold told at *;rw [h3,R];unfold followB;simp
   have L:=aa G;clear G;cases s with
   | false=>
    obtain ⟨m,t,H,B,I⟩:=L.o W D r.o.map r.o.low (fun k=>by rw [r.o.told];simp);have p:=aa H;have x:=aa B;have A:=aa I;clear H B I;cases l with
    | false=>
     obtain rfl:m=D:=by rcases t with h | h;exact h.2;exact absurd h.1 (by simp)
     clear t;go_wp2_with fail;go_ret;exact ⟨_,rfl,r.o.map,p.o,r.o.low⟩
    | true=>
     have T:(Instr.mapUpdate 359 (.map (some w.heap.size)) (.agg #[.int .i64 4,.int .i64 5]) (.int .i64 5)).run Tryz.prog W=.ok () (pOb W w.heap.size (mkMap vPe m)):=by rcases t with h | h;exact absurd h.1 (by simp);exact h.2
     clear t;go_wp2_with fail;go_ret;exact ⟨_,rfl,x.o,p.o,A.o⟩
   | true=>
    obtain ⟨m,t,H,B,I⟩:=L.o W1 D1 O.o F.o (fun k=>by
     have:=K.o k
     unfold told;rw [this];have R:=r.o.told k;unfold told at R;rw [R];simp)
    have p:=aa H;have x:=aa B;have A:=aa I;clear H B I;have Q:=U.o;cases l with
    | false=>
     obtain rfl:m=D1:=by rcases t with h | h;exact h.2;exact absurd h.1 (by simp)
     clear t;go_wp2_with fail;go_ret;exact ⟨_,rfl,O.o,p.o,F.o⟩
    | true=>
     have T:(Instr.mapUpdate 359 (.map (some w.heap.size)) (.agg #[.int .i64 4,.int .i64 5]) (.int .i64 5)).run Tryz.prog W1=.ok () (pOb W1 w.heap.size (mkMap vPe m)):=by rcases t with h | h;exact absurd h.1 (by simp);exact h.2
     clear t;go_wp2_with fail;go_ret;exact ⟨_,rfl,x.o,p.o,A.o⟩
def wd (i:Nat):ByteArray:=match i with
 | 0=>⟨#[115,104,117,116]⟩
 | 1=>⟨#[116,114,97,100,101]⟩
 | 2=>⟨#[102,117,110,100]⟩
 | 3=>⟨#[98,117,121,105,110]⟩
 | 4=>⟨#[112,97,121,111,117,116]⟩
 | 5=>⟨#[99,108,111,115,101,100]⟩
 | _=>⟨#[]⟩
structure Words (W:World):Prop where
 lt:0<W.heap.size
 cel:∀i,i<6→W.cell? ⟨0,i,none⟩=some (.string (wd i))
theorem Words.keep {W W':World}(h:Words W)(hb:Bw W W'):Words W':=
 ⟨AR h.lt hb.size,fun i hi=>(hb.c (p:=⟨0,i,none⟩) h.lt).trans (h.cel i hi)⟩
theorem Words.d {w wd:World}(h:Words w)(e:wd.heap=w.heap:=by rfl):Words wd:=⟨by rw [e];exact h.lt,fun i hi=>(AZ (w:=w) (by rw [e])).trans (h.cel i hi)⟩
theorem Words.modT {B:Nat}{TS:List TypeId}{K:List Nat}{w w':World}(h:Words w)(m:ModT B TS K w w')(hB:0<B):Words w':=
 ⟨AR h.lt m.size,fun i hi=>(AZ (w:=w) (m.far 0 h.lt (Or.inl hB))).trans (h.cel i hi)⟩
theorem wy:∀j,j<6→wd j≠ByteArray.empty:=by
 intro j a;obtain rfl | rfl | rfl | rfl | rfl | rfl:j=0∨j=1∨j=2∨j=3∨j=4∨j=5:=by omega
 all_goals intro h;have:=congrArg ByteArray.size h;revert this;decide
theorem rU (j:Nat)(hj:j<6)(w:World)(hw:Words w):Calls Tryz.prog 278 #[.int .i64 (j:Int)] w fun e w'=>e=.returned (.string (wd j))∧w'=w:=by
 have a:=hw.cel j hj;have b:¬ ((j:Int)<0):=by omega
 have c:(j:Int)<6:=by omega
 clear hw;generalize wd j=s at *;go_enter Tryz.func278,Tryz.ntmps278;go_wp2;go_ret;exact ⟨rfl,rfl⟩
def followI (s l:Bool)(k:Pe):Option Int:=
 if k=⟨4,5⟩ then some (if l then 5 else 1) else if k=⟨2,3⟩ then some (if s then 3 else 4) else if k=⟨1,1⟩ then some 2 else if k=⟨2,2⟩ then some 2 else if k=⟨3,4⟩ then some 4 else if k=⟨4,4⟩ then some 4 else none
theorem iv (s l:Bool)(k:Pe):followB s l k=(followI s l k).map (Value.int .i64):=by
 unfold followB followI selB;cases s <;> cases l <;> simp only [and_true,and_false,if_false,Bool.false_eq_true,if_true]
 all_goals
  repeat' split
  all_goals simp_all
theorem js {s l:Bool}{k:Pe}{n:Int}(h:followI s l k=some n):∃j:Nat,j<6∧k.phs=j:=by
 unfold followI at h;by_cases h1:k=⟨4,5⟩
 ·subst h1;exact ⟨4,by omega,rfl⟩
 by_cases h2:k=⟨2,3⟩
 ·subst h2;exact ⟨2,by omega,rfl⟩
 by_cases h3:k=⟨1,1⟩
 ·subst h3;exact ⟨1,by omega,rfl⟩
 by_cases h4:k=⟨2,2⟩
 ·subst h4;exact ⟨2,by omega,rfl⟩
 by_cases h5:k=⟨3,4⟩
 ·subst h5;exact ⟨3,by omega,rfl⟩
 by_cases h6:k=⟨4,4⟩
 ·subst h6;exact ⟨4,by omega,rfl⟩
 simp [h1,h2,h3,h4,h5,h6] at h
def nextM (p t:Int)(s l:Bool):Int×Int:=match followI s l ⟨p,t⟩ with
 | some n=>(n,0)
 | none=>(0,11)
theorem rV (p t:Int)(s l:Bool)(w:World)(hw:Words w):Calls Tryz.prog 223 #[.int .i64 p,.int .i64 t,.bool s,.bool l] w fun e w'=>e=.returned (.tuple #[.int .i64 (nextM p t s l).1,.int .i64 (nextM p t s l).2])∧Bw w w':=by
 have r:∀w,(zeroValue 3).run Tryz.prog w=.ok (.int .i64 0) w:=fun w=>by kernel_rfl
 have A:=aa hw;clear hw;cases hf:followI s l ⟨p,t⟩ with
 | none=>
  have f:Hid (nextM p t s l=(0,11)):=aa (by unfold nextM;rw [hf]);rw [f.o];have q:=aa hf;clear hf;go_enter Tryz.func223,Tryz.ntmps223;go_wp2_with (go_at_call 277;refine (fN s l _).mono ?_;rintro e h ⟨D,rfl,k,c,d⟩;have m:=eX jX Tryz.underlying359 (.int .i64 0) r h w.heap.size D ⟨p,t⟩ k;have a:=c ⟨p,t⟩;rw [iv,q.o] at a;have b:look (⟨p,t⟩:Pe) D 0=none:=(by unfold told at a;simpa using a);rw [b] at m;clear c a b)
  go_ret2;exact ⟨rfl,d⟩
 | some n=>
  have f:Hid (nextM p t s l=(n,0)):=aa (by unfold nextM;rw [hf]);rw [f.o];have q:=aa hf;obtain ⟨j,v,g⟩:=js hf;have g:p=(j:Int):=g;subst g;have y:=wy j v;have z:(wd j).toList.isEmpty=false:=by
   rw [List.isEmpty_eq_false_iff];intro e;rw [ByteArray.toList_eq] at e;exact y (ByteArray.ext (Array.toList_inj.mp e))
  clear hf;go_enter Tryz.func223,Tryz.ntmps223;go_wp2_with (first | (go_at_call 277;refine (fN s l _).mono ?_;rintro e h ⟨D,rfl,k,c,d⟩;have x:=aa (A.o.keep d);have m:=eX jX Tryz.underlying359 (.int .i64 0) r h w.heap.size D ⟨(j:Int),t⟩ k;have a:=c ⟨(j:Int),t⟩;rw [iv,q.o] at a;have b:∃i,look (⟨(j:Int),t⟩:Pe) D 0=some (i,.int .i64 n):=(by unfold told at a;obtain ⟨⟨i,u⟩,h4,h5⟩:=Option.map_eq_some_iff.1 a;simp at h5;exact ⟨i,by rw [h4,h5]⟩);obtain ⟨i,b⟩:=b;rw [b] at m;clear c a b) | (go_at_call 278;refine (rU j v _ x.o).mono ?_;rintro e w2 ⟨rfl,rfl⟩))
  go_ret2;exact ⟨rfl,d⟩
end
end Go.Proofs.YtmhohaanddglbaaGreatDoor
namespace Go.Proofs.YtmhohaanddglbaaGreatDoor
open Go.ChangeShapes Go.WideShapes Go.ChangeAt Go.RowKit
theorem rW:ownKnob Tryz.prog.godebug=none:=by kernel_rfl
theorem y9:Tryz.prog.globalNamed "compline/calendar.words"=some 0:=by kernel_rfl
theorem za:(Tryz.prog.globals[0]?).map (·.type)=some 413:=by kernel_rfl
def wlaid:List (String×DataW Unit):=[("compline/calendar.words",Rows.laid_compline_calendar_words)]
theorem rX (os:Os)(args:Array Value):laidMetH Tryz.prog wlaid ((World.doorLaid Tryz.prog 400 os).forCall (fun _ _=>0) ⟨#[],args,[]⟩).memory:=
 laidMetH_of_parts3 (fuel:=8) (laidMet_of_run' 8 (by kernel_rfl) (by kernel_rfl)) (by kernel_rfl) (by kernel_rfl)
theorem wz (i:Nat)(hi:i<6):∃l:List UInt8,(wd i).data.toList=l∧([.lit (.string [115,104,117,116]),.lit (.string [116,114,97,100,101]),.lit (.string [102,117,110,100]),.lit (.string [98,117,121,105,110]),.lit (.string [112,97,121,111,117,116]),.lit (.string [99,108,111,115,101,100])]:List (DataW Unit))[i]?=some (.lit (.string l)):=by
 obtain rfl | rfl | rfl | rfl | rfl | rfl:i=0∨i=1∨i=2∨i=3∨i=4∨i=5:=by omega
 all_goals exact ⟨_,rfl,rfl⟩
theorem wA {W:World}(h:laidMetH Tryz.prog wlaid W):Words W:=by
 rw [MakeChecks.laidMetH_plain _ _ _ (by kernel_rfl)] at h;obtain ⟨x,⟨B,A,d,C,v,y,f,o,m,n,_,_⟩,_,_⟩:=h;obtain rfl:=Option.some.inj (y9.symm.trans f);obtain rfl:=Option.some.inj (za.symm.trans o);obtain ⟨xs,m1,rfl,hx1,hlen,hn,hel⟩:=DataW.trod_array Tryz.underlying413 n;have u:Tryz.prog.cellsOf 9=1:=by kernel_rfl
 have c:Tryz.prog.cellsOf 413=6:=by kernel_rfl
 rw [c] at hlen;have q:∀i,i<6→W.cell? ⟨0,i,none⟩=some (.string (wd i)):=by
  intro i p;have b:=hel i p;rw [u,A0] at b;have g:xs[i]?=some (xs[i]'(by omega)):=Ab (by omega);rw [g] at b;obtain ⟨s,e1,e2,_⟩:=DataW.trod_string Tryz.underlying9 b;obtain ⟨l,hl1,hl2⟩:=wz i p;have j:(xs.map (·.1))[i]?=some (.lit (.string l)):=by
   have:=congrArg Prod.fst hx1
   rw [←hl2];exact congrArg (fun z=>match z with | .agg ys=>ys[i]? | _=>none) this.symm
  rw [List.getElem?_map,g] at j;rw [e2] at j;simp at j;have t:s=wd i:=by
   apply ByteArray.ext
   apply Array.ext'
   rw [hl1,←j]
  have a:=World.var?_cell f m i;rw [a];have k:(d.toList.drop i).take 1=[d.toList[i]'(by omega)]:=by
   rw [Bi (by omega)];rfl
  rw [k] at e1;simp at e1;rw [←t,←e1];simp
 refine ⟨?_,q⟩;have r:=q 0 (by omega);rcases Az 0 W.heap.size with h' | h'
 ·exact h'
 ·simp [World.cell?,AO h'] at r
end Go.Proofs.YtmhohaanddglbaaGreatDoor
namespace Go.Proofs.YtmhohaanddglbaaGreatDoor
open Go
def fact0 (P:Program)(f:FuncId)(fn:Func)(s:ChangeSpec)(c:OpenClaim):Bool:=c.wf (OpenSpec.ofChange s)
def fact1 (P:Program)(f:FuncId)(fn:Func)(s:ChangeSpec)(c:OpenClaim):Bool:=laidOutB P
def fact2 (P:Program)(f:FuncId)(fn:Func)(s:ChangeSpec)(c:OpenClaim):Bool:=mapsRowed P
def fact3 (P:Program)(f:FuncId)(fn:Func)(s:ChangeSpec)(c:OpenClaim):Bool:=fn.params.all (P.readableRec ·)
def fact4 (P:Program)(f:FuncId)(fn:Func)(s:ChangeSpec)(c:OpenClaim):Bool:=namedTie P c.named s.vars
def fact5 (P:Program)(f:FuncId)(fn:Func)(s:ChangeSpec)(c:OpenClaim):Bool:=(c.stops==[])
def fact6 (P:Program)(f:FuncId)(fn:Func)(s:ChangeSpec)(c:OpenClaim):Bool:=(P.stops==[])
def fact7 (P:Program)(f:FuncId)(fn:Func)(s:ChangeSpec)(c:OpenClaim):Bool:=(c.knobs==[])
def fact8 (P:Program)(f:FuncId)(fn:Func)(s:ChangeSpec)(c:OpenClaim):Bool:=(P.stopKnobs==[])
def fact9 (P:Program)(f:FuncId)(fn:Func)(s:ChangeSpec)(c:OpenClaim):Bool:=(c.inPlace==P.inPlace f)
def fact10 (P:Program)(f:FuncId)(fn:Func)(s:ChangeSpec)(c:OpenClaim):Bool:=(c.unfollowed==P.unfollowed f)
def fact11 (P:Program)(f:FuncId)(fn:Func)(s:ChangeSpec)(c:OpenClaim):Bool:=(c.recurses==P.recurses f)
def fact12 (P:Program)(f:FuncId)(fn:Func)(s:ChangeSpec)(c:OpenClaim):Bool:=(c.named==P.varsNamed f)
def fact13 (P:Program)(f:FuncId)(fn:Func)(s:ChangeSpec)(c:OpenClaim):Bool:=(c.maps==(fn.params.toList++s.plain.varTypes P).any (P.mapsRec ·))
def fact14 (P:Program)(f:FuncId)(fn:Func)(s:ChangeSpec)(c:OpenClaim):Bool:=(c.ifaces==(fn.params.toList++s.plain.varTypes P).any (P.ifacesRec ·))
def fact15 (P:Program)(f:FuncId)(fn:Func)(s:ChangeSpec)(c:OpenClaim):Bool:=(c.mapsOut==P.mapsAmong fn.resultTypes.toList)
def fact16 (P:Program)(f:FuncId)(fn:Func)(s:ChangeSpec)(c:OpenClaim):Bool:=(c.loops==(fn.params.toList++s.plain.varTypes P).any (P.loopsFrom ·))
def fact17 (P:Program)(f:FuncId)(fn:Func)(s:ChangeSpec)(c:OpenClaim):Bool:=(c.wideKeys==(fn.params.toList++s.plain.varTypes P++fn.resultTypes.toList).any (P.wideKeysFrom ·))
def fact18 (P:Program)(f:FuncId)(fn:Func)(s:ChangeSpec)(c:OpenClaim):Bool:=s.vars.all (P.varReadable ·)
def fact19 (P:Program)(f:FuncId)(fn:Func)(s:ChangeSpec)(c:OpenClaim):Bool:=fn.resultTypes.all (fun t=>P.readableRec t&&decide (t<P.types.size))
def fact20 (P:Program)(f:FuncId)(fn:Func)(s:ChangeSpec)(c:OpenClaim):Bool:=(c.ifacesOut==fn.resultTypes.toList.any (P.ifacesRec ·))
def fact21 (P:Program)(f:FuncId)(fn:Func)(s:ChangeSpec)(c:OpenClaim):Bool:=(c.loopsOut==fn.resultTypes.toList.any (P.loopsFrom ·))
def fact22 (P:Program)(f:FuncId)(fn:Func)(s:ChangeSpec)(c:OpenClaim):Bool:=(c.plainKeys==P.plainKeys)
def fact23 (P:Program)(f:FuncId)(fn:Func)(s:ChangeSpec)(c:OpenClaim):Bool:=c.shortTexts.isNone
def fact24 (P:Program)(f:FuncId)(fn:Func)(s:ChangeSpec)(c:OpenClaim):Bool:=P.stopsHeard
def fact25 (P:Program)(f:FuncId)(fn:Func)(s:ChangeSpec)(c:OpenClaim):Bool:=P.mayEnter
def fact26 (P:Program)(f:FuncId)(fn:Func)(s:ChangeSpec)(c:OpenClaim):Bool:=(c.lifted==P.liftsFinal)
def fact27 (P:Program)(f:FuncId)(fn:Func)(s:ChangeSpec)(c:OpenClaim):Bool:=(P.make==some c.make)
def fact28 (P:Program)(f:FuncId)(fn:Func)(s:ChangeSpec)(c:OpenClaim):Bool:=(c.kinds==(if c.domain.isEmpty then [] else fn.params.toList.map fun t=>match P.underlying t with | some (.int k)=>some k | _=>none))
def fact29 (P:Program)(f:FuncId)(fn:Func)(s:ChangeSpec)(c:OpenClaim):Bool:=(c.pinned==c.pinnedBy)
def fact30 (P:Program)(f:FuncId)(fn:Func)(s:ChangeSpec)(c:OpenClaim):Bool:=(c.veiled==(fn.params.toList++s.plain.varTypes P++fn.resultTypes.toList).any (P.veiledRec ·))
def fact31 (P:Program)(f:FuncId)(fn:Func)(s:ChangeSpec)(c:OpenClaim):Bool:=c.veiledFits P fn.params.toList (fn.params.toList++s.plain.varTypes P++fn.resultTypes.toList)
theorem oW {P:Program}{f:FuncId}{fn:Func}{s:ChangeSpec}{c:OpenClaim}(h0:fact0 P f fn s c=true)(h1:fact1 P f fn s c=true)(h2:fact2 P f fn s c=true)(h3:fact3 P f fn s c=true)(h4:fact4 P f fn s c=true)(h5:fact5 P f fn s c=true)(h6:fact6 P f fn s c=true)(h7:fact7 P f fn s c=true)(h8:fact8 P f fn s c=true)(h9:fact9 P f fn s c=true)(h10:fact10 P f fn s c=true)(h11:fact11 P f fn s c=true)(h12:fact12 P f fn s c=true)(h13:fact13 P f fn s c=true)(h14:fact14 P f fn s c=true)(h15:fact15 P f fn s c=true)(h16:fact16 P f fn s c=true)(h17:fact17 P f fn s c=true)(h18:fact18 P f fn s c=true)(h19:fact19 P f fn s c=true)(h20:fact20 P f fn s c=true)(h21:fact21 P f fn s c=true)(h22:fact22 P f fn s c=true)(h23:fact23 P f fn s c=true)(h24:fact24 P f fn s c=true)(h25:fact25 P f fn s c=true)(h26:fact26 P f fn s c=true)(h27:fact27 P f fn s c=true)(h28:fact28 P f fn s c=true)(h29:fact29 P f fn s c=true)(h30:fact30 P f fn s c=true)(h31:fact31 P f fn s c=true):joinedFacts P f fn s c=true:=by
 unfold joinedFacts;simp only [Bool.and_eq_true];exact ⟨⟨⟨⟨⟨⟨⟨⟨⟨⟨⟨⟨⟨⟨⟨⟨⟨⟨⟨⟨⟨⟨⟨⟨⟨⟨⟨⟨⟨⟨⟨h0,h1⟩,h2⟩,h3⟩,h4⟩,h5⟩,h6⟩,h7⟩,h8⟩,h9⟩,h10⟩,h11⟩,h12⟩,h13⟩,h14⟩,h15⟩,h16⟩,h17⟩,h18⟩,h19⟩,h20⟩,h21⟩,h22⟩,h23⟩,h24⟩,h25⟩,h26⟩,h27⟩,h28⟩,h29⟩,h30⟩,h31⟩
theorem oX {P:Program}(h:P.funcs.toList.any Func.goes=false)(c:OpenClaim)(hs:c.start=.entering):false=c.goesBy P:=by
 have a:∀f,P.goes f=false:=by
  intro f;unfold Program.goes;have d:P.funcs.any Func.goes=false:=by rw [←Array.any_toList];exact h
  rw [d,Bool.and_false,Bool.or_false,Bj];intro g _;cases a:P.funcs[g]? with
  | none=>simp
  | some fn=>
   have b:fn∈P.funcs.toList:=by simpa using Array.mem_of_getElem? a
   have:=(Bj.1 h) fn b
   simpa using this
 unfold OpenClaim.goesBy Program.goesAt Program.goesFrom;rw [hs];cases P.funcNamed c.func with
 | none=>rfl
 | some f=>simp [a f]
theorem zc:Tryz.pinned.checked.prog.funcs.toList.any Func.goes=false:=by kernel_rfl
end Go.Proofs.YtmhohaanddglbaaGreatDoor
namespace Go.Proofs.YtmhohaanddglbaaGreatDoor
open Go.RowKit
section
attribute [local go_sem ↓] Go.wp_at_zero Go.wp_at_succ
theorem iw (ms:Int)(a:Ac)(h:(numM ms a).2=0):0≤(numM ms a).1∧(numM ms a).1<6+3 * ms∨ms<0:=by
 unfold numM at h ⊢;split
 ·rename_i c;omega
 ·rename_i c
  split
  ·rename_i d
   obtain ⟨b,f,g⟩:=d;have:0≤cplace a.k∧cplace a.k≤2:=by
    unfold cplace at b ⊢;split
    ·omega
    ·split
     ·omega
     ·split
      ·omega
      ·rename_i x y z;rw [if_neg x,if_neg y,if_neg z] at b;exact absurd rfl b
   omega
  ·rename_i d;rw [if_neg c,if_neg d] at h;simp at h
def plM (ms na:Nat)(a:Ac)(ass:Int):Int×Int:=if (numM ms a).2=0∧0≤ass∧ass<na then (ass * (6+3 * (ms:Int))+(numM ms a).1,0) else (0,8)
theorem el {ms na:Nat}{a:Ac}{ass:Int}(h:(plM ms na a ass).2=0):0≤(plM ms na a ass).1∧(plM ms na a ass).1<((na * (6+3 * ms):Nat):Int):=by
 unfold plM at h ⊢;by_cases c:(numM ms a).2=0∧0≤ass∧ass<na
 ·rw [if_pos c];obtain ⟨d,g,m⟩:=c;have k:=iw ms a d;have b:0≤(numM ms a).1∧(numM ms a).1<6+3 * (ms:Int):=by omega
  obtain ⟨n,rfl⟩:=Int.eq_ofNat_of_zero_le g;have i:n+1≤na:=by omega
  have l:(n+1) * (6+3 * ms)≤na * (6+3 * ms):=AF _ i;have j:(n+1) * (6+3 * ms)=n * (6+3 * ms)+(6+3 * ms):=Nat.succ_mul _ _;have f:(n:Int) * (6+3 * (ms:Int))=((n * (6+3 * ms):Nat):Int):=by push_cast;rfl
  dsimp only;rw [f];omega
 ·rw [if_neg c] at h;simp at h
theorem jZ (ms:Nat)(h1:ms≤16)(a:Ac)(w:World):Calls Tryz.prog 224 #[.int .i64 ms,aval a] w fun e w'=>e=.returned (.tuple #[.int .i64 (numM ms a).1,.int .i64 (numM ms a).2])∧Bw w w':=
 (l6 ms (by omega) (by omega) a w).mono fun _ _ ⟨he,hw⟩=>⟨he,by rw [hw];exact Bn⟩
theorem cq (g:Nat)(v:Value)(ms na:Nat)(pst:Int)(hms:ms≤16)(hna:na≤9)(a:Ac)(ass:Int)(w:World)(hb:Blk w g 224 #[.int .i64 ms,.int .i64 na,v,.int .i64 pst]) :
  Calls Tryz.prog 175 #[ptr g,aval a,.int .i64 ass] w fun e w'=>e=.returned (.tuple #[.int .i64 (plM ms na a ass).1,.int .i64 (plM ms na a ass).2])∧Bw w w':=by
 obtain ⟨k,m⟩:=a;obtain ⟨⟨n,er⟩,hnum⟩:∃r,numM ms ⟨k,m⟩=r:=⟨_,rfl⟩;have l:=aa hnum;have f:=aa (hb.alloc (.cells (acs ⟨k,m⟩) 81));have d:=aa (Blk.new w 81 (acs ⟨k,m⟩));have A:Bw w (w.alloc (.cells (acs ⟨k,m⟩) 81)):=Bn;have x:=f.o.c 0;have C:=f.o.c 1;have F:=d.o.c 0;have G:=d.o.c 1;have z:(w.alloc (.cells (acs ⟨k,m⟩) 81)).cell? ⟨g,0,none⟩=some (.int .i64 (ms:Nat))∧(w.alloc (.cells (acs ⟨k,m⟩) 81)).cell? ⟨w.heap.size,0,none⟩=some (.int .i64 k)∧(w.alloc (.cells (acs ⟨k,m⟩) 81)).cell? ⟨w.heap.size,1,none⟩=some (.int .i64 m):=⟨x,F,G⟩;by_cases ok:er=0∧0≤ass∧ass<na
 ·obtain ⟨rfl,B,H⟩:=ok;have u:Hid (plM ms na ⟨k,m⟩ ass=(ass * (6+3 * (ms:Int))+n,0)):=aa (by unfold plM;rw [hnum,if_pos ⟨rfl,B,H⟩]);have q:=el (ms:=ms) (na:=na) (a:=⟨k,m⟩) (ass:=ass) (by rw [u.o]);rw [u.o] at q;dsimp only at q;have P:na * (6+3 * ms)≤9 * 54:=Nat.mul_le_mul hna (by omega);have K:=iw ms ⟨k,m⟩ (by rw [hnum]);rw [hnum] at K;dsimp only at K;have D:0≤ass * (6+3 * (ms:Int)):=Int.mul_nonneg (by omega) (by omega);obtain ⟨M,hM⟩:∃M:Int,ass * (6+3 * (ms:Int))=M:=⟨_,rfl⟩;rw [hM] at q D u;have N:wrap64 (ass * (6+3 * (ms:Int)))=M:=by rw [hM];unfold wrap64;omega
  have O:decide (ass<0)=false:=dF (by omega);have L:decide ((na:Int)≤ass)=false:=dF (by omega);clear hM hnum;go_enter Tryz.func175,Tryz.ntmps175;go_wp2_with fail;generalize s:w.alloc (.cells #[.int .i64 k,.int .i64 m] 81)=W0 at *;clear s;go_region_held3 (fun W=>W.cell? ⟨g,0,none⟩=some (.int .i64 (ms:Nat))∧W.cell? ⟨w.heap.size,0,none⟩=some (.int .i64 k)∧W.cell? ⟨w.heap.size,1,none⟩=some (.int .i64 m)) (first | exact z | assumption | go_keep)
   (first | (go_at_call 224;refine (jZ ms hms ⟨k,m⟩ _).mono ?_;rintro e j ⟨rfl,i⟩;rw [l.o];have t:=aa (f.o.keepD i);have y:=aa (d.o.keepD i);have I:Bw w j:=(aB A i A.size);have p:j.cell? ⟨g,0,none⟩=some (.int .i64 (ms:Nat))∧j.cell? ⟨w.heap.size,0,none⟩=some (.int .i64 k)∧j.cell? ⟨w.heap.size,1,none⟩=some (.int .i64 m):=⟨t.o.c 0,y.o.c 0,y.o.c 1⟩))
  rename_i b
  clear b p z x C F G i;have x:=t.o.c 0;have C:=t.o.c 1;go_wp2_with (go_at_call 136;refine (io _ (by omega) (by omega) _).mono ?_;rintro e Q ⟨rfl,rfl⟩)
  go_ret2;exact ⟨by rw [u.o];rfl,I⟩
 ·have u:Hid (plM ms na ⟨k,m⟩ ass=(0,8)):=aa (by unfold plM;rw [hnum,if_neg ok]);have E:(er != 0)=true∨((er != 0)=false∧ass<0)∨((er != 0)=false∧0≤ass∧(na:Int)≤ass):=by
   by_cases h:er=0
   ·have J:(er != 0)=false:=by simpa using h
    rcases AQ ass 0 with h3 | h3
    ·exact Or.inr (Or.inl ⟨J,h3⟩)
    ·exact Or.inr (Or.inr ⟨J,h3,by omega⟩)
   ·exact Or.inl (by simpa using h)
  clear ok hnum;rcases E with B | ⟨B,H⟩ | ⟨B,H,o3⟩
  all_goals
   go_enter Tryz.func175,Tryz.ntmps175;go_wp2_with fail;generalize s:w.alloc (.cells #[.int .i64 k,.int .i64 m] 81)=W0 at *;clear s;go_region_held3 (fun W=>W.cell? ⟨g,0,none⟩=some (.int .i64 (ms:Nat))∧W.cell? ⟨w.heap.size,0,none⟩=some (.int .i64 k)∧W.cell? ⟨w.heap.size,1,none⟩=some (.int .i64 m)) (first | exact z | assumption | go_keep)
    (first | (go_at_call 224;refine (jZ ms hms ⟨k,m⟩ _).mono ?_;rintro e j ⟨rfl,i⟩;rw [l.o];have t:=aa (f.o.keepD i);have y:=aa (d.o.keepD i);have I:Bw w j:=(aB A i A.size);have p:j.cell? ⟨g,0,none⟩=some (.int .i64 (ms:Nat))∧j.cell? ⟨w.heap.size,0,none⟩=some (.int .i64 k)∧j.cell? ⟨w.heap.size,1,none⟩=some (.int .i64 m):=⟨t.o.c 0,y.o.c 0,y.o.c 1⟩))
   rename_i b
   clear b p z x C F G i;have x:=t.o.c 0;have C:=t.o.c 1;go_wp2_with fail;go_ret2;exact ⟨by rw [u.o];rfl,I⟩
def balM (ms na:Nat)(l:List Int)(a:Ac)(ass:Int):Int×Int:=if (plM ms na a ass).2=0 then (l.getD (plM ms na a ass).1.toNat 0,0) else (0,8)
theorem ix {ms na:Nat}{a:Ac}{ass:Int}(h:(plM ms na a ass).2≠0):plM ms na a ass=(0,8):=by
 unfold plM at h ⊢;split
 ·rename_i c;rw [if_pos c] at h;exact absurd rfl h
 ·rfl
theorem fO (B g:Nat)(v:Value)(ms na:Nat)(l:List Int)(pst:Int)(hms:ms≤16)(hna:na≤9)(hl:l.length=na * (6+3 * ms))(a:Ac)(ass:Int)(w:World)(hb:BookAt w B g v ms na l pst) :
  Calls Tryz.prog 122 #[ptr g,aval a,.int .i64 ass] w fun e w'=>e=.returned (.tuple #[.int .i64 (balM ms na l a ass).1,.int .i64 (balM ms na l a ass).2])∧Bw w w':=by
 obtain ⟨k,m⟩:=a;obtain ⟨⟨n,er⟩,hpl⟩:∃r,plM ms na ⟨k,m⟩ ass=r:=⟨_,rfl⟩;have j:=aa hpl;have z:na * (6+3 * ms)≤9 * 54:=Nat.mul_le_mul hna (by omega);have u:Bw w (w.alloc (.cells (acs ⟨k,m⟩) 81)):=Bn;have d:=aa (hb.keep u);have p:=aa (Blk.new w 81 (acs ⟨k,m⟩));clear hb;by_cases ok:er=0
 ·subst ok;have f:=el (ms:=ms) (na:=na) (a:=⟨k,m⟩) (ass:=ass) (by rw [hpl]);rw [hpl] at f;dsimp only at f;obtain ⟨N,rfl⟩:=Int.eq_ofNat_of_zero_le f.1;have x:N<l.length:=by rw [hl];omega
  have h:Hid (balM ms na l ⟨k,m⟩ ass=(l[N],0)):=aa (by unfold balM;rw [hpl,if_pos rfl];dsimp only;rw [Int.toNat_natCast,List.getD_eq_getElem?_getD,List.getElem?_eq_getElem x];rfl);clear hpl f;go_enter Tryz.func122,Tryz.ntmps122;go_wp2_with fail;refine (cq g v ms na pst hms hna ⟨k,m⟩ ass _ d.o.blk).mono ?_;rintro e y ⟨rfl,i⟩;rw [j.o];have q:=aa (d.o.keep i);have s:=u.trans (i.mono (by simp));obtain ⟨a',cap,rfl,hc1,hc2,hcell⟩:=(Sl.own kI q.o.own).ints;obtain ⟨b,off,rfl,hbl,hcl⟩:=hcell (by omega);have E:=q.o.blk.c 2;have D:=hcl N x;have C:(0:Int)≤(N:Int):=by omega
  have A:(N:Int)<(l.length:Int):=by omega
  unfold maxLen at hc2;clear hcell hcl i d p;go_wp2_with fail;go_ret2;exact ⟨by rw [h.o];rfl,s⟩
 ·have h:Hid (balM ms na l ⟨k,m⟩ ass=(0,8)):=aa (by unfold balM;rw [hpl,if_neg ok]);have t:=ix (ms:=ms) (na:=na) (a:=⟨k,m⟩) (ass:=ass) (by rw [hpl];exact ok);rw [hpl] at t;obtain ⟨rfl,rfl⟩:=Prod.mk.inj t;clear hpl t ok;go_enter Tryz.func122,Tryz.ntmps122;go_wp2_with fail;refine (cq g v ms na pst hms hna ⟨k,m⟩ ass _ d.o.blk).mono ?_;rintro e y ⟨rfl,i⟩;rw [j.o];have s:=u.trans (i.mono (by simp));clear i d p;go_wp2_with fail;go_ret2;exact ⟨by rw [h.o];rfl,s⟩
theorem zd (G P:Nat)(cs:Array Value)(hP:cs[0]?=some (ptr P))(a:Ac)(ass:Int)(x y:Int)(w:World)(hb:Blk w G 184 cs)
  (hcall:∀W,Bw w W→Calls Tryz.prog 122 #[ptr P,aval a,.int .i64 ass] W fun e w'=>e=.returned (.tuple #[.int .i64 x,.int .i64 y])∧Bw W w') :
  Calls Tryz.prog 89 #[ptr G,aval a,.int .i64 ass] w fun e w'=>e=.returned (.tuple #[.int .i64 x,.int .i64 y])∧Bw w w':=by
 obtain ⟨k,m⟩:=a;have d:=aa hcall;have h:=aa (hb.alloc (.cells (acs ⟨k,m⟩) 81));have f:=aa (Blk.new w 81 (acs ⟨k,m⟩));have g:Bw w (w.alloc (.cells (acs ⟨k,m⟩) 81)):=Bn;have q:(w.alloc (.cells (acs ⟨k,m⟩) 81)).cell? ⟨G,0,none⟩=some (ptr P)∧(w.alloc (.cells (acs ⟨k,m⟩) 81)).cell? ⟨w.heap.size,0,none⟩=some (.int .i64 k)∧(w.alloc (.cells (acs ⟨k,m⟩) 81)).cell? ⟨w.heap.size,1,none⟩=some (.int .i64 m):=⟨(h.o.c 0).trans hP,f.o.c 0,f.o.c 1⟩;clear hcall hb;have n:=aa hP;clear hP;go_enter Tryz.func89,Tryz.ntmps89;go_wp2_with fail;generalize l:w.alloc (.cells #[.int .i64 k,.int .i64 m] 81)=W0 at *;clear l;go_region_held3 (fun W=>W.cell? ⟨G,0,none⟩=some (ptr P)∧W.cell? ⟨w.heap.size,0,none⟩=some (.int .i64 k)∧W.cell? ⟨w.heap.size,1,none⟩=some (.int .i64 m)) (first | exact q | assumption | go_keep)
  (first | (go_at_call 122;refine (d.o _ (by exact ⟨g.os,g.tape,g.output,g.size,g.block⟩)).mono ?_;rintro e j ⟨rfl,i⟩;have s:=aa (h.o.keepD i);have r:=aa (f.o.keepD i);have t:Bw w j:=(aB g i g.size);have p:j.cell? ⟨G,0,none⟩=some (ptr P)∧j.cell? ⟨w.heap.size,0,none⟩=some (.int .i64 k)∧j.cell? ⟨w.heap.size,1,none⟩=some (.int .i64 m):=⟨(s.o.c 0).trans n.o,r.o.c 0,r.o.c 1⟩))
 rename_i b
 clear b p q i;go_wp2_with fail;go_ret2;exact ⟨rfl,t⟩
theorem ze (G P:Nat)(cs:Array Value)(hP:cs[8]?=some (ptr P))(a:Ac)(ass:Int)(x y:Int)(w:World)(hb:Blk w G 138 cs)
  (hcall:∀W,Bw w W→Calls Tryz.prog 89 #[ptr P,aval a,.int .i64 ass] W fun e w'=>e=.returned (.tuple #[.int .i64 x,.int .i64 y])∧Bw W w') :
  Calls Tryz.prog 59 #[ptr G,aval a,.int .i64 ass] w fun e w'=>e=.returned (.tuple #[.int .i64 x,.int .i64 y])∧Bw w w':=by
 obtain ⟨k,m⟩:=a;have d:=aa hcall;have h:=aa (hb.alloc (.cells (acs ⟨k,m⟩) 81));have f:=aa (Blk.new w 81 (acs ⟨k,m⟩));have g:Bw w (w.alloc (.cells (acs ⟨k,m⟩) 81)):=Bn;have q:(w.alloc (.cells (acs ⟨k,m⟩) 81)).cell? ⟨G,8,none⟩=some (ptr P)∧(w.alloc (.cells (acs ⟨k,m⟩) 81)).cell? ⟨w.heap.size,0,none⟩=some (.int .i64 k)∧(w.alloc (.cells (acs ⟨k,m⟩) 81)).cell? ⟨w.heap.size,1,none⟩=some (.int .i64 m):=⟨(h.o.c 8).trans hP,f.o.c 0,f.o.c 1⟩;clear hcall hb;have n:=aa hP;clear hP;go_enter Tryz.func59,Tryz.ntmps59;go_wp2_with fail;generalize l:w.alloc (.cells #[.int .i64 k,.int .i64 m] 81)=W0 at *;clear l;go_region_held3 (fun W=>W.cell? ⟨G,8,none⟩=some (ptr P)∧W.cell? ⟨w.heap.size,0,none⟩=some (.int .i64 k)∧W.cell? ⟨w.heap.size,1,none⟩=some (.int .i64 m)) (first | exact q | assumption | go_keep)
  (first | (go_at_call 89;refine (d.o _ (by exact ⟨g.os,g.tape,g.output,g.size,g.block⟩)).mono ?_;rintro e j ⟨rfl,i⟩;have s:=aa (h.o.keepD i);have r:=aa (f.o.keepD i);have t:Bw w j:=(aB g i g.size);have p:j.cell? ⟨G,8,none⟩=some (ptr P)∧j.cell? ⟨w.heap.size,0,none⟩=some (.int .i64 k)∧j.cell? ⟨w.heap.size,1,none⟩=some (.int .i64 m):=⟨(s.o.c 8).trans n.o,r.o.c 0,r.o.c 1⟩))
 rename_i b
 clear b p q i;go_wp2_with fail;go_ret2;exact ⟨rfl,t⟩
theorem wB (G P:Nat)(cs:Array Value)(hP:cs[8]?=some (ptr P))(a:Ac)(ass:Int)(x y:Int)(w:World)(hb:Blk w G 138 cs)
  (hcall:∀W,Bw w W→Calls Tryz.prog 89 #[ptr P,aval a,.int .i64 ass] W fun e w'=>e=.returned (.tuple #[.int .i64 x,.int .i64 y])∧Bw W w') :
  Calls Tryz.prog 137 #[ptr G,aval a,.int .i64 ass] w fun e w'=>e=.returned (.int .i64 x)∧Bw w w':=by
 obtain ⟨k,m⟩:=a;have d:=aa hcall;have h:=aa (hb.alloc (.cells (acs ⟨k,m⟩) 81));have f:=aa (Blk.new w 81 (acs ⟨k,m⟩));have g:Bw w (w.alloc (.cells (acs ⟨k,m⟩) 81)):=Bn;have q:(w.alloc (.cells (acs ⟨k,m⟩) 81)).cell? ⟨G,8,none⟩=some (ptr P)∧(w.alloc (.cells (acs ⟨k,m⟩) 81)).cell? ⟨w.heap.size,0,none⟩=some (.int .i64 k)∧(w.alloc (.cells (acs ⟨k,m⟩) 81)).cell? ⟨w.heap.size,1,none⟩=some (.int .i64 m):=⟨(h.o.c 8).trans hP,f.o.c 0,f.o.c 1⟩;clear hcall hb;have n:=aa hP;clear hP;go_enter Tryz.func137,Tryz.ntmps137;go_wp2_with fail;generalize l:w.alloc (.cells #[.int .i64 k,.int .i64 m] 81)=W0 at *;clear l;go_region_held3 (fun W=>W.cell? ⟨G,8,none⟩=some (ptr P)∧W.cell? ⟨w.heap.size,0,none⟩=some (.int .i64 k)∧W.cell? ⟨w.heap.size,1,none⟩=some (.int .i64 m)) (first | exact q | assumption | go_keep)
  (first | (go_at_call 89;refine (d.o _ (by exact ⟨g.os,g.tape,g.output,g.size,g.block⟩)).mono ?_;rintro e j ⟨rfl,i⟩;have s:=aa (h.o.keepD i);have r:=aa (f.o.keepD i);have t:Bw w j:=(aB g i g.size);have p:j.cell? ⟨G,8,none⟩=some (ptr P)∧j.cell? ⟨w.heap.size,0,none⟩=some (.int .i64 k)∧j.cell? ⟨w.heap.size,1,none⟩=some (.int .i64 m):=⟨(s.o.c 8).trans n.o,r.o.c 0,r.o.c 1⟩))
 rename_i b
 clear b p q i;go_wp2_with fail;go_ret;exact ⟨rfl,t⟩
theorem zf (G P:Nat)(cs:Array Value)(hP:cs[8]?=some (ptr P))(a:Ac)(ass:Int)(x y:Int)(w:World)(hb:Blk w G 94 cs)
  (hcall:∀W,Bw w W→Calls Tryz.prog 59 #[ptr P,aval a,.int .i64 ass] W fun e w'=>e=.returned (.tuple #[.int .i64 x,.int .i64 y])∧Bw W w') :
  Calls Tryz.prog 28 #[ptr G,aval a,.int .i64 ass] w fun e w'=>e=.returned (.tuple #[.int .i64 x,.int .i64 y])∧Bw w w':=by
 obtain ⟨k,m⟩:=a;have d:=aa hcall;have h:=aa (hb.alloc (.cells (acs ⟨k,m⟩) 81));have f:=aa (Blk.new w 81 (acs ⟨k,m⟩));have g:Bw w (w.alloc (.cells (acs ⟨k,m⟩) 81)):=Bn;have q:(w.alloc (.cells (acs ⟨k,m⟩) 81)).cell? ⟨G,8,none⟩=some (ptr P)∧(w.alloc (.cells (acs ⟨k,m⟩) 81)).cell? ⟨w.heap.size,0,none⟩=some (.int .i64 k)∧(w.alloc (.cells (acs ⟨k,m⟩) 81)).cell? ⟨w.heap.size,1,none⟩=some (.int .i64 m):=⟨(h.o.c 8).trans hP,f.o.c 0,f.o.c 1⟩;clear hcall hb;have n:=aa hP;clear hP;go_enter Tryz.func28,Tryz.ntmps28;go_wp2_with fail;generalize l:w.alloc (.cells #[.int .i64 k,.int .i64 m] 81)=W0 at *;clear l;go_region_held3 (fun W=>W.cell? ⟨G,8,none⟩=some (ptr P)∧W.cell? ⟨w.heap.size,0,none⟩=some (.int .i64 k)∧W.cell? ⟨w.heap.size,1,none⟩=some (.int .i64 m)) (first | exact q | assumption | go_keep)
  (first | (go_at_call 59;refine (d.o _ (by exact ⟨g.os,g.tape,g.output,g.size,g.block⟩)).mono ?_;rintro e j ⟨rfl,i⟩;have s:=aa (h.o.keepD i);have r:=aa (f.o.keepD i);have t:Bw w j:=(aB g i g.size);have p:j.cell? ⟨G,8,none⟩=some (ptr P)∧j.cell? ⟨w.heap.size,0,none⟩=some (.int .i64 k)∧j.cell? ⟨w.heap.size,1,none⟩=some (.int .i64 m):=⟨(s.o.c 8).trans n.o,r.o.c 0,r.o.c 1⟩))
 rename_i b
 clear b p q i;go_wp2_with fail;go_ret2;exact ⟨rfl,t⟩
theorem Blk.grown {w w':World}{g:Nat}{T:TypeId}{cs:Array Value}{base:Nat}{e:TypeId}{sz:Nat}{x:Value}{n:Nat}{xs:List Value}(h:Blk w g T cs)(ho:w.ownsRow base e sz x n xs)(hg:w.grownBy w' x.ownBlock)(hT:T≠e):Blk w' g T cs:=by
 refine (hg.block g h.lt ?_).trans h;intro a;obtain ⟨_,ho2⟩:=ho;rcases ho2 with ⟨rfl,_⟩ | ⟨k,cap,cur,rfl,_,hh,_⟩
 ·simp [Value.ownBlock] at a
 ·simp [Value.ownBlock] at a
  subst a;unfold Blk at h;rw [h] at hh;cases hh
  exact hT rfl
def Goes (w:World)(v v':Value):Prop:=v'.ownBlock=v.ownBlock∨∃k,w.heap.size≤k∧v'.ownBlock=some k
structure Told (w w':World)(B g:Nat)(T:TypeId)(cs:Array Value)(off:Nat)(vl:Value)(l:List Ev)(K:List Nat)(vl':Value):Prop where
 blk:Blk w' g T (cs.setIfInBounds off vl')
 own:w'.ownsRow B 101 5 vl' l.length (flat eEv l)
 mod:ModT B [T,101] K w w'
 goes:Goes w vl vl'
theorem aD {w:World}{g:Nat}{T:TypeId}{cs:Array Value}{base:Nat}{e:TypeId}{sz:Nat}{x:Value}{n:Nat}{xs:List Value}(h:Blk w g T cs)(ho:w.ownsRow base e sz x n xs)(hT:T≠e):∀k,x.ownBlock=some k→k≠g:=by
 rintro k a rfl;obtain ⟨_,ho2⟩:=ho;rcases ho2 with ⟨rfl,_⟩ | ⟨j,cap,cur,rfl,_,hh,_⟩
 ·simp [Value.ownBlock] at a
 ·simp [Value.ownBlock] at a
  subst a;unfold Blk at h;rw [h] at hh;cases hh
  exact hT rfl
theorem j1 {w w2:World}{B g:Nat}{T:TypeId}{cs:Array Value}{off:Nat}{vl v':Value}{l ev:List Ev}{K:List Nat}(hb:Blk w g T cs)(ho:w.ownsRow B 101 5 vl l.length (flat eEv l))(hgrow:w.grownBy w2 vl.ownBlock)(hown:w2.ownsRow B 101 5 v' (l.length+ev.length) (flat eEv l++flat eEv ev))
  (hat:v'.ownBlock=vl.ownBlock∨v'.ownBlock=some w.heap.size) (hT:T≠101) (hB:B≤g) (hKg:g∉K) (hKv:∀k,vl.ownBlock=some k→k∉K):Told w (w2.setCell ⟨g,off,none⟩ v') B g T cs off vl (l++ev) K v':=by
 have a:=hb.grown ho hgrow hT;refine ⟨a.set off v',?_,(ModT.grown ho hgrow (by simp) (zY _) hKv).trans (ModT.set a (by simp) hB hKg),?_⟩
 ·have:=aD a hown hT
  refine au (w:=w2) ?_ (fun k hk=>An _ _ _ _ (this k hk));rw [z8,aI];exact hown
 ·rcases hat with hat | hat
  ·exact Or.inl hat
  ·exact Or.inr ⟨_,zY _,hat⟩
theorem iy (B g:Nat)(cs:Array Value)(vl:Value)(l ev:List Ev)(ad:Addr)(cap:Nat)(K:List Nat)(w:World)(hb:Blk w g 138 cs)(hcs:cs[15]?=some vl)(hB:B≤g)(hBw:B≤w.heap.size)(ho:w.ownsRow B 101 5 vl l.length (flat eEv l))(hs:Sl eEv 5 w (.slice (some ad) ev.length cap) ev)(hn:l.length+ev.length≤1000000)(hKg:g∉K)(hKv:∀k,vl.ownBlock=some k→k∉K) :
  Calls Tryz.prog 164 #[ptr g,.slice (some ad) ev.length cap] w fun e w'=>∃vl',e=.returned (.tuple #[])∧Told w w' B g 138 cs 15 vl (l++ev) K vl':=by
 obtain ⟨u,v,p,r,n⟩:=info_parts jo;have s:=aa (Sl.news kEv (by decide) hs);have d:=(hb.c 15).trans hcs;have i:=aa hb;have j:=aa ho;have m:=aa hKv;obtain ⟨n1,k1,rfl⟩:=ag ho;clear hb ho hs hKv hcs;go_enter Tryz.func164,Tryz.ntmps164;go_wp2_with (at_builtin;refine wpList_append_own_at _ rfl _ _ 39 rfl B 101 u (.agg #[.int .i64 0,.int .i64 0,.int .i64 0,.int .i64 0,.int .i64 0]) 5 40 Tryz.underlying39 v p r n rfl (by decide) _ _ _ rfl j.o ad ev.length cap (flat eEv ev) rfl (aC eEv 5 kEv ev) s.o (aH oneEv ev) ?c3 ?c4 ?c5 ?_)
 case c3=>unfold maxLen;omega
 case c4=>omega
 case c5=>exact hBw
 intro z D b a _ f;have F:=aa (j1 (off:=15) i.o j.o a b f (by decide) hB hKg m.o);have t:=aa (i.o.grown j.o a (by decide));have x:=t.o.c 15;have A:=t.o.free 15;have q:15<cs.size:=by
  rcases Az 15 cs.size with h | h
  ·exact h
  ·have e:=(i.o.c 15).symm.trans d;rw [AO h] at e;cases e
 rw [Array.getElem?_eq_getElem q] at x;obtain ⟨C,y,rfl⟩:=ag b;clear b a f j i d s;generalize cs[15]=old at *;go_wp2;go_end0;exact ⟨_,rfl,F.o⟩
theorem aZ (w:World):Calls Tryz.prog 155 #[] w fun e w'=>e=.returned (aval ⟨1,0⟩)∧w'=w.alloc (.cells (acs ⟨1,0⟩) 81):=by
 go_enter Tryz.func155,Tryz.ntmps155;go_wp2;exact bodyPost_ret (v:=aval ⟨1,0⟩) (by simp [results,Tryz.results155,go_sem]) rfl ⟨rfl,rfl⟩
theorem fA (m:Int)(w:World):Calls Tryz.prog 140 #[.int .i64 m] w fun e w'=>e=.returned (aval ⟨7,m⟩)∧w'=w.alloc (.cells (acs ⟨7,m⟩) 81):=by
 go_enter Tryz.func140,Tryz.ntmps140;go_wp2;exact bodyPost_ret (v:=aval ⟨7,m⟩) (by simp [results,Tryz.results140,go_sem]) rfl ⟨rfl,rfl⟩
theorem eo (m:Int)(w:World):Calls Tryz.prog 138 #[.int .i64 m] w fun e w'=>e=.returned (aval ⟨8,m⟩)∧w'=w.alloc (.cells (acs ⟨8,m⟩) 81):=by
 go_enter Tryz.func138,Tryz.ntmps138;go_wp2;exact bodyPost_ret (v:=aval ⟨8,m⟩) (by simp [results,Tryz.results138,go_sem]) rfl ⟨rfl,rfl⟩
theorem me (B g:Nat)(cs:Array Value)(vl:Value)(l:List Ev)(w:World)(hb:Blk w g 138 cs)(hcs:cs[15]?=some vl)(ho:w.ownsRow B 101 5 vl l.length (flat eEv l))(hn:l.length≤1000000):Calls Tryz.prog 82 #[ptr g] w (CPo eEv 101 5 l w):=by
 have p:=(hb.c 15).trans hcs;have a:=aa (Sl.own kEv ho);obtain ⟨b,d,rfl⟩:=ag ho;clear hb hcs ho;go_enter Tryz.func82,Tryz.ntmps82;go_wp2_with fail;refine (wk _ l _ a.o hn).mono ?_;rintro e w1 ⟨v,rfl,own1,c1⟩;go_wp2_with fail;go_ret;exact ⟨_,rfl,own1,c1⟩
end
theorem wC (w:World)(base:Nat)(t ty e:TypeId)(i:TypeInfo)(ht:Tryz.prog.underlying t=some (.slice e))(hi:Tryz.prog.info? e=some i)(v:Value)(n k c:Nat)(xs:List Value)(ho:w.ownsRow base e k v n xs) :
  (Builtin.append_ #[t,t] ty #[v,.slice none 0 c]).run Tryz.prog w=.ok v w:=by
 rcases ho with ⟨_,⟨rfl,_⟩ | ⟨g,cap,cur,rfl,_,_,hnc,_⟩⟩
 ·simp [Builtin.append_,run_underlying ht,sizeOf,typeInfo,hi,Builtin.lenOf,Builtin.firstCells]
 ·simp [Builtin.append_,run_underlying ht,sizeOf,typeInfo,hi,Builtin.lenOf,Builtin.firstCells,hnc,storeCells]
section
variable {α:Type}{enc:α→List Value}{k:Nat}
theorem wD (hk:∀x,(enc x).length=k)(h0:0<k)(hone:∀x,∀u∈enc x,u.oneCell'=true)(w:World)(base:Nat)(t ty e:TypeId)(i:TypeInfo)(z:Value)(bytes:Nat)(ht:Tryz.prog.underlying t=some (.slice e))(hi:Tryz.prog.info? e=some i)(hz:i.zero=some z)(hsize:i.size=k)(hby:i.bytes=bytes)(hzs:z.cells.size=k)
  (v:Value) (l:List α) (ho:w.ownsRow base e k v l.length (flat enc l)) (A:Option Addr) (c:Nat) (ev:List α) (hs:Sl enc k w (.slice A ev.length c) ev) (h63:l.length+ev.length≤maxLen) (hbytes:(l.length+ev.length) * bytes≤140737488355328) (hbase:base≤w.heap.size) :
  ∃v' w',(Builtin.append_ #[t,t] ty #[v,.slice A ev.length c]).run Tryz.prog w=.ok v' w'∧w'.ownsRow base e k v' (l++ev).length (flat enc (l++ev))∧w.grownBy w' v.ownBlock∧(v'.ownBlock=v.ownBlock∨v'.ownBlock=some w.heap.size):=by
 cases A with
 | none=>
  have d:ev=[]:=by
   obtain ⟨a,g,f,_,_,_,n⟩:=hs;have j:a=none:=by simp at f;exact f.1.symm
   cases ev with
   | nil=>rfl
   | cons x ev=>
    obtain ⟨b,r,h,_⟩:=n (by simp);rw [j] at h;cases h
  subst d;refine ⟨v,w,wC w base t ty e i ht hi v _ _ c _ ho,by rw [Bm];exact ho,⟨rfl,rfl,rfl,zY _,fun _ _ _=>rfl⟩,Or.inl rfl⟩
 | some ad=>
  obtain ⟨v',w',p,q,o,_,m⟩:=run_append_own_at (P:=Tryz.prog) w base t ty e i z k bytes ht hi hz hsize hby hzs h0 v l.length (flat enc l) ho ad ev.length c (flat enc ev) (aC enc k hk ev) (Sl.news hk h0 hs) (aH hone ev) h63 hbytes hbase;exact ⟨v',w',p,by rw [z8,aI];exact q,o,m⟩
theorem rY {o:Oper}{a:Act}{K:Act→World→Prop}{Q:Exit→Act→World→Prop}(hk:∀x,(enc x).length=k)(h0:0<k)(hone:∀x,∀u∈enc x,u.oneCell'=true)(w:World)(s x:Operand)(t:TypeId)(hop:o.op=.call { callee:=.builtin .append,args:=#[s,x],argTypes:=#[t,t] })
  (base:Nat) (e:TypeId) (i:TypeInfo) (z:Value) (bytes:Nat) (ht:Tryz.prog.underlying t=some (.slice e)) (hi:Tryz.prog.info? e=some i) (hz:i.zero=some z) (hsize:i.size=k) (hby:i.bytes=bytes) (hzs:z.cells.size=k)
  (v:Value) (l:List α) (hv:a.eval s=v) (ho:w.ownsRow base e k v l.length (flat enc l)) (A:Option Addr) (c:Nat) (ev:List α) (hx:a.eval x=.slice A ev.length c) (hs:Sl enc k w (.slice A ev.length c) ev) (h63:l.length+ev.length≤maxLen) (hbytes:(l.length+ev.length) * bytes≤140737488355328) (hbase:base≤w.heap.size)
  (h:∀v' w',w'.ownsRow base e k v' (l++ev).length (flat enc (l++ev))→w.grownBy w' v.ownBlock→(v'.ownBlock=v.ownBlock∨v'.ownBlock=some w.heap.size)→K (a.put o.dst v') w'):o.wp Tryz.prog a w K Q:=by
 obtain ⟨v',w',b,g,f,d⟩:=wD hk h0 hone w base t o.type e i z bytes ht hi hz hsize hby hzs v l ho A c ev hs h63 hbytes hbase;unfold Oper.wp execOp;simp only [hop,resolve,invoke,builtin,Sem.run_bind,Sem.run_pure,Result.andThen_ok,List.map_toArray,Am,List.map_nil,hv,hx,b];exact h v' w' g f d
theorem aq {ops:Array Oper}{rest:List Oper}{o:Oper}{a:Act}{Q:Exit→Act→World→Prop}(hk:∀x,(enc x).length=k)(h0:0<k)(hone:∀x,∀u∈enc x,u.oneCell'=true)(w:World)(hgd:o.guard=none)(s x:Operand)(t:TypeId)(hop:o.op=.call { callee:=.builtin .append,args:=#[s,x],argTypes:=#[t,t] })
  (base:Nat) (e:TypeId) (i:TypeInfo) (z:Value) (bytes:Nat) (ht:Tryz.prog.underlying t=some (.slice e)) (hi:Tryz.prog.info? e=some i) (hz:i.zero=some z) (hsize:i.size=k) (hby:i.bytes=bytes) (hzs:z.cells.size=k)
  (v:Value) (l:List α) (hv:a.eval s=v) (ho:w.ownsRow base e k v l.length (flat enc l)) (A:Option Addr) (c:Nat) (ev:List α) (hx:a.eval x=.slice A ev.length c) (hs:Sl enc k w (.slice A ev.length c) ev) (h63:l.length+ev.length≤maxLen) (hbytes:(l.length+ev.length) * bytes≤140737488355328) (hbase:base≤w.heap.size)
  (h:∀v' w',w'.ownsRow base e k v' (l++ev).length (flat enc (l++ev))→w.grownBy w' v.ownBlock→(v'.ownBlock=v.ownBlock∨v'.ownBlock=some w.heap.size)→wpList Tryz.prog ops Q rest (a.put o.dst v') w'):wpList Tryz.prog ops Q (o :: rest) a w:=
 wpList_plain hgd fun _ hK=>rY hk h0 hone w s x t hop base e i z bytes ht hi hz hsize hby hzs v l hv ho A c ev hx hs h63 hbytes hbase fun v' w' h2 h3 h5=>hK _ _ (h v' w' h2 h3 h5)
theorem Sl.drop {W:World}{a:Option Addr}{cap:Nat}{l:List α}(h:Sl enc k W (.slice a l.length cap) l)(j:Nat)(hj:j<l.length){b off:Nat}(ha:a=some ⟨b,off,none⟩):Sl enc k W (.slice (some ⟨b,off+j * k,none⟩) (l.length - j) (cap - j)) (l.drop j):=by
 obtain ⟨o,c,s,t,u,r,p⟩:=h;obtain ⟨e1,e2⟩:a=o∧cap=c:=by simpa using s
 subst e1 e2;obtain ⟨n,d,f,m,g⟩:=p (by omega);rw [ha] at f;obtain ⟨rfl,rfl⟩:b=n∧off=d:=by simpa using f
 refine ⟨some ⟨b,off+j * k,none⟩,cap - j,by rw [Al],(fun h=>by cases h),by rw [Al];omega,z5 (Nat.sub_le _ _) r,fun _=>⟨b,off+j * k,rfl,m,fun i hi q x hx=>?_⟩⟩;rw [Al] at hi;rw [List.getElem_drop] at hx;have:=g (j+i) (by omega) q x hx
 rw [Nat.add_mul,←Nat.add_assoc] at this;exact this
end
section
attribute [local go_sem ↓] Go.wp_at_zero Go.wp_at_succ
theorem aS {α:Type}{enc:α→List Value}{k:Nat}{ops:Array Oper}{o:Oper}{a:Act}{K:Act→World→Prop}{Q:Exit→Act→World→Prop}{E:Prop}(hk:∀x,(enc x).length=k)(h0:0<k)(hone:∀x,∀u∈enc x,u.oneCell'=true)(w:World)(hgd:o.guard=none)(s x:Operand)(t:TypeId)(hop:o.op=.call { callee:=.builtin .append,args:=#[s,x],argTypes:=#[t,t] })
  (base:Nat) (e:TypeId) (i:TypeInfo) (z:Value) (bytes:Nat) (ht:Tryz.prog.underlying t=some (.slice e)) (hi:Tryz.prog.info? e=some i) (hz:i.zero=some z) (hsize:i.size=k) (hby:i.bytes=bytes) (hzs:z.cells.size=k)
  (v:Value) (l:List α) (hv:a.eval s=v) (ho:w.ownsRow base e k v l.length (flat enc l)) (A:Option Addr) (n c:Nat) (ev:List α) (hx:a.eval x=.slice A n c) (hnn:n=ev.length) (hs:Sl enc k w (.slice A n c) ev) (h63:l.length+ev.length≤maxLen) (hbytes:(l.length+ev.length) * bytes≤140737488355328) (hbase:base≤w.heap.size)
  (h:∀v' w',w'.ownsRow base e k v' (l++ev).length (flat enc (l++ev))→w.grownBy w' v.ownBlock→(v'.ownBlock=v.ownBlock∨v'.ownBlock=some w.heap.size)→K (a.put o.dst v') w'):if Region.wanted o (yielded ops a.tmps)=true then Oper.wp Tryz.prog o a w K Q else E:=by
 subst hnn;have b:Region.wanted o (yielded ops a.tmps)=true:=by simp [Region.wanted,hgd]
 rw [if_pos b];exact rY hk h0 hone w s x t hop base e i z bytes ht hi hz hsize hby hzs v l hv ho A c ev hx hs h63 hbytes hbase h
def cutA (a:Option Addr)(cap t k:Nat):Option Addr:=if cap=t then a else a.map (·.add (t * k))
theorem mf (w:World)(a:Option Addr)(n cap t:Nat)(h1:t≤n)(h2:n≤cap)(h3:cap≤maxLen)(h4:a=none→cap=0):(Instr.slice 39 (.slice a n cap) (some (.int .i64 t)) none none).run Tryz.prog w=.ok (.slice (cutA a cap t 5) (n - t) (cap - t)) w:=by
 unfold maxLen at h3;cases a with
 | none=>
  obtain rfl:=h4 rfl;obtain rfl:n=0:=by omega
  obtain rfl:t=0:=by omega
  simp [cutA,go_sem,Tryz.underlying39]
 | some ad=>
  unfold cutA;by_cases hc:cap=t
  ·rw [if_pos hc];simp [go_sem,Tryz.underlying39,Tryz.sizeOf101,h1,hc]
  ·rw [if_neg hc];simp [go_sem,Tryz.underlying39,Tryz.sizeOf101,h1,hc]
theorem zg {W:World}{a:Option Addr}{cap t:Nat}{l:List Ev}(h:Sl eEv 5 W (.slice a l.length cap) l)(ht:t≤l.length):Sl eEv 5 W (.slice (cutA a cap t 5) (l.length - t) (cap - t)) (l.drop t):=by
 by_cases hlt:t<l.length
 ·have m:=h;obtain ⟨f,c,d,g,n,j,i⟩:=h;obtain ⟨e1,e2⟩:a=f∧cap=c:=by simpa using d
  subst e1 e2;obtain ⟨b,k,rfl,_,_⟩:=i (by omega);unfold cutA;rw [if_neg (by omega)];have:=Sl.drop m t hlt rfl
  simpa [Aj] using this
 ·obtain ⟨f,c,d,g,n,j,i⟩:=h;obtain ⟨e1,e2⟩:a=f∧cap=c:=by simpa using d
  subst e1 e2;have o:t=l.length:=by omega
  refine ⟨cutA a cap t 5,cap - t,by rw [Al],fun h=>?_,by rw [Al];omega,z5 (Nat.sub_le _ _) j,fun h=>by rw [Al] at h;omega⟩;unfold cutA at h;split at h
  ·have:=g h;omega
  ·cases a with
   | none=>have:=g rfl;omega
   | some x=>simp at h
theorem iz {w w2:World}{B g:Nat}{T:TypeId}{cs:Array Value}{off:Nat}{vl v':Value}{l ev:List Ev}{K:List Nat}(hb:Blk w g T cs)(ho:w.ownsRow B 101 5 vl l.length (flat eEv l))(hgrow:w.grownBy w2 vl.ownBlock)(hown:w2.ownsRow B 101 5 v' (l++ev).length (flat eEv (l++ev)))
  (hat:v'.ownBlock=vl.ownBlock∨v'.ownBlock=some w.heap.size) (hT:T≠101) (hB:B≤g) (hKg:g∉K) (hKv:∀k,vl.ownBlock=some k→k∉K):Told w (w2.setCell ⟨g,off,none⟩ v') B g T cs off vl (l++ev) K v':=
 j1 hb ho hgrow (by rw [z8,aI] at hown;exact hown) hat hT hB hKg hKv
structure Heard (w w':World)(B g:Nat)(cs:Array Value)(vl:Value)(l:List Ev)(told:Nat)(K:List Nat)(vl':Value):Prop where
 blk:Blk w' g 94 ((cs.setIfInBounds 15 vl').setIfInBounds 14 (.int .i64 told))
 own:w'.ownsRow B 101 5 vl' l.length (flat eEv l)
 mod:ModT B [94,101] K w w'
 goes:Goes w vl vl'
theorem Goes.later {w w1:World}{v v':Value}(h:Goes w1 v v')(hs:w.heap.size≤w1.heap.size):Goes w v v':=by
 rcases h with h | ⟨k,hk,h⟩
 ·exact Or.inl h
 ·exact Or.inr ⟨k,z5 hs hk,h⟩
theorem j2 (B g gd:Nat)(cs ds:Array Value)(vl vd:Value)(l dl:List Ev)(t:Nat)(K:List Nat)(w:World)(hb:Blk w g 94 cs)(h8:cs[8]?=some (ptr gd))(h15:cs[15]?=some vl)(h14:cs[14]?=some (.int .i64 t))(hB:B≤g)(hBw:B≤w.heap.size)(ho:w.ownsRow B 101 5 vl l.length (flat eEv l))
  (hd:Blk w gd 138 ds) (d15:ds[15]?=some vd) (hod:w.ownsRow B 101 5 vd dl.length (flat eEv dl)) (ht:t≤dl.length) (hn:l.length+dl.length≤1000000) (hKg:g∉K) (hKv:∀k,vl.ownBlock=some k→k∉K) :
  Calls Tryz.prog 38 #[ptr g] w fun e w'=>∃vl',e=.returned (.tuple #[])∧Heard w w' B g cs vl (l++dl.drop t) dl.length K vl':=by
 obtain ⟨M,O,E,G,D⟩:=info_parts jo;have T:=(hb.c 8).trans h8;have I:=aa hb;have J:=aa ho;have s:=aa hKv;have p:=aa h15;have m:=aa h14;obtain ⟨n1,k1,rfl⟩:=ag ho;clear hb ho hKv h15 h14 h8;obtain ⟨N,hN⟩:∃N,(l++dl.drop t).length=N:=⟨_,rfl⟩;have F:=aa hN;clear hN;go_enter Tryz.func38,Tryz.ntmps38;go_wp2_with fail;refine (me B gd ds vd dl _ hd d15 hod (by omega)).mono ?_;rintro e w1 ⟨v,rfl,own1,c1⟩;have i:=aa (I.o.keep c1);have j:=aa (ah J.o c1);have y:=Sl.own kEv own1;obtain ⟨n2,k2,rfl⟩:=ag own1;obtain ⟨a',cap',hv',hn',hc1,hc2,_⟩:=y;obtain ⟨e1,e2⟩:n2=a'∧k2=cap':=by simpa using hv'
 subst e1 e2;have Q:=fun W=>mf W n2 dl.length k2 t ht hc1 hc2 hn'
 have z:=aa (zg (Sl.own kEv own1) ht);have x:=(i.o.c 15).trans p.o;have A:=(i.o.c 14).trans m.o;have S:ModT B [94,101] K w w1:=ModT.below c1;have H:=c1.size;clear c1 own1 hd d15 hod T hv' I J;go_wp2_with fail;go_region_law ((refine aS kEv (by decide) oneEv _ (by rfl) _ _ 39 (by rfl) B 101 M (.agg #[.int .i64 0,.int .i64 0,.int .i64 0,.int .i64 0,.int .i64 0]) 40 Tryz.underlying39 O E G D (by rfl) (.slice n1 l.length k1) l (by rfl) (by exact j.o) (cutA n2 k2 t 5) (dl.length - t) (k2 - t) (dl.drop t) (by rfl) (by rw [Al]) (by exact z.o.d) (by rw [Al];unfold maxLen;omega) (by rw [Al];omega) (by show B≤w1.heap.size;omega) ?_;intro U R f a r;have h:=aa (iz (w:=w1) (off:=15) i.o j.o (by exact ⟨a.os,a.tape,a.output,a.size,a.block⟩) f (by exact r) (by decide) hB hKg s.o);have u:=aa (Blk.grown (w:=w1.drew) (by exact i.o) (by exact j.o) a (by decide));have b:=f;rw [F.o] at b;obtain ⟨n3,k3,rfl⟩:=ag b;clear b;have q:=u.o.c 15;rw [p.o] at q;have C:=u.o.free 15))
 all_goals
  have n:=h.o.blk.c 14;have P:=h.o.blk.free 14;have L:(cs.setIfInBounds 15 (.slice n3 N k3))[14]?=some (.int .i64 t):=by rw [Bf (by omega)];exact m.o
  rw [L] at n;clear a r f q C u L x A;generalize (R.setCell ⟨g,15,none⟩ (.slice n3 N k3))=X at *;go_wp2_with fail;go_end0;refine ⟨.slice n3 N k3,rfl,h.o.blk.set 14 _,?_,(S.trans h.o.mod).trans (ModT.set h.o.blk (by simp) hB hKg),h.o.goes.later H⟩;exact au h.o.own fun k hk=>An _ _ _ _ (aD h.o.blk h.o.own (by decide) k hk)
theorem Sl.oneEv (w:World)(x:Ev):Sl eEv 5 (w.alloc (.cells (cEv x) 101)) (.slice (some ⟨w.heap.size,0,none⟩) 1 1) [x]:=by
 refine ⟨some ⟨w.heap.size,0,none⟩,1,rfl,(fun h=>by cases h),by simp,by unfold maxLen;omega,fun _=>⟨w.heap.size,0,rfl,by simp,fun i hi j u hu=>?_⟩⟩;have a:i=0:=by simpa using hi
 subst a;have:=newEv w x w.heap.size rfl j u hu
 rw [Aj] at this;simpa using this
theorem oY (cs:Array Value)(a b t:Value):(((cs.setIfInBounds 15 a).setIfInBounds 14 t).setIfInBounds 15 b)=((cs.setIfInBounds 15 b).setIfInBounds 14 t):=by
 apply Array.ext_getElem?
 intro i;simp only [Bk,Array.size_setIfInBounds];by_cases h15:15=i
 ·subst h15;simp
 ·by_cases h14:14=i
  ·subst h14;simp
  ·simp [h15,h14]
theorem iA (x:Ev)(B g gd:Nat)(cs ds:Array Value)(vl vd:Value)(l dl:List Ev)(t:Nat)(K:List Nat)(w:World)(hb:Blk w g 94 cs)(h8:cs[8]?=some (ptr gd))(h15:cs[15]?=some vl)(h14:cs[14]?=some (.int .i64 t))(hB:B≤g)(hBw:B≤w.heap.size)(ho:w.ownsRow B 101 5 vl l.length (flat eEv l))
  (hd:Blk w gd 138 ds) (d15:ds[15]?=some vd) (hod:w.ownsRow B 101 5 vd dl.length (flat eEv dl)) (ht:t≤dl.length) (hn:l.length+dl.length+1≤1000000) (hKg:g∉K) (hKv:∀k,vl.ownBlock=some k→k∉K) (hKw:∀k∈K,k<w.heap.size) :
  Calls Tryz.prog 106 #[ptr g,vEv x] w fun e w'=>∃vl',e=.returned (.tuple #[])∧Heard w w' B g cs vl (l++dl.drop t++[x]) dl.length K vl':=by
 obtain ⟨U,V,O,F,J⟩:=info_parts jo;have u:Bw w (w.alloc (.cells (cEv x) 101)):=Bn;have Q:=aa (Blk.new w 101 (cEv x));have H:=aa hKw;have G:=aa hKv;have d:15<cs.size:=by
  rcases Az 15 cs.size with h | h
  ·exact h
  ·rw [AO h] at h15;cases h15
 have P:=aa (j2 B g gd cs ds vl vd l dl t (w.heap.size :: K) _ (hb.keep u) h8 h15 h14 hB (by simp;omega) (ah ho u) (hd.keep u) d15 (ah hod u) ht (by omega) (by have:=hb.lt;simp;exact ⟨by omega,hKg⟩) (fun k hk=>by have:=(ho.lt k hk).2;simp;exact ⟨by omega,hKv k hk⟩));clear hb h8 h15 h14 ho hd d15 hod hKv hKw;go_enter Tryz.func106,Tryz.ntmps106;go_wp2_with fail;refine P.o.mono ?_;rintro e q ⟨r,rfl,n⟩;have i:=aa (show Blk q w.heap.size 101 (cEv x) from (n.mod.far w.heap.size (by simp) (Or.inr (Or.inl (by simp)))).trans Q.o);have p:=aa n;have S:ModT B [94,101] K w q:=(ModT.below u).trans (n.mod.less (by simp;intro k hk;exact Or.inr hk));have T:w.heap.size+1≤q.heap.size:=by have:=n.mod.size;simp at this;omega
 have v:=n.blk.c 15;rw [show (((cs.setIfInBounds 15 r).setIfInBounds 14 (.int .i64 (dl.length:Nat)))[15]?)=some r from by rw [Bf (by omega),Array.getElem?_setIfInBounds_self_of_lt d]] at v;have f:(((cs.setIfInBounds 15 r).setIfInBounds 14 (.int .i64 (dl.length:Nat)))[15]?)=some r:=by rw [Bf (by omega),Array.getElem?_setIfInBounds_self_of_lt d]
 have x0:=i.o.c 0;have x1:=i.o.c 1;have x2:=i.o.c 2;have x3:=i.o.c 3;have x4:=i.o.c 4;have s:=((n.blk.alloc (.cells (cEv x) 101)).c 15).trans f;obtain ⟨M,z⟩:∃M,(l++dl.drop t).length=M:=⟨_,rfl⟩;have W:M≤l.length+dl.length:=by rw [←z,z8,Al];omega
 have m:=aa n.own;have b:=n.goes;have I:=aa (show ∀k,r.ownBlock=some k→k∉K from fun k hk=>by
  rcases b with hg | ⟨j,hj,hg⟩
  ·exact G.o k (hg ▸ hk)
  ·intro Z;have h1:=H.o k Z;rw [hg] at hk;have:j=k:=by simpa using hk
   simp at hj;omega)
 rw [z] at m;obtain ⟨R,Y,rfl⟩:=ag m.o;have A:=aa z;obtain ⟨N,hN⟩:∃N,(l++dl.drop t++[x]).length=N:=⟨_,rfl⟩;have L:=aa hN;clear hN n z b Q P;go_wp2_with fail;go_region_law ((refine aS kEv (by decide) oneEv _ (by rfl) _ _ 39 (by rfl) B 101 U (.agg #[.int .i64 0,.int .i64 0,.int .i64 0,.int .i64 0,.int .i64 0]) 40 Tryz.underlying39 V O F J (by rfl) (.slice R M Y) (l++dl.drop t) (by rfl) (by rw [A.o];exact m.o.alloc _) (some ⟨q.heap.size,0,none⟩) 1 1 [x] (by rfl) (by rfl) (by exact Sl.oneEv _ x) (by rw [A.o];simp only [Ai];unfold maxLen;omega) (by rw [A.o];simp only [Ai];omega) (by simp;omega) ?_;intro v' w2 hown hgrow hat;have C:=aa (iz (w:=q.alloc (.cells (cEv x) 101)) (off:=15) (K:=K) (p.o.blk.alloc _) (by rw [A.o];exact m.o.alloc _) (by exact ⟨hgrow.os,hgrow.tape,hgrow.output,hgrow.size,hgrow.block⟩) hown (by exact hat) (by decide) hB hKg I.o);have D:=aa (Blk.grown (w:=q.alloc (.cells (cEv x) 101)) (p.o.blk.alloc _) (by exact m.o.alloc _) (by exact ⟨hgrow.os,hgrow.tape,hgrow.output,hgrow.size,hgrow.block⟩) (by decide));have a:=hown;rw [L.o] at a;obtain ⟨n3,k3,rfl⟩:=ag a;clear a;have y:=D.o.c 15;rw [f] at y;have E:=D.o.free 15))
 all_goals
  clear hgrow hat hown y E D v f s;generalize (w2.setCell ⟨g,15,none⟩ (.slice n3 N k3))=X at *;go_wp2_with fail;go_end0;refine ⟨.slice n3 N k3,rfl,?_,C.o.own,(S.alloc _).trans C.o.mod,?_⟩
  ·have:=C.o.blk
   rw [oY] at this;exact this
  ·rcases C.o.goes with h | ⟨j,hj,h⟩
   ·rcases p.o.goes with h' | ⟨j',hj',h'⟩
    ·exact Or.inl (h.trans h')
    ·exact Or.inr ⟨j',by simp at hj';omega,h.trans h'⟩
   ·exact Or.inr ⟨j,by simp at hj;omega,h⟩
theorem Blk.ne {w:World}{g h:Nat}{T U:TypeId}{cs ds:Array Value}(hg:Blk w g T cs)(hh:Blk w h U ds)(hT:T≠U):g≠h:=by
 rintro rfl;unfold Blk at hg hh;rw [hg] at hh;cases hh
 exact hT rfl
theorem rZ (p cy:Int)(old:Value)(B g gd:Nat)(cs ds:Array Value)(vl vd:Value)(l dl:List Ev)(t:Nat)(K:List Nat)(w:World)(hb:Blk w g 94 cs)(h8:cs[8]?=some (ptr gd))(h15:cs[15]?=some vl)(h14:cs[14]?=some (.int .i64 t))(h13:cs[13]?=some (.int .i64 cy))(h11:cs[11]?=some old)(hB:B≤g)(hBw:B≤w.heap.size)(ho:w.ownsRow B 101 5 vl l.length (flat eEv l))
  (hd:Blk w gd 138 ds) (d15:ds[15]?=some vd) (hod:w.ownsRow B 101 5 vd dl.length (flat eEv dl)) (ht:t≤dl.length) (hn:l.length+dl.length+1≤1000000) (hKg:g∉K) (hKv:∀k,vl.ownBlock=some k→k∉K) (hKw:∀k∈K,k<w.heap.size) :
  Calls Tryz.prog 102 #[ptr g,.int .i64 p] w fun e w'=>∃vl',e=.returned (.tuple #[])∧Heard w w' B g (cs.setIfInBounds 11 (.int .i64 p)) vl (l++dl.drop t++[⟨1,0,0,p,cy⟩]) dl.length K vl':=by
 have n:=(hb.c 11).trans h11;have h:=hb.free 11;have f:=(hb.c 13).trans h13;have b:=hb.ne hd (by decide);have q:=aa (iA ⟨1,0,0,p,cy⟩ B g gd (cs.setIfInBounds 11 (.int .i64 p)) ds vl vd l dl t K (w.setCell ⟨g,11,none⟩ (.int .i64 p)) (hb.set 11 _) (by rw [Bf (by omega)];exact h8) (by rw [Bf (by omega)];exact h15) (by rw [Bf (by omega)];exact h14) hB (by simpa [World.setCell] using hBw)
  (au ho fun k hk=>An _ _ _ _ (aD hb ho (by decide) k hk)) (hd.far 11 _ (Ne.symm b)) d15 (au hod fun k hk=>An _ _ _ _ (aD hb hod (by decide) k hk)) ht hn hKg hKv (fun k hk=>by simpa [World.setCell] using hKw k hk))
 have m:=aa (ModT.set (TS:=[94,101]) (i:=11) (x:=.int .i64 p) hb (by simp) hB hKg);clear hb h8 h15 h14 h13 h11 ho hd d15 hod hKv hKw b;go_enter Tryz.func102,Tryz.ntmps102;go_wp2_with fail;refine q.o.mono ?_;rintro e r ⟨j,rfl,d⟩;have a:=aa d;clear d;go_wp2_with fail;go_end0;exact ⟨j,rfl,a.o.blk,a.o.own,m.o.trans a.o.mod,a.o.goes.later (by simp [World.setCell])⟩
end
end Go.Proofs.YtmhohaanddglbaaGreatDoor
namespace Go.Proofs
open Go.Shelf
def Tryz.lays189_ren:Go.Shelf.Ren:=⟨fun | 189=>349 | 125=>371 | 257=>370 | 128=>390 | 129=>391 | 294=>381 | 295=>382 | 296=>383 | 297=>384 | 298=>385 | 299=>386 | 216=>387 | 300=>388 | 301=>389 | 328=>399 | 329=>400 | 330=>401 | 331=>402 | 332=>403 | 215=>404 | 343=>406 | n=>n,fun | 28=>74 | 3=>3 | 46=>158 | 0=>0 | 51=>460 | 53=>102 | 4=>4 | 183=>454 | 182=>453 | 131=>151 | 5=>5 | 9=>9 | 218=>467 | 222=>471 | 228=>475 | 229=>476 | n=>n,fun | n=>n⟩
theorem Tryz.lays189:Go.Proofs.Lays.n189 Tryz.prog Tryz.lays189_ren:={
 mixed:=by kernel_rfl
 f125:=Tryz.func371.trans (congrArg some (by kernel_rfl))
 f128:=Tryz.func390.trans (congrArg some (by kernel_rfl))
 f129:=Tryz.func391.trans (congrArg some (by kernel_rfl))
 f189:=Tryz.func349.trans (congrArg some (by kernel_rfl))
 f215:=Tryz.func404.trans (congrArg some (by kernel_rfl))
 f216:=Tryz.func387.trans (congrArg some (by kernel_rfl))
 f257:=Tryz.func370.trans (congrArg some (by kernel_rfl))
 f294:=Tryz.func381.trans (congrArg some (by kernel_rfl))
 f295:=Tryz.func382.trans (congrArg some (by kernel_rfl))
 f296:=Tryz.func383.trans (congrArg some (by kernel_rfl))
 f297:=Tryz.func384.trans (congrArg some (by kernel_rfl))
 f298:=Tryz.func385.trans (congrArg some (by kernel_rfl))
 f299:=Tryz.func386.trans (congrArg some (by kernel_rfl))
 f300:=Tryz.func388.trans (congrArg some (by kernel_rfl))
 f301:=Tryz.func389.trans (congrArg some (by kernel_rfl))
 f328:=Tryz.func399.trans (congrArg some (by kernel_rfl))
 f329:=Tryz.func400.trans (congrArg some (by kernel_rfl))
 f330:=Tryz.func401.trans (congrArg some (by kernel_rfl))
 f331:=Tryz.func402.trans (congrArg some (by kernel_rfl))
 f332:=Tryz.func403.trans (congrArg some (by kernel_rfl))
 f343:=Tryz.func406.trans (congrArg some (by kernel_rfl))
 t0:=Tryz.underlying0
 a0:=Tryz.isAgg0
 z0:=Tryz.sizeOf0
 v0:=Tryz.zeroValue0
 t3:=Tryz.underlying3
 a3:=Tryz.isAgg3
 z3:=Tryz.sizeOf3
 v3:=Tryz.zeroValue3
 t4:=Tryz.underlying4
 a4:=Tryz.isAgg4
 z4:=Tryz.sizeOf4
 v4:=Tryz.zeroValue4
 t5:=Tryz.underlying5
 a5:=Tryz.isAgg5
 z5:=Tryz.sizeOf5
 v5:=Tryz.zeroValue5
 t9:=Tryz.underlying9
 a9:=Tryz.isAgg9
 z9:=Tryz.sizeOf9
 v9:=Tryz.zeroValue9
 t28:=Tryz.underlying74
 a28:=Tryz.isAgg74
 z28:=Tryz.sizeOf74
 v28:=Tryz.zeroValue74
 t46:=Tryz.underlying158
 a46:=Tryz.isAgg158
 z46:=Tryz.sizeOf158
 v46:=Tryz.zeroValue158
 t51:=Tryz.underlying460
 a51:=Tryz.isAgg460
 z51:=Tryz.sizeOf460
 v51:=Tryz.zeroValue460
 t53:=Tryz.underlying102
 a53:=Tryz.isAgg102
 z53:=Tryz.sizeOf102
 v53:=Tryz.zeroValue102
 t131:=Tryz.underlying151
 a131:=Tryz.isAgg151
 z131:=Tryz.sizeOf151
 v131:=Tryz.zeroValue151
 t182:=Tryz.underlying453
 a182:=Tryz.isAgg453
 z182:=Tryz.sizeOf453
 v182:=Tryz.zeroValue453
 t183:=Tryz.underlying454
 a183:=Tryz.isAgg454
 z183:=Tryz.sizeOf454
 v183:=Tryz.zeroValue454
 t218:=Tryz.underlying467
 a218:=Tryz.isAgg467
 z218:=Tryz.sizeOf467
 v218:=Tryz.zeroValue467
 t222:=Tryz.underlying471
 a222:=Tryz.isAgg471
 z222:=Tryz.sizeOf471
 v222:=Tryz.zeroValue471
 t228:=Tryz.underlying475
 a228:=Tryz.isAgg475
 z228:=Tryz.sizeOf475
 v228:=Tryz.zeroValue475
 t229:=Tryz.underlying476
 a229:=Tryz.isAgg476
 z229:=Tryz.sizeOf476
 v229:=Tryz.zeroValue476 }
open Go.Sort Go.RowKit in
theorem Tryz.slices_Sort_int (blk off cap:Nat)(zs:List Int)(w:World)(hH:Holds (Value.int .i64) w blk off zs.toArray)(hblk:blk<w.heap.size)(hsz:zs.length<4611686018427387904) :
  Calls Tryz.prog 349 #[.slice (some ⟨blk,off,none⟩) zs.length cap] w fun e w'=>
   e=.returned (.tuple #[])∧∃n os,w'=grow (putRow (Value.int .i64) (Sort.ahead w n) blk off (zs.mergeSort fun x y=>decide (x≤y)).toArray) os:=Any.slices_Sort_int Tryz.lays189 blk off cap zs w hH hblk hsz
def Tryz.lays264_ren:Go.Shelf.Ren:=⟨fun | 264=>282 | n=>n,fun | 53=>102 | 46=>158 | n=>n,fun | n=>n⟩
theorem Tryz.lays264:Go.Proofs.Lays.n264 Tryz.prog Tryz.lays264_ren:={
 mixed:=by kernel_rfl
 f264:=Tryz.func282.trans (congrArg some (by kernel_rfl))
 t46:=Tryz.underlying158
 a46:=Tryz.isAgg158
 z46:=Tryz.sizeOf158
 v46:=Tryz.zeroValue158
 t53:=Tryz.underlying102
 a53:=Tryz.isAgg102
 z53:=Tryz.sizeOf102
 v53:=Tryz.zeroValue102 }
open Go.RowKit Go.Lib in
theorem Tryz.bits_Mul64 (x y:Nat)(hx:x<18446744073709551616)(hy:y<18446744073709551616)(w:World) :
  Calls Tryz.prog 282 #[.int .u64 x,.int .u64 y] w fun e w'=>e=.returned (.tuple #[.int .u64 ((x * y / 18446744073709551616:Nat):Int),.int .u64 ((x * y % 18446744073709551616:Nat):Int)])∧w'=w:=Any.bits_Mul64 Tryz.lays264 x y hx hy w
def Tryz.lays107_ren:Go.Shelf.Ren:=⟨fun | 107=>192 | 108=>240 | n=>n,fun | 28=>74 | 3=>3 | 4=>4 | 0=>0 | n=>n,fun | n=>n⟩
theorem Tryz.lays107:Go.Proofs.Lays.n107 Tryz.prog Tryz.lays107_ren:={
 mixed:=by kernel_rfl
 f107:=Tryz.func192.trans (congrArg some (by kernel_rfl))
 f108:=Tryz.func240.trans (congrArg some (by kernel_rfl))
 t0:=Tryz.underlying0
 a0:=Tryz.isAgg0
 z0:=Tryz.sizeOf0
 v0:=Tryz.zeroValue0
 t3:=Tryz.underlying3
 a3:=Tryz.isAgg3
 z3:=Tryz.sizeOf3
 v3:=Tryz.zeroValue3
 t4:=Tryz.underlying4
 a4:=Tryz.isAgg4
 z4:=Tryz.sizeOf4
 v4:=Tryz.zeroValue4
 t28:=Tryz.underlying74
 a28:=Tryz.isAgg74
 z28:=Tryz.sizeOf74
 v28:=Tryz.zeroValue74 }
open Go.Lib in
theorem Tryz.slices_Contains_int (b off n c:Nat)(zs:List Int)(x:Int)(w:World)(hz:n≤zs.length)(hbig:n≤9223372036854775807)(hc:∀j,j<zs.length→w.cell? ⟨b,off+j,none⟩=some (.int .i64 (zs.getD j 0))) :
  Calls Tryz.prog 192 #[.slice (some ⟨b,off,none⟩) n c,.int .i64 x] w fun e w'=>e=.returned (.bool ((zs.take n).contains x))∧w'=w:=Any.slices_Contains_int Tryz.lays107 b off n c zs x w hz hbig hc
def Tryz.laysNm220_ren:Go.Shelf.Ren:=⟨fun | 20=>350 | n=>n,fun | 22=>74 | 3=>3 | 4=>4 | 0=>0 | n=>n,fun | n=>n⟩
theorem Tryz.laysNm220:Go.Proofs.Lays2.n20 Tryz.prog Tryz.laysNm220_ren:={
 mixed:=by kernel_rfl
 f20:=Tryz.func350.trans (congrArg some (by kernel_rfl))
 t0:=Tryz.underlying0
 a0:=Tryz.isAgg0
 z0:=Tryz.sizeOf0
 v0:=Tryz.zeroValue0
 t3:=Tryz.underlying3
 a3:=Tryz.isAgg3
 z3:=Tryz.sizeOf3
 v3:=Tryz.zeroValue3
 t4:=Tryz.underlying4
 a4:=Tryz.isAgg4
 z4:=Tryz.sizeOf4
 v4:=Tryz.zeroValue4
 t22:=Tryz.underlying74
 a22:=Tryz.isAgg74
 z22:=Tryz.sizeOf74
 v22:=Tryz.zeroValue74
 i3:=by kernel_rfl }
open Go.RowKit Go.Lib Go.Sort in
theorem Tryz.slices_Compact_int (blk off cap:Nat)(zs:List Int)(w:World)(hH:Holds (Value.int .i64) w blk off zs.toArray)(hsz:zs.length≤9223372036854775807)(hcap:zs.length≤cap) :
  Calls Tryz.prog 350 #[.slice (some ⟨blk,off,none⟩) zs.length cap] w fun e w'=>e=.returned (.slice (some ⟨blk,off,none⟩) (Lib.compact zs).length cap)∧∃q,w'=putRow (Value.int .i64) (Sort.ahead w q) blk off (Lib.compact zs++List.replicate (zs.length - (Lib.compact zs).length) 0).toArray:=Any.slices_Compact_int Tryz.laysNm220 blk off cap zs w hH hsz hcap
open Go.RowKit Go.Lib Go.Sort in
theorem Tryz.slices_Compact_int_empty (a:Option Addr)(cap:Nat)(w:World) :
  Calls Tryz.prog 350 #[.slice a 0 cap] w fun e w'=>e=.returned (.slice a 0 cap)∧w'=w:=Any.slices_Compact_int_empty Tryz.laysNm220 a cap w
open Go.RowKit Go.Sort in
theorem Tryz.slices_Sort_int_none (p:Option Addr)(cap:Nat)(w:World) :
  Calls Tryz.prog 349 #[.slice p 0 cap] w fun e w'=>e=.returned (.tuple #[])∧w'=w:=Any.slices_Sort_int_none Tryz.lays189 p cap w
def Tryz.laysSlN41_f225_ren:Go.Shelf.Ren:=⟨fun | 41=>225 | n=>n,fun | 22=>45 | 23=>2 | 4=>4 | n=>n,fun | n=>n⟩
theorem Tryz.laysSlN41_f225:Go.Proofs.SlLaysN.n41 Tryz.prog Tryz.laysSlN41_f225_ren:={
 mixed:=by kernel_rfl
 f41:=⟨Tryz.f225.name,by decide,Tryz.func225.trans (congrArg some (by kernel_rfl))⟩
 t4:=Tryz.underlying4
 a4:=Tryz.isAgg4
 z4:=Tryz.sizeOf4
 v4:=Tryz.zeroValue4
 t22:=Tryz.underlying45
 a22:=Tryz.isAgg45
 z22:=Tryz.sizeOf45
 v22:=Tryz.zeroValue45
 t23:=Tryz.underlying2
 a23:=Tryz.isAgg2
 z23:=Tryz.sizeOf2
 v23:=Tryz.zeroValue2
 i23:=by kernel_rfl }
open Go.RowKit Go.Lib in
theorem Tryz.slices_Clone_int_f225 (b off n c:Nat)(zs:List Int)(w:World)(hz:n≤zs.length)(hbig:n * 8≤140737488355328)(hc:∀j,j<zs.length→w.cell? ⟨b,off+j,none⟩=some (.int .i64 (zs.getD j 0))) :
  Calls Tryz.prog 225 #[.slice (some ⟨b,off,none⟩) n c] w fun e w'=>∃v',e=.returned v'∧w'.ownsRow w.heap.size 2 1 v' n ((zs.take n).map (Value.int .i64))∧v'≠.slice none 0 0∧Below w.heap.size w w':=AnyG.slices_Clone_int Tryz.laysSlN41_f225 b off n c zs w hz hbig hc
open Go.RowKit Go.Lib in
theorem Tryz.slices_Clone_int_nil_f225 (n c:Nat)(w:World) :
  Calls Tryz.prog 225 #[.slice none n c] w fun e w'=>e=.returned (.slice none 0 0)∧w'=w:=AnyG.slices_Clone_int_nil Tryz.laysSlN41_f225 n c w
open Go.RowKit Go.Lib in
theorem Tryz.slices_Clone_int_zero_f225 (a:Addr)(c:Nat)(w:World) :
  Calls Tryz.prog 225 #[.slice (some a) 0 c] w fun e w'=>∃v',e=.returned v'∧w'.ownsRow w.heap.size 2 1 v' 0 []∧v'≠.slice none 0 0∧Below w.heap.size w w':=AnyG.slices_Clone_int_zero Tryz.laysSlN41_f225 a c w
end Go.Proofs
namespace Go.Proofs.YtmhohaanddglbaaGreatDoor
open Go.RowKit
theorem r8 {a b:Int}{p q:Bool}(h:(a,p)=(b,q)):Ending.returned (.tuple #[.int .i64 a,.bool p])=.returned (.tuple #[.int .i64 b,.bool q]):=by
 obtain ⟨rfl,rfl⟩:=Prod.mk.inj h;rfl
def signM (n:Nat)(b:Bool):Int×Bool:=if b then (wrap64 (-(n:Int)),decide (n≤9223372036854775808)) else (wrap64 n,decide (n<9223372036854775808))
theorem dQ (n:Nat)(hn:n<18446744073709551616)(b:Bool)(w:World):Calls Tryz.prog 284 #[.int .u64 n,.bool b] w fun e w'=>e=.returned (.tuple #[.int .i64 (signM n b).1,.bool (signM n b).2])∧w=w':=by
 cases b
 ·go_enter Tryz.func284,Tryz.ntmps284;go_wp2;go_ret2;refine ⟨r8 ?_,rfl⟩;unfold signM;simp
  omega
 ·go_enter Tryz.func284,Tryz.ntmps284;go_wp2;go_ret2;refine ⟨r8 ?_,rfl⟩;unfold signM;simp
  refine ⟨?_,by omega⟩;simp only [IntKind.wrap,IntKind.signed,IntKind.bits,wrap64];simp
theorem r9 (a b:Int):a * b=if (decide (a<0) != decide (b<0))=true then -((a.natAbs * b.natAbs:Nat):Int) else ((a.natAbs * b.natAbs:Nat):Int):=by
 rcases AQ a 0 with ha | ha <;> rcases AQ b 0 with hb | hb
 ·obtain ⟨n,rfl⟩:∃n:Nat,a=-(n:Int):=⟨a.natAbs,by omega⟩;obtain ⟨m,rfl⟩:∃m:Nat,b=-(m:Int):=⟨b.natAbs,by omega⟩;rw [dT ha,dT hb];simp [Int.neg_mul_neg]
 ·obtain ⟨n,rfl⟩:∃n:Nat,a=-(n:Int):=⟨a.natAbs,by omega⟩;obtain ⟨m,rfl⟩:∃m:Nat,b=(m:Int):=⟨b.natAbs,by omega⟩;rw [dT ha,dF (show ¬ (m:Int)<0 by omega)];simp [Int.neg_mul]
 ·obtain ⟨n,rfl⟩:∃n:Nat,a=(n:Int):=⟨a.natAbs,by omega⟩;obtain ⟨m,rfl⟩:∃m:Nat,b=-(m:Int):=⟨b.natAbs,by omega⟩;rw [dF (show ¬ (n:Int)<0 by omega),dT hb];simp [Int.mul_neg]
 ·obtain ⟨n,rfl⟩:∃n:Nat,a=(n:Int):=⟨a.natAbs,by omega⟩;obtain ⟨m,rfl⟩:∃m:Nat,b=(m:Int):=⟨b.natAbs,by omega⟩;rw [dF (show ¬ (n:Int)<0 by omega),dF (show ¬ (m:Int)<0 by omega)];simp
theorem sd (P:Nat)(c:Bool)(h:In64 (if c=true then -(P:Int) else (P:Int))):P / 18446744073709551616=0∧P % 18446744073709551616=P∧signM P c=((if c=true then -(P:Int) else (P:Int)),true):=by
 unfold In64 at h;cases c
 ·simp only [Bool.false_eq_true,if_false] at h ⊢;refine ⟨by omega,by omega,?_⟩;unfold signM;simp only [Bool.false_eq_true,if_false];rw [dT (show P<9223372036854775808 by omega)];have:wrap64 (P:Int)=P:=by unfold wrap64;omega
  rw [this]
 ·simp only [if_true] at h ⊢;refine ⟨by omega,by omega,?_⟩;unfold signM;simp only [if_true];rw [dT (show P≤9223372036854775808 by omega)];have:wrap64 (-(P:Int))=-(P:Int):=by unfold wrap64;omega
  rw [this]
theorem wE (P:Nat)(c:Bool)(h:¬ In64 (if c=true then -(P:Int) else (P:Int))):P / 18446744073709551616≠0∨(P / 18446744073709551616=0∧(signM (P % 18446744073709551616) c).2=false):=by
 unfold In64 at h;by_cases h0:P / 18446744073709551616=0
 ·refine Or.inr ⟨h0,?_⟩;have a:P % 18446744073709551616=P:=by omega
  rw [a];unfold signM;cases c
  ·simp at h ⊢;omega
  ·simp at h ⊢;omega
 ·exact Or.inl h0
theorem wF (a b:Int)(ha:In64 a)(hb:In64 b)(w:World):Calls Tryz.prog 229 #[.int .i64 a,.int .i64 b] w fun e w'=>e=.returned (.tuple #[.int .i64 (fitM (a * b)).1,.int .i64 (fitM (a * b)).2])∧w=w':=by
 have j:=aa (r9 a b);have n:=ha;have q:=hb;unfold In64 at n q;have r:=aa ha;have m:=aa hb;have l:a.natAbs<18446744073709551616:=by omega
 have s:b.natAbs<18446744073709551616:=by omega
 obtain ⟨P,t⟩:∃P,a.natAbs * b.natAbs=P:=⟨_,rfl⟩;obtain ⟨c,hc⟩:∃c,(decide (a<0) != decide (b<0))=c:=⟨_,rfl⟩;rw [t,hc] at j;have E:(!(decide (a<0)==decide (b<0)))=c:=hc;have g:P % 18446744073709551616<18446744073709551616:=Nat.mod_lt _ (by omega);have p:=aa t;clear ha hb t;by_cases hin:In64 (a * b)
 ·have k:=aa (bV hin);obtain ⟨y,x,z⟩:=sd P c (by rw [←j.o];exact hin);obtain ⟨R,hR⟩:∃R,a * b=R:=⟨_,rfl⟩;have B:Hid (signM P c=(R,true)):=aa (by rw [z,←j.o,hR]);have C:=aa hR;clear hR;have I:=aa y;have v:=aa x;clear y x z hin;go_enter Tryz.func229,Tryz.ntmps229;go_wp2_with fail;refine (cg a r.o _).mono ?_;rintro e d ⟨rfl,rfl⟩;go_wp2_with fail;refine (cg b m.o _).mono ?_;rintro e d ⟨rfl,rfl⟩;go_wp2_with fail;refine (Tryz.bits_Mul64 a.natAbs b.natAbs l s _).mono ?_;rintro e d ⟨rfl,rfl⟩;rw [p.o,I.o,v.o];go_wp2_with fail;refine (dQ P (by rw [←v.o];exact g) c _).mono ?_;rintro e d ⟨rfl,rfl⟩;rw [B.o];go_wp2_with fail;go_ret2;exact ⟨aQ (by rw [k.o,C.o]),rfl⟩
 ·have k:=aa (eE hin);have F:=wE P c (by rw [←j.o];exact hin);clear hin;rcases F with h | ⟨h,h2⟩
  ·have f:((P / 18446744073709551616:Nat):Int)≠0:=by omega
   have i:(((P / 18446744073709551616:Nat):Int) != 0)=true:=bne_iff_ne.2 f;have D:=aa f;obtain ⟨Q,u⟩:∃Q,P / 18446744073709551616=Q:=⟨_,rfl⟩;rw [u] at i;have G:=aa u;clear f h u D;go_enter Tryz.func229,Tryz.ntmps229;go_wp2_with fail;refine (cg a r.o _).mono ?_;rintro e d ⟨rfl,rfl⟩;go_wp2_with fail;refine (cg b m.o _).mono ?_;rintro e d ⟨rfl,rfl⟩;go_wp2_with fail;refine (Tryz.bits_Mul64 a.natAbs b.natAbs l s _).mono ?_;rintro e d ⟨rfl,rfl⟩;rw [p.o,G.o];go_wp2_with fail;refine (dQ _ g c _).mono ?_;rintro e d ⟨rfl,rfl⟩;go_wp2_with fail;go_ret2;exact ⟨aQ (by rw [k.o]),rfl⟩
  ·have A:=aa h;have H:=aa h2;clear h h2;go_enter Tryz.func229,Tryz.ntmps229;go_wp2_with fail;refine (cg a r.o _).mono ?_;rintro e d ⟨rfl,rfl⟩;go_wp2_with fail;refine (cg b m.o _).mono ?_;rintro e d ⟨rfl,rfl⟩;go_wp2_with fail;refine (Tryz.bits_Mul64 a.natAbs b.natAbs l s _).mono ?_;rintro e d ⟨rfl,rfl⟩;rw [p.o,A.o];go_wp2_with fail;refine (dQ _ g c _).mono ?_;rintro e d ⟨rfl,rfl⟩;rw [H.o];go_wp2_with fail;go_ret2;exact ⟨aQ (by rw [k.o]),rfl⟩
section
attribute [local go_sem ↓] Go.wp_at_zero Go.wp_at_succ
structure TrFit (t:Tr):Prop where
 q:In64 t.qty
 p:In64 t.prc
def valM (t:Tr):Int×Int:=fitM (t.qty * t.prc)
theorem eH (t:Tr)(h:TrFit t)(w:World):Calls Tryz.prog 181 #[vTr t] w fun e w'=>e=.returned (.tuple #[.int .i64 (valM t).1,.int .i64 (valM t).2])∧w'=w.alloc (.cells (cTr t) 58):=by
 have a:=aa h.q;have b:=aa h.p;go_enter Tryz.func181,Tryz.ntmps181;go_wp2_with fail;refine (wF t.qty t.prc a.o b.o _).mono ?_;rintro e c ⟨rfl,rfl⟩;go_wp2_with fail;go_ret2;exact ⟨rfl,rfl⟩
def greatM (t:Tr):Bool:=(valM t).2 != 0||decide (288230376151711744<(valM t).1)||decide (274877906944<t.qty)
theorem oZ (t:Tr)(h:TrFit t)(w:World):Calls Tryz.prog 145 #[vTr t] w fun e w'=>e=.returned (.bool (greatM t))∧Bw w w':=by
 obtain ⟨⟨v,d⟩,a⟩:∃r,valM t=r:=⟨_,rfl⟩;have f:=aa a;have b:Hid (greatM t=((d != 0)||decide (288230376151711744<v)||decide (274877906944<t.qty))):=aa (by unfold greatM;rw [a]);have i:Bw w ((w.alloc (.cells (cTr t) 58)).alloc (.cells (cTr t) 58)):=Bn.alloc (by simp) _;obtain ⟨c1,h1⟩:∃c,(d != 0)=c:=⟨_,rfl⟩;obtain ⟨c2,h2⟩:∃c,decide (288230376151711744<v)=c:=⟨_,rfl⟩;obtain ⟨c3,h3⟩:∃c,decide (274877906944<t.qty)=c:=⟨_,rfl⟩;rw [h1,h2,h3] at b;have g:=aa h;clear a h;cases c1 <;> cases c2 <;> cases c3
 all_goals
  go_enter Tryz.func145,Tryz.ntmps145;go_wp2_with fail;refine (eH t g.o _).mono ?_;rintro e j ⟨rfl,rfl⟩;rw [f.o];go_wp2_with fail;go_ret;exact ⟨by rw [b.o];rfl,i⟩
def okM (C:Cfg)(n:Int):Prop:=1≤n∧n≤C.mem.length
instance (C:Cfg)(n:Int):Decidable (okM C n):=by unfold okM;infer_instance
theorem aG (vm vs vc:Value)(C:Cfg)(w:World)(hc:CSl w vm vs vc C)(i:Int) :
  Calls Tryz.prog 112 #[cfgV vm vs vc C,.int .i64 i] w fun e w'=>∃x:Mb,e=.returned (.tuple #[vMb x,.int .i64 (if okM C i then 0 else 9)])∧Bw w w':=by
 by_cases h:okM C i
 ·unfold okM at h;obtain ⟨k,rfl⟩:∃k:Nat,i=(k:Int)+1:=⟨(i - 1).toNat,by omega⟩;exact (mc vm vs vc C w hc k (by omega)).mono fun _ _ ⟨he,hb⟩=>⟨_,by rw [if_pos (show okM C ((k:Int)+1) from h)];exact he,hb⟩
 ·exact (oS vm vs vc C w hc i (by unfold okM at h;omega)).mono fun _ _ ⟨he,hb⟩=>⟨_,by rw [if_neg h];exact he,hb⟩
def whoM (C:Cfg)(t:Tr):Int:=if okM C t.byr∧okM C t.slr then (if t.byr=t.slr then 1 else 0) else 9
theorem fB (vm vs vc:Value)(C:Cfg)(w:World)(hc:CSl w vm vs vc C)(t:Tr) :
  Calls Tryz.prog 143 #[cfgV vm vs vc C,vTr t] w fun e w'=>e=.returned (.int .i64 (whoM C t))∧Bw w w':=by
 have f:Bw w (((w.alloc (.cells (cfgC vm vs vc C) 26)).alloc (.cells (cTr t) 58)).alloc (.cells #[.int .i64 t.byr,.int .i64 t.slr] 3)):=(Bn.alloc (by simp) _).alloc (by simp;omega) _;have y:=aa (hc.keep f);have x:=aa (((Blk.new w 26 (cfgC vm vs vc C)).alloc (.cells (cTr t) 58)).alloc (.cells #[.int .i64 t.byr,.int .i64 t.slr] 3));have s:=aa (show Blk (((w.alloc (.cells (cfgC vm vs vc C) 26)).alloc (.cells (cTr t) 58)).alloc (.cells #[.int .i64 t.byr,.int .i64 t.slr] 3)) (w.heap.size+1) 58 (cTr t) from Blk.alloc (heap_alloc2_new _ _ _) _);have r:=aa (show Blk (((w.alloc (.cells (cfgC vm vs vc C) 26)).alloc (.cells (cTr t) 58)).alloc (.cells #[.int .i64 t.byr,.int .i64 t.slr] 3)) (w.heap.size+2) 3 #[.int .i64 t.byr,.int .i64 t.slr] from by have:=Blk.new ((w.alloc (.cells (cfgC vm vs vc C) 26)).alloc (.cells (cTr t) 58)) 3 #[.int .i64 t.byr,.int .i64 t.slr];simpa using this);clear hc;go_enter Tryz.func143,Tryz.ntmps143;go_wp2_with fail;dsimp only [cfgC,cTr] at f y x s r;generalize (((w.alloc (.cells #[vm,vs,vc,.int .i64 C.line,.int .i64 C.capital,.int .i64 C.lead,.int .i64 C.trades,.int .i64 C.bids] 26)).alloc (.cells #[.int .i64 t.id,.int .i64 t.byr,.int .i64 t.slr,.int .i64 t.sec,.int .i64 t.qty,.int .i64 t.prc] 58)).alloc (.cells #[.int .i64 t.byr,.int .i64 t.slr] 3))=W0 at *;go_loopw [15] (fun i wr=>∃k:Nat,k≤2∧i=.int .i64 k∧Bw W0 wr∧(1≤k→okM C t.byr)∧(2≤k→okM C t.slr)) (fun i _=>2 - (intOf i).toNat)
 case atStart=>exact ⟨0,by omega,rfl,zZ _ _,(fun h=>by omega),(fun h=>by omega)⟩
 case round=>
  obtain ⟨k,E,rfl,a,z,A⟩:=hrel;have l:=aa (y.o.keep a);have p:=s8 (x.o.keep a);obtain ⟨p0,p1,p2,p3,p4,p5,p6,p7⟩:=p;have F:=(r.o.keep a).c 0;have G:=(r.o.keep a).c 1;have I:=(s.o.keep a).c 1;have H:=(s.o.keep a).c 2;have j:=f.trans (a.mono f.size);have u:k=0∨k=1∨k=2:=by omega
  rcases u with rfl | rfl | rfl
  ·by_cases ok:okM C t.byr
   ·have d:=aa ok;go_wp2_with (go_at_call 112;refine (aG vm vs vc C _ l.o _).mono ?_;rintro e v ⟨m,rfl,b⟩;rw [if_pos d.o];have R:=aa ((a.trans (b.mono a.size)).alloc (z5 a.size b.size) (.cells (cMb m) 125)))
    go_roundw
    case rel=>exact ⟨1,by decide,by rfl,R.o,(fun _=>d.o),(fun h=>by omega)⟩
    case measure=>simp [intOf]
   ·have d:=aa ok;have g:Hid (whoM C t=9):=aa (by unfold whoM;rw [if_neg (fun h=>ok h.1)]);go_wp2_with (go_at_call 112;refine (aG vm vs vc C _ l.o _).mono ?_;rintro e v ⟨m,rfl,b⟩;rw [if_neg d.o];have R:=aa ((a.trans (b.mono a.size)).alloc (z5 a.size b.size) (.cells (cMb m) 125)))
    go_ret;exact ⟨by rw [g.o];rfl,f.trans (R.o.mono f.size)⟩
  ·by_cases ok:okM C t.slr
   ·have d:=aa ok;have B:=aa (z (by omega));go_wp2_with (go_at_call 112;refine (aG vm vs vc C _ l.o _).mono ?_;rintro e v ⟨m,rfl,b⟩;rw [if_pos d.o];have R:=aa ((a.trans (b.mono a.size)).alloc (z5 a.size b.size) (.cells (cMb m) 125)))
    go_roundw
    case rel=>exact ⟨2,by decide,by rfl,R.o,(fun _=>B.o),(fun _=>d.o)⟩
    case measure=>simp [intOf]
   ·have d:=aa ok;have g:Hid (whoM C t=9):=aa (by unfold whoM;rw [if_neg (fun h=>ok h.2)]);go_wp2_with (go_at_call 112;refine (aG vm vs vc C _ l.o _).mono ?_;rintro e v ⟨m,rfl,b⟩;rw [if_neg d.o];have R:=aa ((a.trans (b.mono a.size)).alloc (z5 a.size b.size) (.cells (cMb m) 125)))
    go_ret;exact ⟨by rw [g.o];rfl,f.trans (R.o.mono f.size)⟩
  ·have q:=z (by omega);have n:=A (by omega);by_cases he:t.byr=t.slr
   ·have g:Hid (whoM C t=1):=aa (by unfold whoM;rw [if_pos ⟨q,n⟩,if_pos he]);have D:(t.byr==t.slr)=true:=by simpa using he
    clear q n he;go_wp2_with fail;go_ret;exact ⟨by rw [g.o];rfl,j⟩
   ·have g:Hid (whoM C t=0):=aa (by unfold whoM;rw [if_pos ⟨q,n⟩,if_neg he]);have D:(t.byr==t.slr)=false:=by simpa using he
    clear q n he;go_wp2_with fail;go_ret;exact ⟨by rw [g.o];rfl,j⟩
def okS (C:Cfg)(n:Int):Prop:=1≤n∧n≤C.secs.length
instance (C:Cfg)(n:Int):Decidable (okS C n):=by unfold okS;infer_instance
theorem ct (vm vs vc:Value)(C:Cfg)(w:World)(hc:CSl w vm vs vc C)(i:Int) :
  Calls Tryz.prog 144 #[cfgV vm vs vc C,.int .i64 i] w fun e w'=>∃x:Sc,e=.returned (.tuple #[vSc x,.int .i64 (if okS C i then 0 else 10)])∧Bw w w':=by
 by_cases h:okS C i
 ·unfold okS at h;obtain ⟨k,rfl⟩:∃k:Nat,i=(k:Int)+1:=⟨(i - 1).toNat,by omega⟩;exact (oj vm vs vc C w hc k (by omega)).mono fun _ _ ⟨he,hb⟩=>⟨_,by rw [if_pos (show okS C ((k:Int)+1) from h)];exact he,hb⟩
 ·exact (rH vm vs vc C w hc i (by unfold okS at h;omega)).mono fun _ _ ⟨he,hb⟩=>⟨_,by rw [if_neg h];exact he,hb⟩
def tcM (C:Cfg)(t:Tr):Int:=
 if whoM C t≠0 then whoM C t else if okS C t.sec then (if t.qty<1∨t.prc<1 then 1 else if greatM t=true then 2 else 0) else 10
theorem bp (vm vs vc:Value)(C:Cfg)(w:World)(hc:CSl w vm vs vc C)(t:Tr)(hf:TrFit t) :
  Calls Tryz.prog 104 #[cfgV vm vs vc C,vTr t] w fun e w'=>e=.returned (.int .i64 (tcM C t))∧Bw w w':=by
 have g:Bw w ((w.alloc (.cells (cfgC vm vs vc C) 26)).alloc (.cells (cTr t) 58)):=Bn.alloc (by simp) _;have j:=aa (hc.keep g);have B:=aa ((Blk.new w 26 (cfgC vm vs vc C)).alloc (.cells (cTr t) 58));have q:=aa (show Blk ((w.alloc (.cells (cfgC vm vs vc C) 26)).alloc (.cells (cTr t) 58)) (w.heap.size+1) 58 (cTr t) from heap_alloc2_new _ _ _);have J:=aa hf;obtain ⟨r,l⟩:∃n,whoM C t=n:=⟨_,rfl⟩;have s:=aa l;have a:Hid (tcM C t=if r≠0 then r else if okS C t.sec then (if t.qty<1∨t.prc<1 then 1 else if greatM t=true then 2 else 0) else 10):=aa (by unfold tcM;rw [l]);clear hc hf l;by_cases h0:r=0
 ·subst h0;rw [if_neg (by simp)] at a;by_cases hs:okS C t.sec
  ·rw [if_pos hs] at a;have v:=aa hs;by_cases hq:t.qty<1∨t.prc<1
   ·rw [if_pos hq] at a;have z:t.qty<1∨(1≤t.qty∧t.prc<1):=by omega
    clear hs hq;rcases z with hq | ⟨hq1,hq⟩
    all_goals
     go_enter Tryz.func104,Tryz.ntmps104;go_wp2_with fail;refine (fB vm vs vc C _ j.o t).mono ?_;rintro e y ⟨rfl,d⟩;rw [s.o];obtain ⟨p0,p1,p2,p3,p4,p5,p6,p7⟩:=s8 (B.o.keep d);have u:=(q.o.keep d).c 3;have p:=aa (j.o.keep d);have f:=g.trans (d.mono g.size);have A:=aa (q.o.keep d);clear d;go_wp2_with fail;refine (ct vm vs vc C _ p.o _).mono ?_;rintro e w2 ⟨x,rfl,c2⟩;rw [if_pos v.o];have i:=f.trans (c2.mono f.size);have m:=i.alloc i.size (.cells (cSc x) 127);have h:=aa ((A.o.keep c2).alloc (.cells (cSc x) 127));have H:=h.o.c 4;have E:=h.o.c 5;clear c2 p0 p1 p2 p3 p4 p5 p6 p7 u;go_wp2_with fail;go_ret;exact ⟨by rw [a.o];rfl,m⟩
   ·rw [if_neg hq] at a;have P:1≤t.qty:=by omega
    have R:1≤t.prc:=by omega
    have L:decide (t.qty<1)=false:=dF (by omega);have N:decide (t.prc<1)=false:=dF (by omega);obtain ⟨F,k⟩:∃b,greatM t=b:=⟨_,rfl⟩;rw [k] at a;have K:=aa k;clear hs hq k;cases F
    all_goals
     go_enter Tryz.func104,Tryz.ntmps104;go_wp2_with fail;refine (fB vm vs vc C _ j.o t).mono ?_;rintro e y ⟨rfl,d⟩;rw [s.o];obtain ⟨p0,p1,p2,p3,p4,p5,p6,p7⟩:=s8 (B.o.keep d);have u:=(q.o.keep d).c 3;have p:=aa (j.o.keep d);have f:=g.trans (d.mono g.size);have A:=aa (q.o.keep d);clear d;go_wp2_with fail;refine (ct vm vs vc C _ p.o _).mono ?_;rintro e w2 ⟨x,rfl,c2⟩;rw [if_pos v.o];have i:=f.trans (c2.mono f.size);have m:=i.alloc i.size (.cells (cSc x) 127);have h:=aa ((A.o.keep c2).alloc (.cells (cSc x) 127));have M:=h.o.c 0;have O:=h.o.c 1;have Q:=h.o.c 2;have D:=h.o.c 3;have H:=h.o.c 4;have E:=h.o.c 5;clear c2 p0 p1 p2 p3 p4 p5 p6 p7 u;go_wp2_with fail;refine (oZ t J.o _).mono ?_;rintro e w4 ⟨rfl,c4⟩;rw [K.o];have G:=m.trans (c4.mono m.size);clear c4;go_wp2_with fail;go_ret;exact ⟨by rw [a.o];rfl,G⟩
  ·rw [if_neg hs] at a;have v:=aa hs;clear hs;go_enter Tryz.func104,Tryz.ntmps104;go_wp2_with fail;refine (fB vm vs vc C _ j.o t).mono ?_;rintro e y ⟨rfl,d⟩;rw [s.o];obtain ⟨p0,p1,p2,p3,p4,p5,p6,p7⟩:=s8 (B.o.keep d);have u:=(q.o.keep d).c 3;have p:=aa (j.o.keep d);have f:=g.trans (d.mono g.size);clear d;go_wp2_with fail;refine (ct vm vs vc C _ p.o _).mono ?_;rintro e w2 ⟨x,rfl,c2⟩;rw [if_neg v.o];have i:=f.trans (c2.mono f.size);have m:=i.alloc i.size (.cells (cSc x) 127);clear c2;go_wp2_with fail;go_ret;exact ⟨by rw [a.o];rfl,m⟩
 ·rw [if_pos h0] at a;have I:(r != 0)=true:=by simpa using h0
  clear h0;go_enter Tryz.func104,Tryz.ntmps104;go_wp2_with fail;refine (fB vm vs vc C _ j.o t).mono ?_;rintro e y ⟨rfl,d⟩;rw [s.o];have f:=g.trans (d.mono g.size);clear d;go_wp2_with fail;go_ret;exact ⟨by rw [a.o];rfl,f⟩
def four (x:Cy):List Tm:=[⟨x.cut,1,0,0⟩,⟨x.fund,3,0,0⟩,⟨x.buyin,4,0,0⟩,⟨x.close,5,0,0⟩]
def tmM (l:List Cy):List Tm:=l.flatMap four
theorem j3 (l:List Cy)(k:Nat)(h:k<l.length):tmM (l.take (k+1))=tmM (l.take k)++four l[k]:=by
 unfold tmM;rw [z9 h,List.flatMap_append,List.flatMap_singleton]
theorem dR (l:List Cy):(tmM l).length=4 * l.length:=by
 induction l with
 | nil=>rfl
 | cons x l ih=>simp [tmM,four] at ih ⊢;omega
abbrev fourC (x:Cy):Array Value:=#[.int .i64 x.cut,.int .i64 1,.int .i64 0,.int .i64 0,.int .i64 x.fund,.int .i64 3,.int .i64 0,.int .i64 0,.int .i64 x.buyin,.int .i64 4,.int .i64 0,.int .i64 0,.int .i64 x.close,.int .i64 5,.int .i64 0,.int .i64 0]
theorem sf (W:World)(x:Cy)(b:Nat)(hb:W.heap.size=b):∀j u,(flat eTm (four x))[j]?=some u→(W.alloc (.cells (fourC x) 197)).cell? ((⟨b,0,none⟩:Addr).add j)=some u:=by
 subst hb;intro j u a;rw [Aj,Av,(Blk.new W 197 _).c j];simpa [flat,eTm,four] using a
structure TmsRel (l:List Cy)(w wr:World)(k:Nat)(v:Value):Prop where
 own:wr.ownsRow w.heap.size 197 4 v (tmM (l.take k)).length (flat eTm (tmM (l.take k)))
 low:Bw w wr
def TmsPost (l:List Tm)(w:World)(e:Ending)(w':World):Prop:=∃v,e=.returned (.tuple #[v,.int .i64 0])∧w'.ownsRow w.heap.size 197 4 v l.length (flat eTm l)∧Bw w w'
theorem mg (vm vs vc:Value)(C:Cfg)(w:World)(hc:CSl w vm vs vc C)(hv:Valid C):Calls Tryz.prog 100 #[cfgV vm vs vc C] w (TmsPost (tmM C.cyc) w):=by
 have y:=aa (hc.alloc (.cells (cfgC vm vs vc C) 26));have v:=aa (Blk.new w 26 (cfgC vm vs vc C));have z:=aa hv;have T:=hv.c2;obtain ⟨a,D,rfl,_,H,s,h⟩:=hc.c;unfold maxLen at s;have n:=aa h;clear h hc hv;obtain ⟨i0,hi,hz0,hz1,hz2⟩:=info_parts fK;go_enter Tryz.func100,Tryz.ntmps100;go_wp2_with fail;refine (bM vm vs _ C _ y.o z.o).mono ?_;rintro e w1 ⟨rfl,c1⟩;have E:Bw w w1:=Bn.trans (c1.mono (by simp));have S:=(v.o.keep c1).c 2;have F:TmsRel C.cyc w w1 0 (.slice none 0 0):=⟨⟨rfl,Or.inl ⟨rfl,rfl⟩⟩,E⟩;clear c1 v y;go_wp2_with fail;go_loopw [5,16] (fun va i wr=>∃k:Nat,k≤C.cyc.length∧i=.int .i64 k∧TmsRel C.cyc w wr k va) (fun _ i _=>C.cyc.length - (intOf i).toNat)
 case atStart=>exact ⟨0,Af _,rfl,F⟩
 case round=>
  obtain ⟨k,Q,rfl,f,d⟩:=hrel;by_cases hlt:k<C.cyc.length
  ·obtain ⟨b,l,rfl,m,q⟩:=n.o (by omega);obtain ⟨q0,q1,q2,q3⟩:=wi (q k hlt);have M:=(d.c (p:=⟨b,l+k * 4,none⟩) m).trans q0;have N:=(d.c (p:=⟨b,l+k * 4+1,none⟩) m).trans q1;have O:=(d.c (p:=⟨b,l+k * 4+2,none⟩) m).trans q2;have P:=(d.c (p:=⟨b,l+k * 4+3,none⟩) m).trans q3;have A:=aa (j3 C.cyc k hlt);have r:=aa (dR (C.cyc.take k));have B:(tmM (C.cyc.take k)).length≤16:=by rw [r.o,Aa];omega
   have K:(0:Int)≤(k:Int):=by omega
   have J:(k:Int)<(C.cyc.length:Int):=by omega
   clear q q0 q1 q2 q3;generalize C.cyc[k]=x at *;have t:=d.alloc d.size (.cells (cCy x) 63);have u:=aa (f.alloc (.cells (cCy x) 63));clear f;go_wp2_with (at_builtin;refine wpList_append_own _ rfl _ _ 148 rfl w.heap.size 197 i0 (.agg #[.int .i64 0,.int .i64 0,.int .i64 0,.int .i64 0]) 4 32 Tryz.underlying148 hi hz0 hz1 hz2 rfl (by decide) _ _ _ rfl (u.o.alloc _) ⟨wr.heap.size+1,0,none⟩ 4 4 (flat eTm (four x)) rfl rfl ?c1 ?c2 ?c3 ?c4 ?c5 ?_)
   case c1=>exact sf _ x _ (by simp)
   case c2=>exact aH oneTm _
   case c3=>unfold maxLen;omega
   case c4=>omega
   case c5=>have:=d.size;simp;omega
   intro I L g j _;have R:TmsRel C.cyc w L (k+1) I:=⟨by rw [A.o,aI,z8];exact g,(t.alloc t.size _).grown j (by have:=d.size;simp;omega) (cR u.o)⟩;clear g j u t;go_wp2;go_roundw
   case rel=>exact ⟨k+1,by omega,by go_num,R⟩
   case measure=>simp [intOf];omega
  ·rw [Ae (by omega)] at f;have G:=aa f;clear f;go_wp2;go_ret2;exact ⟨_,rfl,G.o,d⟩
end
def idxM (x:Tm):List Tm→Nat→Int
 | [],_=>-1
 | y :: l,k=>if x=y then (k:Int) else idxM x l (k+1)
theorem zh (x:Tm)(l:List Tm):∀k,x∉l→idxM x l k=-1:=by
 induction l with
 | nil=>intro k _;rfl
 | cons y l ih=>intro k h;rw [idxM,if_neg (fun e=>h (by simp [e])),ih (k+1) (fun hm=>h (by simp [hm]))]
theorem zi (x:Tm)(l:List Tm):∀(j k:Nat)(h:j<l.length),(∀i (hi:i<j),x≠l[i]'(by omega))→x=l[j]→idxM x l k=(k+j:Nat):=by
 induction l with
 | nil=>intro j k h;simp at h
 | cons y l ih=>
  intro j k h b a;cases j with
  | zero=>rw [idxM,if_pos (by simpa using a)];rfl
  | succ j=>
   have c:=b 0 (by omega);rw [idxM,if_neg (by simpa using c),ih j (k+1) (by simpa using h) (fun i hi=>by have:=b (i+1) (by omega);simpa using this) (by simpa using a)];congr 1;omega
theorem om {c d:Tm}(h:c≠d):c.due≠d.due∨(c.due=d.due∧c.kind≠d.kind)∨(c.due=d.due∧c.kind=d.kind∧c.mem≠d.mem)∨(c.due=d.due∧c.kind=d.kind∧c.mem=d.mem∧c.level≠d.level):=by
 obtain ⟨b,a,g,f⟩:=c;obtain ⟨b0,b1,b2,b3⟩:=d;simp only [ne_eq,Tm.mk.injEq] at h ⊢;omega
theorem o8 (v:Value)(l:List Tm)(x:Tm)(w:World)(hv:Sl eTm 4 w v l)(hn:l.length≤1000000) :
  Calls Tryz.prog 180 #[v,vTm x] w fun e w'=>e=.returned (.int .i64 (idxM x l 0))∧Bw w w':=by
 obtain ⟨a,C,rfl,_,G,z,f⟩:=hv;unfold maxLen at z;have q:=aa f;clear f;have A:Bw w (w.alloc (.cells (cTm x) 197)):=Bn;have s:=aa (Blk.new w 197 (cTm x));go_enter Tryz.func180,Tryz.ntmps180;go_wp2_with fail;dsimp only [cTm] at A s;generalize w.alloc (.cells #[.int .i64 x.due,.int .i64 x.kind,.int .i64 x.mem,.int .i64 x.level] 197)=W0 at *;go_loopw [8] (fun i wr=>∃k:Nat,k≤l.length∧i=.int .i64 k∧Bw W0 wr∧∀j (h:j<k) (h2:j<l.length),x≠l[j]) (fun i _=>l.length - (intOf i).toNat)
 case atStart=>exact ⟨0,Af _,rfl,zZ _ _,(fun j h=>by omega)⟩
 case round=>
  obtain ⟨k,N,rfl,d,u⟩:=hrel;have n:=aa u;clear u;have r:=A.trans (d.mono A.size);by_cases hlt:k<l.length
  ·obtain ⟨b,g,rfl,m,t⟩:=q.o (by omega);obtain ⟨q0,q1,q2,q3⟩:=jV (t k hlt);have D:=(r.c (p:=⟨b,g+k * 4,none⟩) m).trans q0;have F:=(r.c (p:=⟨b,g+k * 4+1,none⟩) m).trans q1;have H:=(r.c (p:=⟨b,g+k * 4+2,none⟩) m).trans q2;have I:=(r.c (p:=⟨b,g+k * 4+3,none⟩) m).trans q3;have P:=(s.o.keep d).c 0;have Q:=(s.o.keep d).c 1;have M:=(s.o.keep d).c 2;have R:=(s.o.keep d).c 3;have L:(0:Int)≤(k:Int):=by omega
   have K:(k:Int)<(l.length:Int):=by omega
   clear t q0 q1 q2 q3;by_cases heq:x=l[k]
   ·have y:Hid (idxM x l 0=(k:Nat)):=aa (by rw [zi x l k 0 hlt (fun i hi=>n.o i hi (by omega)) heq,Av]);rw [←heq] at D F H I;clear heq;go_wp2;go_quiet (fail)
    go_wp2;go_ret;exact ⟨by rw [y.o];rfl,aj r _⟩
   ·have B:=aa (om heq);have J:=aa heq;clear heq;rcases B.o with h | ⟨h1,h⟩ | ⟨h1,h2,h⟩ | ⟨h1,h2,h3,h⟩
    all_goals
     have O:=beq_eq_false_iff_ne.2 h;clear h B;go_wp2;go_quiet (fail)
     go_wp2;go_roundw
     case rel=>exact ⟨k+1,by omega,by go_num,aj d _,(fun j h h2=>by
      by_cases e:j=k
      ·subst e;exact J.o
      ·exact n.o j (by omega) h2)⟩
     case measure=>simp [intOf];omega
  ·have y:Hid (idxM x l 0=-1):=aa (zh x l 0 (fun hm=>by
    obtain ⟨j,E,e⟩:=Ao hm;exact n.o j (by omega) E e.symm))
   go_wp2;go_ret;exact ⟨by rw [y.o];rfl,r⟩
theorem wG (x:Tm)(l:List Tm):∀k,decide (0≤idxM x l k)=decide (x∈l):=by
 induction l with
 | nil=>intro k;simp [idxM]
 | cons y l ih=>
  intro k;rw [idxM];by_cases h:x=y
  ·rw [if_pos h];simp [h]
  ·rw [if_neg h,ih (k+1)];simp [h]
theorem jt (v:Value)(l:List Tm)(x:Tm)(w:World)(hv:Sl eTm 4 w v l)(hn:l.length≤1000000) :
  Calls Tryz.prog 142 #[v,vTm x] w fun e w'=>e=.returned (.bool (decide (x∈l)))∧Bw w w':=by
 have b:Bw w (w.alloc (.cells (cTm x) 197)):=Bn;have f:=aa (hv.keep b);have g:=aa (wG x l 0);obtain ⟨a,c,rfl,_⟩:=hv;go_enter Tryz.func142,Tryz.ntmps142;go_wp2_with fail;refine (o8 _ l x _ f.o hn).mono ?_;rintro e w1 ⟨rfl,c1⟩;have d:=b.trans (c1.mono (by simp));clear c1;generalize idxM x l 0=n at *;go_wp2_with fail;go_ret;exact ⟨by rw [←g.o];rfl,d⟩
end Go.Proofs.YtmhohaanddglbaaGreatDoor
