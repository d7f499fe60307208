/- Lemmas for TopShares and TopKept; no law is closed here. -/
import Derived.Test.YtmhohaanddglbaaGreatDoorProg
import Derived.WalkSpells
import Derived.Lib.Hide
import Derived.RangeFuncBox
import Derived.Laws.EntriesVeiled
import Derived.Deep.RegionHeld3
import Derived.Deep.DrawnRows
import Derived.Great.BuildSlice
import Derived.Laws.CopyOwn
import Derived.WalkLawsBesides
import Derived.StillTailTactics
import Derived.Shelf.Small.Bits
import Derived.Shelf.Small.Wraps
import Derived.Shelf.Sort.Plain
import Derived.Shelf.Bits.Mul64
import Derived.Shelf.Slices.Turned
import Derived.Shelf.Slices.Clone
import Derived.Shelf.Slices.SearchI
import Derived.Shelf.Slices.Cells
import Derived.Shelf.Slices.In.SortNone
import Derived.Shelf.SlicesG.Clone
import Derived.Shelf.SlicesG.SearchI
import Derived.Shelf.SlicesE.Clone
set_option linter.all false
set_option maxRecDepth 100000
set_option maxHeartbeats 16000000
def Eq.bu:=@Eq.trans
def Iff.bu:=@Iff.trans
def List.Perm.bu:=@List.Perm.trans
def List.Sublist.bu:=@List.Sublist.trans
namespace Go.RowKit
theorem Hid.o {p:Prop}(h:Hid p):p:=h.out
def Below.c:=@Below.cell
def Below.bu:=@Below.trans
def Below.bC:=@Below.mono
abbrev Bw (w w':World):Prop:=Below w.heap.size w w'
end Go.RowKit
namespace Go
def World.grownBy.c:=@World.grownBy.cell
def Boxed.c:=@Boxed.cell
def World.grownBy.bu:=@World.grownBy.trans
def World.ownsMap.bC:=@World.ownsMap.mono
def World.mapTurned.bu:=@World.mapTurned.trans
def Calls.bC:=@Calls.mono
def CallsIn.bC:=@CallsIn.mono
def Rows.bC:=@Rows.mono
end Go
namespace Go.Proofs.YtmhohaanddglbaaGreatDoor
open Go.RowKit
instance:Coe Int Value:=⟨fun n=>.int .i64 n⟩
instance:Coe Nat Value:=⟨fun n=>.int .i64 n⟩
instance:Coe Unit Value:=⟨fun _=>.int .i64 0⟩
instance:Coe World Nat:=⟨fun w=>w.heap.size⟩
instance {α:Type}:CoeOut (List α) Nat:=⟨fun l=>l.length⟩
instance(b i:Nat):CoeDep (Nat×Nat) (b,i) Addr:=⟨⟨b,i,none⟩⟩
inductive ZA|aZ(_:World)(_:Array Value)(_:TypeId)
inductive ZU|aX(_:Int)
inductive ZI|aY(_:Int)
inductive ZD|bf(_:Nat)
inductive ZP|bg(_:Int×Int)
inductive ZR|bi(_:Value)(_:World)
inductive ZT|bj(_:Value)(_:World)
inductive ZO|bH(_:Array Value)(_:TypeId)|be(_ _:Nat)
inductive ZS|bd
inductive ZE|bt
open ZA ZU ZI ZD ZP ZR ZT ZS ZE ZO
instance(b i:Nat):CoeDep ZO (be b i) Addr:=⟨⟨b,i,none⟩⟩
instance(c:Array Value)(k:TypeId):CoeDep ZO (bH c k) Obj:=⟨.cells c k⟩
abbrev bD:=World
abbrev bE:=Value
abbrev bF:=List
abbrev bG:=Calls Tryz.prog
instance:Coe ZE (Array Value):=⟨fun _=>#[.int .u64 0,.int .u64 0,.int .u64 0,.int .u64 0,.int .u64 0,.int .u64 0,.int .u64 0,.int .u64 0]⟩
instance(x:Int×Int):CoeDep ZP (bg x) Value:=⟨.tuple #[.int .i64 x.1,.int .i64 x.2]⟩
instance(v:Value)(w:World):CoeDep ZR (bi v w) (Ending→World→Prop):=⟨fun e w'=>e=.returned v∧Below w.heap.size w w'⟩
instance(v:Value)(w:World):CoeDep ZT (bj v w) (Ending→World→Prop):=⟨fun e w'=>e=.returned v∧w'=w⟩
instance(w:World)(c:Array Value)(k:TypeId):CoeDep ZA (aZ w c k) World:=⟨w.alloc (.cells c k)⟩
instance(w:World)(c:Array Value)(k:TypeId):CoeDep ZA (aZ w c k) Nat:=⟨(w.alloc (.cells c k)).heap.size⟩
instance(n:Int):CoeDep ZU (aX n) Value:=⟨.int .u64 n⟩
instance(n:Int):CoeDep ZI (aY n) Value:=⟨.int .i64 n⟩
instance:Coe ZS Value:=⟨fun _=>.slice none 0 0⟩
theorem aa {p:Prop}(h:p):Hid p:=Lib.hid h
theorem Jt2 {p0 p1:Prop}(h0:p0)(h1:p1):p0∧p1:=⟨h0,h1⟩
theorem Jh2 {p0 p1:Prop}(h0:p0)(h1:p1):Hid p0∧Hid p1:=⟨Lib.hid h0,Lib.hid h1⟩
theorem Jt3 {p0 p1 p2:Prop}(h0:p0)(h1:p1)(h2:p2):p0∧p1∧p2:=⟨h0,h1,h2⟩
theorem Jh3 {p0 p1 p2:Prop}(h0:p0)(h1:p1)(h2:p2):Hid p0∧Hid p1∧Hid p2:=⟨Lib.hid h0,Lib.hid h1,Lib.hid h2⟩
theorem Jt4 {p0 p1 p2 p3:Prop}(h0:p0)(h1:p1)(h2:p2)(h3:p3):p0∧p1∧p2∧p3:=⟨h0,h1,h2,h3⟩
theorem Jh4 {p0 p1 p2 p3:Prop}(h0:p0)(h1:p1)(h2:p2)(h3:p3):Hid p0∧Hid p1∧Hid p2∧Hid p3:=⟨Lib.hid h0,Lib.hid h1,Lib.hid h2,Lib.hid h3⟩
theorem Jt5 {p0 p1 p2 p3 p4:Prop}(h0:p0)(h1:p1)(h2:p2)(h3:p3)(h4:p4):p0∧p1∧p2∧p3∧p4:=⟨h0,h1,h2,h3,h4⟩
theorem Jh5 {p0 p1 p2 p3 p4:Prop}(h0:p0)(h1:p1)(h2:p2)(h3:p3)(h4:p4):Hid p0∧Hid p1∧Hid p2∧Hid p3∧Hid p4:=⟨Lib.hid h0,Lib.hid h1,Lib.hid h2,Lib.hid h3,Lib.hid h4⟩
theorem Jt6 {p0 p1 p2 p3 p4 p5:Prop}(h0:p0)(h1:p1)(h2:p2)(h3:p3)(h4:p4)(h5:p5):p0∧p1∧p2∧p3∧p4∧p5:=⟨h0,h1,h2,h3,h4,h5⟩
theorem Jh6 {p0 p1 p2 p3 p4 p5:Prop}(h0:p0)(h1:p1)(h2:p2)(h3:p3)(h4:p4)(h5:p5):Hid p0∧Hid p1∧Hid p2∧Hid p3∧Hid p4∧Hid p5:=⟨Lib.hid h0,Lib.hid h1,Lib.hid h2,Lib.hid h3,Lib.hid h4,Lib.hid h5⟩
theorem aI {w:World}{o:Obj}:Below w.heap.size w (w.alloc o):=(Below.refl _ _).alloc (Nat.le_refl _) o
theorem af {p:Prop}(h:p:=by omega):p:=h
theorem ah {p:Prop}(h:p:=by decide):p:=h
theorem ai {p:Prop}(h:p:=by decide +kernel):p:=h
theorem aj {p:Prop}(h:p:=by kernel_rfl):p:=h
theorem au {p:Prop}(h:p:=by simp):p:=h
theorem aw {p:Prop}(h:p:=by go_num):p:=h
theorem az {p:Prop}(h:p:=by unfold maxLen;omega):p:=h
theorem aA {p:Prop}(h:p:=by simp;omega):p:=h
theorem aB {p:Prop}(h:p:=by rfl):p:=h
theorem aC {p:Prop}(h:p:=by unfold wrap64;omega):p:=h
theorem aD {p:Prop}(h:p:=by simp [Value.oneCell']):p:=h
theorem aE {p:Prop}(h:p:=by first | rfl | trivial):p:=h
theorem aJ {p:Prop}(h:p:=by unfold bO;omega):p:=h
theorem aK {p:Prop}(h:p:=by simp [bN]):p:=h
theorem aM {p:Prop}(h:p:=by rw [List.length_take];omega):p:=h
theorem aN {p:Prop}(h:p:=by rw [List.length_append];omega):p:=h
theorem aO {p:Prop}(h:p:=by simp only [List.length_singleton];omega):p:=h
theorem aP {p:Prop}(h:p:=by simp only [List.length_singleton];unfold maxLen;omega):p:=h
theorem aQ {p:Prop}(h:p:=by rw [List.length_map];omega):p:=h
theorem aR {p:Prop}(h:p:=by simp [results,Tryz.results26,go_sem]):p:=h
theorem aS {p:Prop}(h:p:=by simp [Act.eval,Act.put]):p:=h
theorem aT {p:Prop}(h:p:=by simp only [Nat.min_def];split <;> omega):p:=h
theorem aU {p:Prop}(h:p:=by have:=ok.bQ;omega):p:=h
abbrev aW (n:Nat)(v:Value)(_:World):Nat:=n-(intOf v).toNat
theorem aV {p:Prop}(h:p:=by first|(simp [aW,intOf];omega)|(simp [aW,Go.RowKit.intOf];omega)):p:=h
theorem aF {p:Prop}(h:p:=by assumption):p:=h
theorem aG {p q:Prop}(h:q)(g:q→p:=by intro h;simpa using h):p:=g h
theorem aH {α:Sort _}(a:α):∃x,a=x:=⟨a,rfl⟩
def ya:=@if_neg
def yc:=@if_pos
def ym:=@congrArg
def xp:=@beq_eq_false_iff_ne
def wb:=@bodyPost_ret
def wm:=@info_parts
def xl:=@absurd
def bW:=@Nat.le_trans
def cO:=@List.length_append
def bL:=@Nat.le_refl
def dG:=@List.getElem?_eq_getElem
def dy:=@List.getD_eq_getElem?_getD
def cR:=@List.length_map
def ch:=@And.intro
def cZ:=@List.getElem_mem
def bM:=@Go.RowKit.Below.refl
def dx:=@List.length_take
def fj:=@List.take_succ_eq_append_getElem
def cH:=@Nat.zero_le
def bS:=@Or.inl
def eN:=@List.length_singleton
def eU:=@List.take_of_length_le
def iX:=@Go.WideShapes.add_plain
def fc:=@List.length_drop
def gK:=@List.length_filterMap_le
def ci:=@Or.inr
def eW:=@List.getElem_of_mem
def fz:=@List.append_assoc
def jd:=@List.setIfInBounds_toArray
def Fy:=@List.mem_map
def fV:=@Go.RowKit.Below.heap_setCell
def eu:=@List.map_cons
def xq:=@List.mem_append
def lB:=@List.eq_nil_of_length_eq_zero
def je:=@List.mem_cons
def jr:=@List.getElem_cons_zero
def iN:=@Nat.lt_of_lt_of_le
def iG:=@List.mem_cons_self
def gL:=@List.length_cons
def lT:=@Nat.mul_le_mul_right
def ic:=@List.take_length
def iO:=@List.set_cons_zero
def iP:=@List.set_cons_succ
def gI:=@Go.IntWalk.i64_in
def fA:=@Nat.lt_or_ge
def jS:=@List.mem_cons_of_mem
def jT:=@List.any_eq_true
def fW:=@Nat.zero_add
def ada:=@List.getElem?_eq_some_iff
def ix:=@List.append_nil
def acY:=@List.mem_filterMap
def lC:=@List.getElem_append_left
def ii:=@List.sum_cons
def gg:=@Nat.add_zero
def li:=@List.getElem?_toArray
def pz:=@List.getElem?_take
def mN:=@List.size_toArray
def gD:=@Nat.mul_one
def jE:=@List.length_nil
def om:=@List.getElem?_append_left
def mO:=@List.length_filter_le
def pA:=@List.getElem_append_right
def tU:=@List.mem_filter
def jf:=@List.map_append
def lj:=@List.getElem_map
def tV:=@Go.World.cell?_of_block
def AW:=@List.pairwise_iff_getElem
def ll:=@Nat.min_eq_left
def jF:=@Go.IntWalk.wrap64_in
def qT:=@Array.getElem?_eq_none
def qU:=@List.getElem?_append_right
def oq:=@List.length_replicate
def mP:=@List.any_eq_false
def tW:=@List.mem_of_mem_drop
def mQ:=@Go.World.ownsRow_nil
def lU:=@List.nil_append
def ou:=@Go.World.ownsRow_made
def rR:=@List.drop_eq_getElem_cons
def kH:=@Int.lt_or_le
def qj:=@List.getElem_cons_succ
def js:=@List.length_set
def mR:=@List.ext_getElem?
def qV:=@Nat.div_lt_iff_lt_mul
def xt:=@Array.getElem?_setIfInBounds_ne
def rT:=@List.mem_or_eq_of_mem_set
def pB:=@Option.getD_some
def qk:=@List.not_mem_nil
def rU:=@Go.RowKit.Below.heap_alloc
def ke:=@List.getElem?_map
def rV:=@List.take_append_drop
def xu:=@Array.getElem?_setIfInBounds
def AY:=@List.getElem?_drop
def rW:=@List.mem_of_mem_take
def qW:=@Bool.and_eq_true
def Fz:=@Array.getElem?_eq_some_iff
def rX:=@List.foldl_append
def lD:=@List.map_map
def qX:=@List.foldl_cons
def uS:=@List.set_append_right
def pC:=@List.getElem?_eq_none
def tX:=@Nat.eq_zero_or_pos
def rY:=@List.cons_append
def FA:=@List.take_append_of_le_length
def uT:=@Array.replicate_zero
def uU:=@Array.replicate_succ
def xv:=@Go.World.putObj_heap_other
def pD:=@Nat.succ_mul
def pE:=@Nat.le_of_lt
def nH:=@List.map_nil
def FC:=@List.mem_range
def uV:=@List.append_toArray
def yM:=@Nat.mul_lt_mul_of_pos_right
def xw:=@List.drop_of_length_le
def tY:=@List.getElem_set
def jG:=@List.ext_getElem
def tZ:=@Nat.lt_of_le_of_lt
def ub:=@Int.natCast_nonneg
def xy:=@List.length_mergeSort
def xz:=@List.filterMap_append
def xA:=@List.countP_le_length
def AZ:=@Nat.min_def
def pF:=@Nat.add_mul
def uW:=@List.push_toArray
def xB:=@List.nodup_append
def uX:=@List.getElem_take
def ql:=@Nat.mul_comm
def uY:=@List.filterMap_cons
def yN:=@Int.eq_ofNat_of_zero_le
def qm:=@Nat.mul_le_mul
def ud:=@Int.mul_nonneg
def A0:=@List.pairwise_cons
def kh:=@Int.le_refl
def uZ:=@Nat.le_antisymm
def nI:=@Nat.mod_lt
def rZ:=@List.length_range
def sd:=@List.getElem?_set
def xC:=@List.flatMap_cons
def xD:=@Int.toNat_natCast
def acZ:=@List.nodup_iff_pairwise_ne
def xE:=@Go.IntWalk.i64_left
def sf:=@Nat.one_mul
def yO:=@Nat.mul_le_mul_left
def qY:=@List.replicate_succ
def xF:=@List.length_zipWith
def ue:=@Nat.sub_self
def yP:=@Nat.add_sub_cancel
def yQ:=@List.filter_append
def si:=@List.zipWith_cons_cons
def FD:=@Nat.sub_mul
def yR:=@List.pairwise_map
def mi:=@Nat.ne_of_lt
def adb:=@Int.ofNat_lt
def adc:=@Int.ofNat_le
def xG:=@List.getElem_set_self
def Ba:=@Array.getElem?_modify
def yS:=@Nat.le_of_not_lt
def yT:=@List.nodup_range
def FE:=@List.mem_flatMap
def FF:=@Int.mul_le_mul_of_nonneg_left
def vy:=@List.mem_of_getElem?
def vz:=@List.getElem_zipWith
def Bb:=@Bool.or_eq_false_iff
def yU:=@Nat.not_lt_zero
def xH:=@List.range_succ
def vA:=@List.getElem?_range
def FG:=@List.perm_ext_iff_of_nodup
end Go.Proofs.YtmhohaanddglbaaGreatDoor
namespace Go.Proofs.YtmhohaanddglbaaGreatDoor
open Go.RowKit Go.Proofs.Tryz ZA ZU ZI ZD ZP ZR ZT ZS ZE ZO
variable{p:Prop}
def Qah(h:p:=by intro j y h b _;have u:Bw w y:=aI.grown b au (fun k hk=>by simp[Value.ownBlock]at hk;omega);clear b;go_wp2;go_ret;exact⟨_,rfl,h,u⟩):p:=h
def Qar(h:p:=by go_wp2;go_ret;exact⟨_,rfl,⟨rfl,bS ⟨rfl,rfl⟩⟩,bM _ _⟩):p:=h
def Qax(h:p:=by
  have d:=L.find a D (dN enc D) w (uj enc D);have X:=run_underlying hT;unfold et ew at h;unfold Instr.lookup;simp only[Sem.run_bind,X,Result.andThen,getObj,Sem.run,h,L.check,d];have o:Sem.run prog (pure (dN enc D).toArray) w=.ok (dN enc D).toArray w:=rfl;simp only[o];rw[d];cases hl:look a D 0 with
  |none=>simp[hz]
  |some p=>obtain⟨i,v⟩:=p;simp):p:=h
def QaG(h:p:=by go_enter func224,ntmps224;go_wp2_with(first|(go_at_call 279;refine(Bl k _).bC ?_;rintro e i⟨rfl,rfl⟩;rw[u.o])|(go_at_call 176;refine(za ms _).bC ?_;rintro e i⟨rfl,rfl⟩;rw[D]));go_ret2;exact⟨by rw[I.o];rfl,rfl⟩):p:=h
def QaH(h:p:=by exact⟨a.os,a.tape,a.output,a.size,a.block⟩):p:=h
def Qa1(h:p:=by exact⟨f.os,f.tape,f.output,f.size,f.block⟩):p:=h
def Qa3(h:p:=by clear h c;go_enter func166,ntmps166;go_wp2_with fail;refine(yW a b ha hb _).bC ?_;rintro e i⟨rfl,rfl⟩;rw[S.o];go_wp2;go_ret;exact⟨by rw[Q.o];rfl,rfl⟩):p:=h
def Qbb(h:p:=by
  go_wp2
  all_goals(go_ret;refine⟨xT ?_,rfl⟩;simp[gN, *])
  all_goals omega):p:=h
def Qbc(h:p:=by go_wp2_with(go_at_call 130;refine(zc _ _ _ _).bC ?_;rintro e y⟨rfl,rfl⟩;first|rw[D.o]|rw[f.o]);go_roundw;exact⟨k+1,af,aw,z⟩;exact aV):p:=h
def Qbz(h:p:=by clear U s;let⟨u3,D,k⟩:=Jt3 underlying3 isAgg3 sizeOf3;go_simp;by_cases d:n=z<;>by_cases c:f=t<;>simp[d,c]):p:=h
def QbA(h:p:=by go_enter func204,ntmps204;go_wp2;go_ret2;exact⟨rfl,rfl⟩):p:=h
def QbB(h:p:=by go_enter func281,ntmps281;go_wp2;go_ret2;exact⟨rfl,rfl⟩):p:=h
def QbE(h:p:=by go_enter func176,ntmps176;go_wp2;go_ret;exact⟨rfl,rfl⟩):p:=h
def QbF(h:p:=by go_enter func279,ntmps279;go_wp2;go_ret;exact⟨rfl,rfl⟩):p:=h
def QbH(h:p:=by go_wp2_with fail;refine(vH _ _ _ _).bC ?_;rintro e y⟨rfl,rfl⟩;rw[B.o];go_wp2;go_ret;exact⟨rfl,g⟩):p:=h
def QbJ(h:p:=by rename_i r;clear r i U b;go_wp2;go_ret2;exact⟨rfl,z⟩):p:=h
def Qb2(h:p:=by simp[Value.ownBlock]):p:=h
def Qb6(h:p:=by unfold Instr.keyThatStays;simp[Instr.sameBits]):p:=h
def Qcv(h:p:=by go_enter func283,ntmps283;go_wp2;go_ret;exact⟨by rw[<-O.o];rfl,rfl⟩):p:=h
def QcB(h:p:=by
  rcases hat with hat|hat
  ·exact bS hat
  ·exact ci ⟨_,bL _,hat⟩):p:=h
def QcI(h:p:=by rw[<-h.len];exact p):p:=h
def QcW(h:p:=by rw[q];omega):p:=h
def Qdl(h:p:=by simp[results,results112,go_sem]):p:=h
def Qdm(h:p:=by simp[results,results144,go_sem]):p:=h
def bI(w:World)(g:Nat)(T:TypeId)(cs:Array Value):Prop:=w.heap[g]?=some (.cells cs T (0,0))
variable{w:bD}{g:Nat}{T:TypeId}{cs:Array bE}
def bI.lt(h:bI w g T cs):g<w:=by
 unfold bI at h;rcases fA g w with h'|h'
 ·exact h'
 ·simp[qT h']at h
def bI.c(h:bI w g T cs)(j:Nat):w.cell? (g,j)=cs[j]?:=by unfold bI at h;simp[World.cell?,h]
def bI.k2(h:bI w g T cs)(i j:Nat):w.cell? (g,i)=cs[i]?/\w.cell? (g,j)=cs[j]?:=⟨h.c i,h.c j⟩
def bI.k3(h:bI w g T cs)(i j k:Nat):w.cell? (g,i)=cs[i]?/\w.cell? (g,j)=cs[j]?/\w.cell? (g,k)=cs[k]?:=⟨h.c i,h.c j,h.c k⟩
def bI.k4(h:bI w g T cs)(i j k l:Nat):w.cell? (g,i)=cs[i]?/\w.cell? (g,j)=cs[j]?/\w.cell? (g,k)=cs[k]?/\w.cell? (g,l)=cs[l]?:=⟨h.c i,h.c j,h.c k,h.c l⟩
def bI.k5(h:bI w g T cs)(i j k l m:Nat):w.cell? (g,i)=cs[i]?/\w.cell? (g,j)=cs[j]?/\w.cell? (g,k)=cs[k]?/\w.cell? (g,l)=cs[l]?/\w.cell? (g,m)=cs[m]?:=⟨h.c i,h.c j,h.c k,h.c l,h.c m⟩
def bI.k6(h:bI w g T cs)(i j k l m n:Nat):w.cell? (g,i)=cs[i]?/\w.cell? (g,j)=cs[j]?/\w.cell? (g,k)=cs[k]?/\w.cell? (g,l)=cs[l]?/\w.cell? (g,m)=cs[m]?/\w.cell? (g,n)=cs[n]?:=⟨h.c i,h.c j,h.c k,h.c l,h.c m,h.c n⟩
def bI.k8(h:bI w g T cs)(i j k l m n o p:Nat):w.cell? (g,i)=cs[i]?/\w.cell? (g,j)=cs[j]?/\w.cell? (g,k)=cs[k]?/\w.cell? (g,l)=cs[l]?/\w.cell? (g,m)=cs[m]?/\w.cell? (g,n)=cs[n]?/\w.cell? (g,o)=cs[o]?/\w.cell? (g,p)=cs[p]?:=⟨h.c i,h.c j,h.c k,h.c l,h.c m,h.c n,h.c o,h.c p⟩
def bI.free(h:bI w g T cs)(j:Nat):w.frozen? (g,j)=false:=by unfold bI at h;simp[World.frozen?,h]
def bI.new(w:bD)(T:TypeId)(cs:Array bE):bI (aZ w cs T) w T cs:=heap_alloc_new _ _
def bI.alloc(h:bI w g T cs)(o:Obj):bI (w.alloc o) g T cs:=(rU w o g h.lt).bu h
variable{w':bD}
def bI.keep(h:bI w g T cs)(hb:Bw w w'):bI w' g T cs:=(hb.block g h.lt).bu h
def bI.set(h:bI w g T cs)(i:Nat)(v:bE):bI (w.setCell (g,i) v) g T (cs.setIfInBounds i v):=heap_setCell_same w g i cs T v h
variable{k:Nat}
def bI.far(h:bI w g T cs)(i:Nat)(v:bE)(hk:g≠k):bI (w.setCell (k,i) v) g T cs:=(fV w (k,i) v g hk).bu h
structure ec(S:List Nat)(w w':World):Prop where
 os:w'.os=w.os
 tape:w'.tape=w.tape
 output:w'.output=w.output
 size:w.heap.size<=w'
 far:∀k,k<w.heap.size->k∉S->w'.heap[k]?=w.heap[k]?
def ec.refl(S:bF Nat)(w:bD):ec S w w:=⟨rfl,rfl,rfl,bL _,fun _ _ _=>rfl⟩
variable{S:bF Nat}
def ec.trans{u v:bD}(h:ec S u v)(k:ec S v w):ec S u w:=⟨k.os.bu h.os,k.tape.bu h.tape,k.output.bu h.output,bW h.size k.size,fun i hi hb=>(k.far i (iN hi h.size) hb).bu (h.far i hi hb)⟩
def ec.bu:=@ec.trans
def ec.below(h:Bw w w'):ec S w w':=⟨h.os,h.tape,h.output,h.size,fun k hk _=>h.block k hk⟩
def ec.drew(h:ec S w w'):ec S w w'.drew:=⟨h.os,h.tape,h.output,h.size,h.far⟩
def ec.alloc(h:ec S w w')(o:Obj):ec S w (w'.alloc o):=h.bu (ec.below aI)
def ec.set(h:ec S w w')(g i:Nat)(v:bE)(hg:g∈S∨w.heap.size<=g):ec S w (w'.setCell (g,i) v):=
 ⟨h.os,h.tape,h.output,by simpa[World.setCell]using h.size,fun k hk hb=>(fV w' (g,i) v k (by
  rintro rfl;rcases hg with hg|hg
  ·exact hb hg
  ·omega)).bu (h.far k hk hb)⟩
variable{w0:bD}
def ec.low(h:ec S w w')(hb:Bw w0 w)(hS:∀k∈S,w0.heap.size<=k):Bw w0 w':=⟨h.os.bu hb.os,h.tape.bu hb.tape,h.output.bu hb.output,bW hb.size h.size,fun k hk=>(h.far k (iN hk hb.size) (fun hm=>by have:=hS k hm;omega)).bu (hb.block k hk)⟩
def Sl{α:Type}(enc:α->List Value)(k:Nat)(W:World)(v:Value)(l:List α):Prop:=∃a cap,v=.slice a l.length cap/\(a=none->cap=0)/\l.length<=cap/\cap<=maxLen/\(0<l.length->∃b off,a=some ⟨b,off,none⟩/\b<W.heap.size/\∀i (h:i<l.length) j x,(enc l[i])[j]?=some x->W.cell? ⟨b,off+i*k+j,none⟩=some x)
variable{W:bD}{a:Option Addr}{n:Nat}
def Sl.hd{α:Type}{enc:α->bF bE}{c:Nat}{l:bF α}(h:Sl enc k W (.slice a n c) l)(h0:0<l.length:=by omega):l.length<=c/\c<=maxLen/\∃b off,a=some ⟨b,off,none⟩/\b<W.heap.size/\∀i (h:i<l.length) j x,(enc l[i])[j]?=some x->W.cell? ⟨b,off+i*k+j,none⟩=some x:=by obtain⟨Y,g,R,_,d,f,P⟩:=h;let⟨o,_,r⟩:a=Y/\n=l.length/\c=g:=aG R;subst o r;exact⟨d,f,P h0⟩
variable{W':bD}{v:bE}
def Sl.keep{α:Type}{enc:α->bF bE}{l:bF α}(h:Sl enc k W v l)(hb:Bw W W'):Sl enc k W' v l:=by obtain⟨a,U,R,H,d,g,P⟩:=h;refine⟨a,U,R,H,d,g,fun h0=> ?_⟩;let⟨b,m,ha,f,n⟩:=P h0;exact⟨b,m,ha,iN f hb.size,fun i hi j x hx=>(hb.c (p:=(b,m+i*k+j)) f).bu (n i hi j x hx)⟩
def Sl.nil{α:Type}(enc:α->bF bE)(k:Nat)(W:bD):Sl enc k W bd []:=⟨none,0,rfl,fun _=>rfl,au,az,fun h=>by simp at h⟩
def bN{α:Type}(enc:α->List Value)(l:List α):List Value:=(l.map enc).flatten
def ox{α:Type}(enc:α->bF bE)(l m:bF α):bN enc (l++m)=bN enc l++bN enc m:=aK
def ik{α:Type}(enc:α->bF bE)(k:Nat)(hk:∀x,(enc x).length=k)(l:bF α):(bN enc l).length=l.length*k:=by
 induction l with
 |nil=>simp[bN]
 |cons c l ih=>
  simp only[bN,eu,List.flatten_cons,cO,gL]at ih⊢;rw[ih,hk,pF,sf,Nat.add_comm]
def Bc{α:Type}(enc:α->bF bE)(k:Nat)(hk:∀x,(enc x).length=k)(l:bF α):∀(i:Nat) (h:i<l) (j:Nat),j<k->(bN enc l)[i*k+j]?=(enc l[i])[j]?:=by
 induction l with
 |nil=>intro i h;simp at h
 |cons c l ih=>
  intro i h j J;have P:bN enc (c::l)=enc c++bN enc l:=aK;rw[P];cases i with
  |zero=>rw[om (by rw[hk];omega)];simp
  |succ i=>
   have e:(i+1)*k=i*k+k:=by rw[pF,sf]
   rw[qU (by rw[hk,e];omega)];have:=ih i (aG h) j J
   rw[show(i+1)*k+j-(enc c).length=i*k+j from by rw[hk,e];omega,this];rfl
def Sl.own{α:Type}{enc:α->bF bE}{base:Nat}{l:bF α}(hk:∀x,(enc x).length=k)(h:W.ownsRow base T k v l.length (bN enc l)):Sl enc k W v l:=by
 obtain⟨S,R⟩:=h;rcases R with⟨rfl,h0⟩|⟨g,cap,cur,rfl,_,hg,h1,h2,h3,h4⟩
 ·exact⟨none,0,by rw[h0],fun _=>rfl,af,az,fun h=>af⟩
 ·refine⟨some (be g 0),cap,rfl,(fun h=>by cases h),h1,h2,fun h0=>⟨g,0,rfl, ?_,fun i hi j x hx=> ?_⟩⟩
  ·rcases fA g W.heap.size with h'|h'
   ·exact h'
   ·simp[qT h']at hg
  ·have J:j<k:=by rw[<-hk l[i]];exact(ada.1 hx).1
   have o:=Bc enc k hk l i hi j J;have a:i*k+j<l.length*k:=by
    have:i*k+k<=l.length*k:=by rw[<-pD];exact lT k hi
    omega
   rw[<-h4,pz,yc a,hx]at o;rw[<-o,fW];simp[World.cell?,hg]
variable{e:TypeId}{size:Nat}{xs:bF bE}
def vB{base:Nat}(h:w.ownsRow base e size v n xs):∀k,v.ownBlock=some k->base<=k:=fun k hk=>(h.lt k hk).1
def ed{base:Nat}(h:w.ownsRow base e size v n xs)(hk:∀g,v.ownBlock=some g->w'.heap[g]?=w.heap[g]?):w'.ownsRow base e size v n xs:=by
 obtain⟨d,c⟩:=h;refine⟨d, ?_⟩;rcases c with c|⟨g,cap,cur,rfl,hg,hh,r⟩
 ·exact bS c
 ·exact ci ⟨g,cap,cur,rfl,hg,(hk g rfl).bu hh,r⟩
def cJ{base:Nat}(h:w.ownsRow base e size v n xs)(hb:Bw w w'):w'.ownsRow base e size v n xs:=ed h fun g hg=>hb.block g (h.lt g hg).2
variable{B:Nat}
def d8{base:Nat}(h:w.ownsRow base e size v n xs)(hb:B<=base):w.ownsRow B e size v n xs:=by
 obtain⟨d,c⟩:=h;refine⟨d, ?_⟩;rcases c with c|⟨g,cap,cur,hv,hg,r⟩
 ·exact bS c
 ·exact ci ⟨g,cap,cur,hv,bW hb hg,r⟩
def eI(n:Int):List Value:=[n]
variable{l:bF Int}
def Sl.oy(h:Sl eI 1 W v l):∃a cap,v=.slice a l.length cap/\l.length<=cap/\cap<=maxLen/\(0<l.length->∃b off,a=some ⟨b,off,none⟩/\b<W.heap.size/\∀i (h:i<l.length),W.cell? ⟨b,off+i,none⟩=some (.int .i64 l[i])):=by
 obtain⟨a,cap,R,_,d,c,P⟩:=h;refine⟨a,cap,R,d,c,fun h0=> ?_⟩;let⟨b,off,ha,f,n⟩:=P h0;refine⟨b,off,ha,f,fun i hi=> ?_⟩;have:=n i hi 0 (.int .i64 l[i]) rfl
 rwa[gD,gg]at this
def bO(n:Int):Prop:=-9223372036854775808<=n/\n<=9223372036854775807
instance(n:Int):Decidable (bO n):=by unfold bO;infer_instance
def dT{p:Prop} [Decidable p](h:p):decide p=true:=decide_eq_true h
def dF{p:Prop} [Decidable p](h:¬p):decide p=false:=decide_eq_false h
def gM(h:Below n w w')(k:Nat):Below n w (w'.drewN k):=⟨h.1,h.2,h.3,h.4,h.5⟩
variable{cap:Nat}
def Sl.oz{α:Type}{enc:α->bF bE}{ad:Addr}{l:bF α}(hk:∀x,(enc x).length=k)(h0:0<k)(h:Sl enc k W (.slice (some ad) l.length cap) l):
  ∀j u,(bN enc l)[j]?=some u->W.cell? (ad.add j)=some u:=by
 intro j u X;obtain⟨a,z,R,_,_,_,P⟩:=h;obtain⟨rfl,_,_⟩:a=some ad/\l.length=l.length/\cap=z:=by
  simp at R;exact⟨R.1.symm,rfl,R.2⟩
 have J:j<l.length*k:=by rw[<-ik enc k hk l];exact(ada.1 X).1
 have p:j/k<l.length:=by rw[qV h0];exact J
 let⟨b,m,ha,_,n⟩:=P (tZ (cH _) p);obtain rfl:ad=⟨b,m,none⟩:=aG ha;have Z:j%k<k:=nI _ h0;have e:=Bc enc k hk l (j/k) p (j%k) Z;have c:j/k*k+j%k=j:=by rw[ql];exact Nat.div_add_mod j k
 rw[c,X]at e;have:=n (j/k) p (j%k) u e.symm
 rw[iX,<-c,<-Nat.add_assoc];exact this
def dK(n:Int):Int×Int:=if bO n then(n,0)else(0,2)
def uf{n:Int}(h:bO n):dK n=(n,0):=by unfold dK;rw[yc h]
def xI{n:Int}(h:¬bO n):dK n=(0,2):=by unfold dK;rw[ya h]
def yV{a b c d:Int}(h:(a,b)=(c,d)):Ending.returned (.tuple #[a,b])=.returned (.tuple #[c,d]):=by obtain⟨rfl,rfl⟩:=Prod.mk.inj h;rfl
def FH{n:Int}(h:9223372036854775807<n)(h2:n<=27670116110564327423):wrap64 n=n-18446744073709551616:=aC
def FI{n:Int}(h:n< -9223372036854775808)(h2:-27670116110564327424<=n):wrap64 n=n+18446744073709551616:=aC
def Be(a b:Int)(ha:bO a)(hb:bO b)(w:bD):bG 281 #[a,b] w fun e w'=>e=.returned (bg (dK (a+b)))/\w=w':=by
 by_cases h:bO (a+b)
 ·rw[uf h];unfold bO at ha hb h;obtain⟨d,c⟩:=h;rcases kH a 0 with ga|ga<;>rcases kH b 0 with gb|gb<;>rcases kH (a+b) 0 with gc|gc
  all_goals first
   |(exfalso;omega)
   |(have f:decide (a<0)=true:=dT ga);(have m:decide (b<0)=true:=dT gb);(have v:decide (a+b<0)=true:=dT gc)
   |(have f:decide (a<0)=false:=dF af);(have m:decide (b<0)=false:=dF af);(have v:decide (a+b<0)=false:=dF af)
   |(have f:decide (a<0)=true:=dT ga);(have m:decide (b<0)=false:=dF af)
   |(have f:decide (a<0)=false:=dF af);(have m:decide (b<0)=true:=dT gb)
  all_goals
   exact QbB
 ·rw[xI h];unfold bO at ha hb h;rcases kH a 0 with ga|ga<;>rcases kH b 0 with gb|gb
  ·have T:wrap64 (a+b)=a+b+18446744073709551616:=FI af af;have f:decide (a<0)=true:=dT ga;have m:decide (b<0)=true:=dT gb;have v:decide (a+b+18446744073709551616<0)=false:=dF af;exact QbB
  ·exfalso;omega
  ·exfalso;omega
  ·have T:wrap64 (a+b)=a+b-18446744073709551616:=FH af af;have f:decide (a<0)=false:=dF af;have m:decide (b<0)=false:=dF af;have v:decide (a+b-18446744073709551616<0)=true:=dT af;exact QbB
def yW(a b:Int)(ha:bO a)(hb:bO b)(w:bD):bG 204 #[a,b] w fun e w'=>e=.returned (bg (dK (a-b)))/\w=w':=by
 by_cases h:bO (a-b)
 ·rw[uf h];unfold bO at ha hb h;obtain⟨d,c⟩:=h;rcases kH a 0 with ga|ga<;>rcases kH b 0 with gb|gb<;>rcases kH (a-b) 0 with gc|gc
  all_goals first
   |(exfalso;omega)
   |(have f:decide (a<0)=true:=dT ga);(have m:decide (b<0)=true:=dT gb)
   |(have f:decide (a<0)=false:=dF af);(have m:decide (b<0)=false:=dF af)
   |(have f:decide (a<0)=true:=dT ga);(have m:decide (b<0)=false:=dF af);(have v:decide (a-b<0)=true:=dT gc)
   |(have f:decide (a<0)=false:=dF af);(have m:decide (b<0)=true:=dT gb);(have v:decide (a-b<0)=false:=dF af)
  all_goals
   exact QbA
 ·rw[xI h];unfold bO at ha hb h;rcases kH a 0 with ga|ga<;>rcases kH b 0 with gb|gb
  ·exfalso;omega
  ·have T:wrap64 (a-b)=a-b+18446744073709551616:=FI af af;have f:decide (a<0)=true:=dT ga;have m:decide (b<0)=false:=dF af;have v:decide (a-b+18446744073709551616<0)=false:=dF af;exact QbA
  ·have T:wrap64 (a-b)=a-b-18446744073709551616:=FH af af;have f:decide (a<0)=false:=dF af;have m:decide (b<0)=true:=dT gb;have v:decide (a-b-18446744073709551616<0)=true:=dT af;exact QbA
  ·exfalso;omega
def sj(a:Int)(ha:bO a)(w:bD):bG 312 #[a] w fun e w'=>e=.returned (bg (dK (-a)))/\w=w':=by go_enter func312,ntmps312;go_wp2_with fail;refine(yW 0 a aJ ha _).bC ?_;rintro e i⟨rfl,rfl⟩;rw[Int.zero_sub];go_wp2;go_ret2;exact⟨rfl,rfl⟩
def jt(a b:Int):Int:=if a<=b then 0 else if bO (a-b)then a-b else 9223372036854775807
def xJ(a b:Int)(ha:bO a)(hb:bO b)(w:bD):bG 166 #[a,b] w fun e w'=>e=.returned (jt a b)/\w=w':=by
 by_cases h:a<=b
 ·have l:decide (a<=b)=true:=dT h;have Q:Hid (jt a b=0):=aa (by unfold jt;rw[yc h]);clear h;go_enter func166,ntmps166;go_wp2;go_ret;exact⟨by rw[Q.o];rfl,rfl⟩
 ·have l:decide (a<=b)=false:=dF h;by_cases c:bO (a-b)
  ·have Q:Hid (jt a b=a-b):=aa (by unfold jt;rw[ya h,yc c]);have S:=aa (uf c);exact Qa3
  ·have Q:Hid (jt a b=9223372036854775807):=aa (by unfold jt;rw[ya h,ya c]);have S:=aa (xI c);exact Qa3
def FJ(x y c:Int)(hx:0<=x)(hy:0<=y)(hc:0<=c)(hc1:c<=1)(w:bD):(callFunc 286 #[aX x,aX y,aX c]).run prog w=.ok (.value (.tuple #[aX ((x+y+c)%18446744073709551616),aX ((x+y+c)/18446744073709551616)])) w:=by rw[run_callFunc_extern func286 aj aj aj (e:=add64Entry) aj,run_add64 x y c hx hy hc hc1];rfl
def vC(a:Int)(ha:bO a)(w:bD):bG 283 #[a] w fun e w'=>e=.returned (aX (a.natAbs:Nat))/\w=w':=by
 unfold bO at ha;obtain⟨d,c⟩:=ha;by_cases h:a<0
 ·have l:decide (a<0)=true:=dT h;have O:Hid (IntKind.u64.wrap (-IntKind.u64.wrap a)=(a.natAbs:Nat)):=aa (by simp[IntKind.wrap,IntKind.signed,IntKind.bits];omega);exact Qcv
 ·have l:decide (a<0)=false:=dF h;have O:Hid (a=(a.natAbs:Nat)):=aa af;exact Qcv
def MA(a:Int)(ha:bO a)(p q:Nat)(lo hi:Int)(l0:0<=lo)(l1:lo<18446744073709551616)(k0:0<=hi)(k1:hi<18446744073709551616)(hpq:p≠q)(w:bD)(h1:w.cell? (be p 0)=some (.int .u64 lo))(h2:w.cell? (be q 0)=some (.int .u64 hi))(f1:w.frozen? (be p 0)=false)(f2:w.frozen? (be q 0)=false):bG 285 #[a,.pointer (some (be p 0)),.pointer (some (be q 0))] w fun e w'=>e=.returned (.tuple #[])/\w'=(w.setCell (be p 0) (aX ((lo+a)%18446744073709551616))).setCell (be q 0) (aX ((hi+(lo+a)/18446744073709551616)%18446744073709551616)):=by
 unfold bO at ha;obtain⟨n,i⟩:=ha;let⟨U,C⟩:=aH (IntKind.u64.wrap a);have Z:0<=U/\U<18446744073709551616/\(lo+U)%18446744073709551616=(lo+a)%18446744073709551616:=by
  rw[<-C];simp[IntKind.wrap,IntKind.signed,IntKind.bits];omega
 obtain⟨k,v,T⟩:=Z;have s:=fun W=>FJ lo U 0 l0 k af af W;rw[Int.add_zero,T]at s;have c:0<=(lo+U)/18446744073709551616/\(lo+U)/18446744073709551616<=1:=af;let⟨f,b⟩:=aH (IntKind.u64.wrap (a/9223372036854775808));have L:0<=f/\(hi+f+(lo+U)/18446744073709551616)%18446744073709551616=(hi+(lo+a)/18446744073709551616)%18446744073709551616:=by
  have o:U=a%18446744073709551616:=by rw[<-C];simp[IntKind.wrap,IntKind.signed,IntKind.bits]
  have r:f=(a/9223372036854775808)%18446744073709551616:=by rw[<-b];simp[IntKind.wrap,IntKind.signed,IntKind.bits]
  clear C b s T c h1 h2 f1 f2 hpq;rcases kH a 0 with g|g
  ·have E:a/9223372036854775808=-1:=af;have H:U=a+18446744073709551616:=af;have B:f=18446744073709551615:=by rw[r,E];decide
   have N:(lo+U)/18446744073709551616=(lo+a)/18446744073709551616+1:=by rw[H];omega
   rw[B,N];clear o r E H B N;generalize(lo+a)/18446744073709551616=t
   omega
  ·have E:a/9223372036854775808=0:=af;have H:U=a:=af;have B:f=0:=by rw[r,E];decide
   rw[B,H];clear o r E H B;generalize(lo+a)/18446744073709551616=t
   omega
 obtain⟨h,I⟩:=L;have P:=fun W=>FJ hi f ((lo+U)/18446744073709551616) k0 h c.1 c.2 W;rw[I]at P;have d:q≠p:=Ne.symm hpq;clear I T c;have x:(w.setCell (be p 0) (aX ((lo+a)%18446744073709551616))).cell? (be q 0)=some (.int .u64 hi):=by rw[<-h2];refine tV (w:=w) ?_;exact fV _ _ _ _ d
 have M:(w.setCell (be p 0) (aX ((lo+a)%18446744073709551616))).frozen? (be q 0)=false:=by rw[<-f2];refine World.frozen?_of_block (w:=w) ?_;exact fV _ _ _ _ d
 go_enter func285,ntmps285;go_wp2;go_end0;exact⟨rfl,rfl⟩
def cd(l:List Int):Int:=l.sum
def du(l:List Int):Int×Int:=dK (cd l)
def ep(l:List Int):Prop:=∀n∈l,bO n
def xK(h:k<l):cd (l.take (k+1))=cd (l.take k)+l[k]:=by unfold cd;rw[fj h,List.sum_append];simp
def MB(l:bF Int)(h:ep l):-9223372036854775808*(l:Int)<=cd l/\cd l<=9223372036854775808*(l:Int):=by
 induction l with
 |nil=>simp[cd]
 |cons a l ih=>
  have d:=h a au;have c:=ih (fun n hn=>h n (by simp[hn]));unfold bO at d;simp only[cd,ii,gL]at c⊢;push_cast
  omega
structure Bf(l:List Int)(w wr:World)(k:Nat):Prop where
 lo:wr.heap[w.heap.size+1]?=some (.cells #[aX (cd (l.take k)%18446744073709551616)] 102 (0,0))
 hi:wr.heap[w.heap.size]?=some (.cells #[aX (cd (l.take k)/18446744073709551616%18446744073709551616)] 102 (0,0))
 low:Bw w wr
def MD{S:Int}(h:bO S):(S/18446744073709551616%18446744073709551616 !=IntKind.u64.wrap (wrap64 (S%18446744073709551616)/9223372036854775808))=false/\wrap64 (S%18446744073709551616)=S:=by
 unfold bO at h;have e:wrap64 (S%18446744073709551616)=S:=aC;refine⟨?_,e⟩;rw[e];have:IntKind.u64.wrap (S/9223372036854775808)=S/18446744073709551616%18446744073709551616:=by
  simp only[IntKind.wrap,IntKind.signed,IntKind.bits];rcases kH S 0 with g|g
  ·have E:S/9223372036854775808=-1:=af;have H:S/18446744073709551616=-1:=af;rw[E,H];decide
  ·have E:S/9223372036854775808=0:=af;have H:S/18446744073709551616=0:=af;rw[E,H];decide
 rw[this];simp
def ME{S:Int}(h:¬bO S)(h1:-9223372036854775808000000<=S)(h2:S<=9223372036854775808000000):(S/18446744073709551616%18446744073709551616 !=IntKind.u64.wrap (wrap64 (S%18446744073709551616)/9223372036854775808))=true:=by
 unfold bO at h;let⟨t,a⟩:=aH (wrap64 (S%18446744073709551616)/9223372036854775808);have P:(t=0/\S%18446744073709551616<9223372036854775808)∨(t=-1/\9223372036854775808<=S%18446744073709551616):=by
  rw[<-a];unfold wrap64;omega
 rw[a,bne_iff_ne];intro e;rcases P with⟨rfl,P⟩|⟨rfl,P⟩
 ·have:IntKind.u64.wrap 0=0:=ah
  rw[this]at e;omega
 ·have:IntKind.u64.wrap (-1)=18446744073709551615:=ah
  rw[this]at e;omega
def MF{S x:Int}{wr:bD}(hst:cd (l.take (k+1))=S+x)(hlo:wr.heap[w.heap.size+1]?=some (.cells #[aX (S%18446744073709551616)] 102 (0,0)))(hhi:wr.heap[w.heap.size]?=some (.cells #[aX (S/18446744073709551616%18446744073709551616)] 102 (0,0)))(hb:Bw w wr):
  Bf l w ((wr.setCell (be (w.heap.size+1) 0) (aX ((S%18446744073709551616+x)%18446744073709551616))).setCell (be w 0) (aX ((S/18446744073709551616%18446744073709551616+(S%18446744073709551616+x)/18446744073709551616)%18446744073709551616))) (k+1):=by
 have o:(S%18446744073709551616+x)%18446744073709551616=(S+x)%18446744073709551616:=af;have r:(S/18446744073709551616%18446744073709551616+(S%18446744073709551616+x)/18446744073709551616)%18446744073709551616=(S+x)/18446744073709551616%18446744073709551616:=by
  have:(S+x)/18446744073709551616=S/18446744073709551616+(S%18446744073709551616+x)/18446744073709551616:=af
  rw[this];generalize S/18446744073709551616=u;generalize(S%18446744073709551616+x)/18446744073709551616=t
  omega
 rw[o,r];refine⟨?_, ?_,(hb.setCell (p:=(be (w.heap.size+1) 0)) au _).setCell (p:=(be w 0)) au _⟩
 ·rw[hst,fV _ _ _ _ au];exact heap_setCell_same _ _ 0 _ 102 _ hlo
 ·rw[hst];exact heap_setCell_same _ _ 0 _ 102 _ ((fV _ _ _ _ au).bu hhi)
def mT(v:bE)(l:bF Int)(w:bD)(hv:Sl eI 1 w v l)(h64:ep l)(hn:l.length<=1000000):
  bG 230 #[v] w (bi (bg (du l)) w):=by
 obtain⟨a,U,rfl,t,d,F⟩:=hv.oy;unfold maxLen at d;let⟨A,Z⟩:=Jh2 F h64;clear F h64;have O:Bf l w ((w.alloc (bH #[aX 0] 102)).alloc (bH #[aX 0] 102)) 0:=by
  refine⟨?_, ?_,aI.alloc au _⟩
  ·exact heap_alloc2_new _ _ _
  ·exact heap_alloc2_old _ _ _
 go_enter func230,ntmps230;go_wp2_with fail;generalize((w.alloc (bH #[aX 0] 102)).alloc (bH #[aX 0] 102))=W0 at*
 go_loopw[12] (fun i wr=>∃k:Nat,k<=l.length/\i=k/\Bf l w wr k) (aW l);exact⟨0,cH _,rfl,O⟩;obtain⟨k,I,rfl,g,y,s⟩:=hrel;by_cases h:k<l
 ·obtain⟨b,m,rfl,W,n⟩:=A.o af;have H:=(s.c (p:=(b,m+k)) W).bu (n k h);have j:=Z.o l[k] (cZ h);let⟨X,T⟩:=Jh2 (xK h) j;have G:w.heap.size≠w.heap.size+1:=af;clear n j;generalize l[k]=x at*;let⟨r,z⟩:=Jh2 g y;clear g y;generalize cd (l.take k)=S at*;go_wp2_with fail;refine(MA x T.o (w.heap.size+1) w (S%18446744073709551616) (S/18446744073709551616%18446744073709551616) af af af af af _ (bI.c r.o 0) (bI.c z.o 0) (bI.free r.o 0) (bI.free z.o 0)).bC ?_;rintro e J⟨rfl,rfl⟩;have R:=aa (MF X.o r.o z.o s);generalize((wr.setCell _ _).setCell _ _)=W2 at*
  clear r z s H;go_wp2;go_roundw;exact⟨k+1,af,aw,R.o⟩;exact aV
 ·rw[eU af]at g y;have B:=MB l Z.o;have f:=bI.c g 0;have E:=bI.c y 0;by_cases K:bO (cd l)
  ·let⟨q,u⟩:=MD K;rw[u]at q;have D:=aa u;have C:Hid (du l=(cd l,0)):=aa (uf K);clear K B g y;generalize cd l=S at*;go_wp2;go_ret2;exact⟨yV (by rw[C.o];exact Prod.ext D.o rfl),s⟩
  ·have q:=ME K af af;have C:Hid (du l=(0,2)):=aa (xI K);clear K B g y;generalize cd l=S at*;go_wp2;go_ret2;exact⟨by rw[C.o];rfl,s⟩
def lE{α:Type}{enc:α->bF bE}(h:∀x,∀u∈enc x,u.oneCell'=true)(l:bF α):∀u∈bN enc l,u.oneCell'=true:=by intro u X;simp only[bN,List.mem_flatten,Fy]at X;obtain⟨_,⟨x,_,rfl⟩,X⟩:=X;exact h x u X
def ki{α:Type}(enc:α->List Value)(T:TypeId)(k:Nat)(l:List α)(w:World)(e:Ending)(w':World):Prop:=∃v,e=.returned v/\w'.ownsRow w T k v l (bN enc l)/\Bw w w'
def kI(x:Int):(eI x).length=1:=rfl
def kj(x:Int):∀u∈eI x,u.oneCell'=true:=by intro u X;simp[eI]at X;subst X;rfl
structure Mb where
 (cw cI:Int)deriving DecidableEq
abbrev sp(x:Mb):Value:=.agg #[x.cw,x.cI]
abbrev eR(x:Mb):Array Value:=#[x.cw,x.cI]
def mU(x:Mb):List Value:=[x.cw,x.cI]
def xL(x:Mb):(mU x).length=2:=rfl
def FK(x:Mb):∀u∈mU x,u.oneCell'=true:=by intro u X;simp[mU]at X;rcases X with rfl|rfl<;>rfl
def FL:(prog.info? 125).map (fun i=>(i.zero,i.size,i.bytes))=some (some (.agg #[(),()]),2,16):=aj
variable{b o:Nat}
def xM{x:Mb}(h:∀j u,(mU x)[j]?=some u->W.cell? ⟨b,o+j,none⟩=some u):W.cell? (b,o)=x.cw/\W.cell? (b,o+1)=x.cI:=by exact⟨h 0 _ rfl,h 1 _ rfl⟩
def MG(v:bE)(l:bF Mb)(w:bD)(hv:Sl mU 2 w v l)(hn:l.length<=1000000):bG 66 #[v] w (ki mU 125 2 l w):=by
 have M:=hv;obtain⟨a,U,rfl,O,d,f,g⟩:=hv;unfold maxLen at f;have K:=aa M;clear g M;let⟨J,p,S,X,q⟩:=wm FL;have F:=fun(w:bD) (a:Option Addr) (n c:Nat)=>Lib.run_eql_slice_nil (P:=prog) w 22 125 a n c 0 0 underlying22;cases a with
 |none=>
  obtain rfl:=O rfl;obtain rfl:l=[]:=lB af;go_enter func66,ntmps66;exact Qar
 |some ad=>
  let⟨A,I⟩:=Jh2 (ou (base:=w.heap.size) (e:=125) (size:=2) w #[] 0 (bL _) az rfl) (Sl.oz xL ah (K.o.keep ((bM _ _).alloc (bL _) (.cells #[] 125))));go_enter func66,ntmps66;go_wp2_with(at_builtin;refine wpList_append_own _ rfl _ _ 22 rfl w 125 J (.agg #[(),()]) 2 16 underlying22 p S X q rfl ah _ 0 [] rfl A.o ad l U (bN mU l) rfl (ik mU 2 xL l) I.o (lE FK l) ?c3 ?c4 ?c5 ?_)
  case c3=>unfold maxLen;omega
  case c4=>omega
  case c5=>simp
  exact Qah
structure Sc where
 (cF cap:Int)deriving DecidableEq
abbrev vD(x:Sc):Value:=.agg #[x.cF,x.cap]
abbrev iQ(x:Sc):Array Value:=#[x.cF,x.cap]
def mV(x:Sc):List Value:=[x.cF,x.cap]
def xN(x:Sc):(mV x).length=2:=rfl
def FN(x:Sc):∀u∈mV x,u.oneCell'=true:=by intro u X;simp[mV]at X;rcases X with rfl|rfl<;>rfl
def FO:(prog.info? 127).map (fun i=>(i.zero,i.size,i.bytes))=some (some (.agg #[(),()]),2,16):=aj
def Bg{x:Sc}(h:∀j u,(mV x)[j]?=some u->W.cell? ⟨b,o+j,none⟩=some u):W.cell? (b,o)=x.cF/\W.cell? (b,o+1)=x.cap:=by exact⟨h 0 _ rfl,h 1 _ rfl⟩
def MH(v:bE)(l:bF Sc)(w:bD)(hv:Sl mV 2 w v l)(hn:l.length<=1000000):bG 67 #[v] w (ki mV 127 2 l w):=by
 have M:=hv;obtain⟨a,U,rfl,O,d,f,g⟩:=hv;unfold maxLen at f;have K:=aa M;clear g M;let⟨J,p,S,X,q⟩:=wm FO;have F:=fun(w:bD) (a:Option Addr) (n c:Nat)=>Lib.run_eql_slice_nil (P:=prog) w 23 127 a n c 0 0 underlying23;cases a with
 |none=>
  obtain rfl:=O rfl;obtain rfl:l=[]:=lB af;go_enter func67,ntmps67;exact Qar
 |some ad=>
  let⟨A,I⟩:=Jh2 (ou (base:=w.heap.size) (e:=127) (size:=2) w #[] 0 (bL _) az rfl) (Sl.oz xN ah (K.o.keep ((bM _ _).alloc (bL _) (.cells #[] 127))));go_enter func67,ntmps67;go_wp2_with(at_builtin;refine wpList_append_own _ rfl _ _ 23 rfl w 127 J (.agg #[(),()]) 2 16 underlying23 p S X q rfl ah _ 0 [] rfl A.o ad l U (bN mV l) rfl (ik mV 2 xN l) I.o (lE FN l) ?c3 ?c4 ?c5 ?_)
  case c3=>unfold maxLen;omega
  case c4=>omega
  case c5=>simp
  exact Qah
structure Cy where
 (cut cI fJ close:Int)deriving DecidableEq
abbrev xO(x:Cy):Value:=.agg #[x.cut,x.cI,x.fJ,x.close]
abbrev iy(x:Cy):Array Value:=#[x.cut,x.cI,x.fJ,x.close]
def nJ(x:Cy):List Value:=[x.cut,x.cI,x.fJ,x.close]
def xP(x:Cy):(nJ x).length=4:=rfl
def FP(x:Cy):∀u∈nJ x,u.oneCell'=true:=by intro u X;simp[nJ]at X;rcases X with rfl|rfl|rfl|rfl<;>rfl
def FQ:(prog.info? 63).map (fun i=>(i.zero,i.size,i.bytes))=some (some (.agg #[(),(),(),()]),4,32):=aj
def yX{x:Cy}(h:∀j u,(nJ x)[j]?=some u->W.cell? ⟨b,o+j,none⟩=some u):W.cell? (b,o)=x.cut/\W.cell? (b,o+1)=x.cI/\W.cell? (b,o+2)=x.fJ/\W.cell? (b,o+3)=x.close:=by exact⟨h 0 _ rfl,h 1 _ rfl,h 2 _ rfl,h 3 _ rfl⟩
def MI(v:bE)(l:bF Cy)(w:bD)(hv:Sl nJ 4 w v l)(hn:l.length<=1000000):bG 68 #[v] w (ki nJ 63 4 l w):=by
 have M:=hv;obtain⟨a,U,rfl,O,d,f,g⟩:=hv;unfold maxLen at f;have K:=aa M;clear g M;let⟨J,p,S,X,q⟩:=wm FQ;have F:=fun(w:bD) (a:Option Addr) (n c:Nat)=>Lib.run_eql_slice_nil (P:=prog) w 24 63 a n c 0 0 underlying24;cases a with
 |none=>
  obtain rfl:=O rfl;obtain rfl:l=[]:=lB af;go_enter func68,ntmps68;exact Qar
 |some ad=>
  let⟨A,I⟩:=Jh2 (ou (base:=w.heap.size) (e:=63) (size:=4) w #[] 0 (bL _) az rfl) (Sl.oz xP ah (K.o.keep ((bM _ _).alloc (bL _) (.cells #[] 63))));go_enter func68,ntmps68;go_wp2_with(at_builtin;refine wpList_append_own _ rfl _ _ 24 rfl w 63 J (.agg #[(),(),(),()]) 4 32 underlying24 p S X q rfl ah _ 0 [] rfl A.o ad l U (bN nJ l) rfl (ik nJ 4 xP l) I.o (lE FP l) ?c3 ?c4 ?c5 ?_)
  case c3=>unfold maxLen;omega
  case c4=>omega
  case c5=>simp
  exact Qah
structure Ev where
 (cq mem bK bJ Fw:Int)deriving DecidableEq
abbrev vEv(x:Ev):Value:=.agg #[x.cq,x.mem,x.bK,x.bJ,x.Fw]
abbrev lp(x:Ev):Array Value:=#[x.cq,x.mem,x.bK,x.bJ,x.Fw]
def eE(x:Ev):List Value:=[x.cq,x.mem,x.bK,x.bJ,x.Fw]
def jg(x:Ev):(eE x).length=5:=rfl
def vE(x:Ev):∀u∈eE x,u.oneCell'=true:=by intro u X;simp[eE]at X;rcases X with rfl|rfl|rfl|rfl|rfl<;>rfl
def yY:(prog.info? 101).map (fun i=>(i.zero,i.size,i.bytes))=some (some (.agg #[(),(),(),(),()]),5,40):=aj
def MJ(W:bD)(x:Ev)(b:Nat)(hb:W.heap.size=b):∀j u,(eE x)[j]?=some u->(W.alloc (bH (lp x) 101)).cell? (((be b 0):Addr).add j)=some u:=by subst hb;intro j u X;rw[iX,fW,(bI.new W 101 (lp x)).c j];simpa[eE]using X
def FR(v:bE)(l:bF Ev)(w:bD)(hv:Sl eE 5 w v l)(hn:l.length<=1000000):bG 39 #[v] w (ki eE 101 5 l w):=by
 have M:=hv;obtain⟨a,U,rfl,O,d,f,g⟩:=hv;unfold maxLen at f;have K:=aa M;clear g M;let⟨J,p,S,X,q⟩:=wm yY;have F:=fun(w:bD) (a:Option Addr) (n c:Nat)=>Lib.run_eql_slice_nil (P:=prog) w 39 101 a n c 0 0 underlying39;cases a with
 |none=>
  obtain rfl:=O rfl;obtain rfl:l=[]:=lB af;go_enter func39,ntmps39;exact Qar
 |some ad=>
  let⟨A,I⟩:=Jh2 (ou (base:=w.heap.size) (e:=101) (size:=5) w #[] 0 (bL _) az rfl) (Sl.oz jg ah (K.o.keep ((bM _ _).alloc (bL _) (.cells #[] 101))));go_enter func39,ntmps39;go_wp2_with(at_builtin;refine wpList_append_own _ rfl _ _ 39 rfl w 101 J (.agg #[(),(),(),(),()]) 5 40 underlying39 p S X q rfl ah _ 0 [] rfl A.o ad l U (bN eE l) rfl (ik eE 5 jg l) I.o (lE vE l) ?c3 ?c4 ?c5 ?_)
  case c3=>unfold maxLen;omega
  case c4=>omega
  case c5=>simp
  exact Qah
structure Tr where
 (id dD dE cP cK cF:Int)deriving DecidableEq
abbrev pG(x:Tr):Value:=.agg #[x.id,x.dD,x.dE,x.cP,x.cK,x.cF]
abbrev ek(x:Tr):Array Value:=#[x.id,x.dD,x.dE,x.cP,x.cK,x.cF]
def uh(x:Tr):List Value:=[x.id,x.dD,x.dE,x.cP,x.cK,x.cF]
def Bh(x:Tr):(uh x).length=6:=rfl
def MK(x:Tr):∀u∈uh x,u.oneCell'=true:=by intro u X;simp[uh]at X;rcases X with rfl|rfl|rfl|rfl|rfl|rfl<;>rfl
def ML:(prog.info? 58).map (fun i=>(i.zero,i.size,i.bytes))=some (some (.agg #[(),(),(),(),(),()]),6,48):=aj
def MM{x:Tr}(h:∀j u,(uh x)[j]?=some u->W.cell? ⟨b,o+j,none⟩=some u):W.cell? (b,o)=x.id/\W.cell? (b,o+1)=x.dD/\W.cell? (b,o+2)=x.dE/\W.cell? (b,o+3)=x.cP/\W.cell? (b,o+4)=x.cK/\W.cell? (b,o+5)=x.cF:=by exact⟨h 0 _ rfl,h 1 _ rfl,h 2 _ rfl,h 3 _ rfl,h 4 _ rfl,h 5 _ rfl⟩
structure RT where
 (bR id dD dE cP cK cF:Int)deriving DecidableEq
abbrev vRT(x:RT):Value:=.agg #[x.bR,x.id,x.dD,x.dE,x.cP,x.cK,x.cF]
abbrev lF(x:RT):Array Value:=#[x.bR,x.id,x.dD,x.dE,x.cP,x.cK,x.cF]
def eO(x:RT):List Value:=[x.bR,x.id,x.dD,x.dE,x.cP,x.cK,x.cF]
def nK(x:RT):(eO x).length=7:=rfl
def xr(x:RT):∀u∈eO x,u.oneCell'=true:=by intro u X;simp[eO]at X;rcases X with rfl|rfl|rfl|rfl|rfl|rfl|rfl<;>rfl
def FT:(prog.info? 163).map (fun i=>(i.zero,i.size,i.bytes))=some (some (.agg #[(),(),(),(),(),(),()]),7,56):=aj
def vF{x:RT}(h:∀j u,(eO x)[j]?=some u->W.cell? ⟨b,o+j,none⟩=some u):W.cell? (b,o)=x.bR/\W.cell? (b,o+1)=x.id/\W.cell? (b,o+2)=x.dD/\W.cell? (b,o+3)=x.dE/\W.cell? (b,o+4)=x.cP/\W.cell? (b,o+5)=x.cK/\W.cell? (b,o+6)=x.cF:=by exact⟨h 0 _ rfl,h 1 _ rfl,h 2 _ rfl,h 3 _ rfl,h 4 _ rfl,h 5 _ rfl,h 6 _ rfl⟩
def MN(v:bE)(l:bF RT)(w:bD)(hv:Sl eO 7 w v l)(hn:l.length<=1000000):bG 120 #[v] w (ki eO 163 7 l w):=by
 have M:=hv;obtain⟨a,U,rfl,O,d,f,g⟩:=hv;unfold maxLen at f;have K:=aa M;clear g M;let⟨J,p,S,X,q⟩:=wm FT;have F:=fun(w:bD) (a:Option Addr) (n c:Nat)=>Lib.run_eql_slice_nil (P:=prog) w 160 163 a n c 0 0 underlying160;cases a with
 |none=>
  obtain rfl:=O rfl;obtain rfl:l=[]:=lB af;go_enter func120,ntmps120;exact Qar
 |some ad=>
  let⟨A,I⟩:=Jh2 (ou (base:=w.heap.size) (e:=163) (size:=7) w #[] 0 (bL _) az rfl) (Sl.oz nK ah (K.o.keep ((bM _ _).alloc (bL _) (.cells #[] 163))));go_enter func120,ntmps120;go_wp2_with(at_builtin;refine wpList_append_own _ rfl _ _ 160 rfl w 163 J (.agg #[(),(),(),(),(),(),()]) 7 56 underlying160 p S X q rfl ah _ 0 [] rfl A.o ad l U (bN eO l) rfl (ik eO 7 nK l) I.o (lE xr l) ?c3 ?c4 ?c5 ?_)
  case c3=>unfold maxLen;omega
  case c4=>omega
  case c5=>simp
  exact Qah
structure Ob where
 (cycle mem bK cE done cN:Int)deriving DecidableEq
abbrev gE(x:Ob):Array Value:=#[x.cycle,x.mem,x.bK,x.cE,x.done,x.cN]
def eS(x:Ob):List Value:=[x.cycle,x.mem,x.bK,x.cE,x.done,x.cN]
def il(x:Ob):(eS x).length=6:=rfl
def xQ(x:Ob):∀u∈eS x,u.oneCell'=true:=by intro u X;simp[eS]at X;rcases X with rfl|rfl|rfl|rfl|rfl|rfl<;>rfl
def yZ:(prog.info? 71).map (fun i=>(i.zero,i.size,i.bytes))=some (some (.agg #[(),(),(),(),(),()]),6,48):=aj
def oA{x:Ob}(h:∀j u,(eS x)[j]?=some u->W.cell? ⟨b,o+j,none⟩=some u):W.cell? (b,o)=x.cycle/\W.cell? (b,o+1)=x.mem/\W.cell? (b,o+2)=x.bK/\W.cell? (b,o+3)=x.cE/\W.cell? (b,o+4)=x.done/\W.cell? (b,o+5)=x.cN:=by exact⟨h 0 _ rfl,h 1 _ rfl,h 2 _ rfl,h 3 _ rfl,h 4 _ rfl,h 5 _ rfl⟩
def MO(v:bE)(l:bF Ob)(w:bD)(hv:Sl eS 6 w v l)(hn:l.length<=1000000):bG 121 #[v] w (ki eS 71 6 l w):=by
 have M:=hv;obtain⟨a,U,rfl,O,d,f,g⟩:=hv;unfold maxLen at f;have K:=aa M;clear g M;let⟨J,p,S,X,q⟩:=wm yZ;have F:=fun(w:bD) (a:Option Addr) (n c:Nat)=>Lib.run_eql_slice_nil (P:=prog) w 64 71 a n c 0 0 underlying64;cases a with
 |none=>
  obtain rfl:=O rfl;obtain rfl:l=[]:=lB af;go_enter func121,ntmps121;exact Qar
 |some ad=>
  let⟨A,I⟩:=Jh2 (ou (base:=w.heap.size) (e:=71) (size:=6) w #[] 0 (bL _) az rfl) (Sl.oz il ah (K.o.keep ((bM _ _).alloc (bL _) (.cells #[] 71))));go_enter func121,ntmps121;go_wp2_with(at_builtin;refine wpList_append_own _ rfl _ _ 64 rfl w 71 J (.agg #[(),(),(),(),(),()]) 6 48 underlying64 p S X q rfl ah _ 0 [] rfl A.o ad l U (bN eS l) rfl (ik eS 6 il l) I.o (lE xQ l) ?c3 ?c4 ?c5 ?_)
  case c3=>unfold maxLen;omega
  case c4=>omega
  case c5=>simp
  exact Qah
structure RH where
 (bR cq mem bK bJ:Int)deriving DecidableEq
abbrev vRH(x:RH):Value:=.agg #[x.bR,x.cq,x.mem,x.bK,x.bJ]
abbrev oC(x:RH):Array Value:=#[x.bR,x.cq,x.mem,x.bK,x.bJ]
def eX(x:RH):List Value:=[x.bR,x.cq,x.mem,x.bK,x.bJ]
def kK(x:RH):(eX x).length=5:=rfl
def FU(x:RH):∀u∈eX x,u.oneCell'=true:=by intro u X;simp[eX]at X;rcases X with rfl|rfl|rfl|rfl|rfl<;>rfl
def FV:(prog.info? 333).map (fun i=>(i.zero,i.size,i.bytes))=some (some (.agg #[(),(),(),(),()]),5,40):=aj
def xR{x:RH}(h:∀j u,(eX x)[j]?=some u->W.cell? ⟨b,o+j,none⟩=some u):W.cell? (b,o)=x.bR/\W.cell? (b,o+1)=x.cq/\W.cell? (b,o+2)=x.mem/\W.cell? (b,o+3)=x.bK/\W.cell? (b,o+4)=x.bJ:=by exact⟨h 0 _ rfl,h 1 _ rfl,h 2 _ rfl,h 3 _ rfl,h 4 _ rfl⟩
def MP(v:bE)(l:bF RH)(w:bD)(hv:Sl eX 5 w v l)(hn:l.length<=1000000):bG 319 #[v] w (ki eX 333 5 l w):=by
 have M:=hv;obtain⟨a,U,rfl,O,d,f,g⟩:=hv;unfold maxLen at f;have K:=aa M;clear g M;let⟨J,p,S,X,q⟩:=wm FV;have F:=fun(w:bD) (a:Option Addr) (n c:Nat)=>Lib.run_eql_slice_nil (P:=prog) w 225 333 a n c 0 0 underlying225;cases a with
 |none=>
  obtain rfl:=O rfl;obtain rfl:l=[]:=lB af;go_enter func319,ntmps319;exact Qar
 |some ad=>
  let⟨A,I⟩:=Jh2 (ou (base:=w.heap.size) (e:=333) (size:=5) w #[] 0 (bL _) az rfl) (Sl.oz kK ah (K.o.keep ((bM _ _).alloc (bL _) (.cells #[] 333))));go_enter func319,ntmps319;go_wp2_with(at_builtin;refine wpList_append_own _ rfl _ _ 225 rfl w 333 J (.agg #[(),(),(),(),()]) 5 40 underlying225 p S X q rfl ah _ 0 [] rfl A.o ad l U (bN eX l) rfl (ik eX 5 kK l) I.o (lE FU l) ?c3 ?c4 ?c5 ?_)
  case c3=>unfold maxLen;omega
  case c4=>omega
  case c5=>simp
  exact Qah
structure Bd where
 (seq mem cP cK cF:Int)deriving DecidableEq
abbrev Bi(x:Bd):Value:=.agg #[x.seq,x.mem,x.cP,x.cK,x.cF]
abbrev dV(x:Bd):Array Value:=#[x.seq,x.mem,x.cP,x.cK,x.cF]
def gX(x:Bd):List Value:=[x.seq,x.mem,x.cP,x.cK,x.cF]
def oD(x:Bd):(gX x).length=5:=rfl
def vG(x:Bd):∀u∈gX x,u.oneCell'=true:=by intro u X;simp[gX]at X;rcases X with rfl|rfl|rfl|rfl|rfl<;>rfl
def Bj:(prog.info? 211).map (fun i=>(i.zero,i.size,i.bytes))=some (some (.agg #[(),(),(),(),()]),5,40):=aj
def MQ(W:bD)(x:Bd)(b:Nat)(hb:W.heap.size=b):∀j u,(gX x)[j]?=some u->(W.alloc (bH (dV x) 211)).cell? (((be b 0):Addr).add j)=some u:=by subst hb;intro j u X;rw[iX,fW,(bI.new W 211 (dV x)).c j];simpa[gX]using X
def Bk{x:Bd}(h:∀j u,(gX x)[j]?=some u->W.cell? ⟨b,o+j,none⟩=some u):W.cell? (b,o)=x.seq/\W.cell? (b,o+1)=x.mem/\W.cell? (b,o+2)=x.cP/\W.cell? (b,o+3)=x.cK/\W.cell? (b,o+4)=x.cF:=by exact⟨h 0 _ rfl,h 1 _ rfl,h 2 _ rfl,h 3 _ rfl,h 4 _ rfl⟩
def MR(v:bE)(l:bF Bd)(w:bD)(hv:Sl gX 5 w v l)(hn:l.length<=1000000):bG 359 #[v] w (ki gX 211 5 l w):=by
 have M:=hv;obtain⟨a,U,rfl,O,d,f,g⟩:=hv;unfold maxLen at f;have K:=aa M;clear g M;let⟨J,p,S,X,q⟩:=wm Bj;have F:=fun(w:bD) (a:Option Addr) (n c:Nat)=>Lib.run_eql_slice_nil (P:=prog) w 173 211 a n c 0 0 underlying173;cases a with
 |none=>
  obtain rfl:=O rfl;obtain rfl:l=[]:=lB af;go_enter func359,ntmps359;exact Qar
 |some ad=>
  let⟨A,I⟩:=Jh2 (ou (base:=w.heap.size) (e:=211) (size:=5) w #[] 0 (bL _) az rfl) (Sl.oz oD ah (K.o.keep ((bM _ _).alloc (bL _) (.cells #[] 211))));go_enter func359,ntmps359;go_wp2_with(at_builtin;refine wpList_append_own _ rfl _ _ 173 rfl w 211 J (.agg #[(),(),(),(),()]) 5 40 underlying173 p S X q rfl ah _ 0 [] rfl A.o ad l U (bN gX l) rfl (ik gX 5 oD l) I.o (lE vG l) ?c3 ?c4 ?c5 ?_)
  case c3=>unfold maxLen;omega
  case c4=>omega
  case c5=>simp
  exact Qah
structure Lg where
 (mem bK bJ:Int)deriving DecidableEq
abbrev vLg(x:Lg):Value:=.agg #[x.mem,x.bK,x.bJ]
abbrev dI(x:Lg):Array Value:=#[x.mem,x.bK,x.bJ]
def df(x:Lg):List Value:=[x.mem,x.bK,x.bJ]
def eG(x:Lg):(df x).length=3:=rfl
def oE(x:Lg):∀u∈df x,u.oneCell'=true:=by intro u X;simp[df]at X;rcases X with rfl|rfl|rfl<;>rfl
def oF:(prog.info? 120).map (fun i=>(i.zero,i.size,i.bytes))=some (some (.agg #[(),(),()]),3,24):=aj
def kL{x:Lg}(h:∀j u,(df x)[j]?=some u->W.cell? ⟨b,o+j,none⟩=some u):W.cell? (b,o)=x.mem/\W.cell? (b,o+1)=x.bK/\W.cell? (b,o+2)=x.bJ:=by exact⟨h 0 _ rfl,h 1 _ rfl,h 2 _ rfl⟩
structure Tm where
 (dh cq mem fY:Int)deriving DecidableEq
abbrev kM(x:Tm):Value:=.agg #[x.dh,x.cq,x.mem,x.fY]
abbrev dL(x:Tm):Array Value:=#[x.dh,x.cq,x.mem,x.fY]
def fB(x:Tm):List Value:=[x.dh,x.cq,x.mem,x.fY]
def mj(x:Tm):(fB x).length=4:=rfl
def sq(x:Tm):∀u∈fB x,u.oneCell'=true:=by intro u X;simp[fB]at X;rcases X with rfl|rfl|rfl|rfl<;>rfl
def xS:(prog.info? 197).map (fun i=>(i.zero,i.size,i.bytes))=some (some (.agg #[(),(),(),()]),4,32):=aj
def FW(W:bD)(x:Tm)(b:Nat)(hb:W.heap.size=b):∀j u,(fB x)[j]?=some u->(W.alloc (bH (dL x) 197)).cell? (((be b 0):Addr).add j)=some u:=by subst hb;intro j u X;rw[iX,fW,(bI.new W 197 (dL x)).c j];simpa[fB]using X
def sr{x:Tm}(h:∀j u,(fB x)[j]?=some u->W.cell? ⟨b,o+j,none⟩=some u):W.cell? (b,o)=x.dh/\W.cell? (b,o+1)=x.cq/\W.cell? (b,o+2)=x.mem/\W.cell? (b,o+3)=x.fY:=by exact⟨h 0 _ rfl,h 1 _ rfl,h 2 _ rfl,h 3 _ rfl⟩
def ui:(prog.info? 3).map (fun i=>(i.zero,i.size,i.bytes))=some (some (.int .i64 0),1,8):=aj
def mW:(prog.info? 2).map (fun i=>(i.zero,i.size,i.bytes))=some (some (.int .i64 0),1,8):=aj
def FX(v:bE)(l:bF Int)(w:bD)(hv:Sl eI 1 w v l)(hn:l.length<=1000000):bG 88 #[v] w (ki eI 3 1 l w):=by
 have M:=hv;obtain⟨a,U,rfl,O,d,f,g⟩:=hv;unfold maxLen at f;have K:=aa M;clear g M;let⟨J,p,S,X,q⟩:=wm ui;have F:=fun(w:bD) (a:Option Addr) (n c:Nat)=>Lib.run_eql_slice_nil (P:=prog) w 74 3 a n c 0 0 underlying74;cases a with
 |none=>
  obtain rfl:=O rfl;obtain rfl:l=[]:=lB af;go_enter func88,ntmps88;exact Qar
 |some ad=>
  let⟨A,I⟩:=Jh2 (ou (base:=w.heap.size) (e:=3) (size:=1) w #[] 0 (bL _) az rfl) (Sl.oz kI ah (K.o.keep ((bM _ _).alloc (bL _) (.cells #[] 3))));go_enter func88,ntmps88;go_wp2_with(at_builtin;refine wpList_append_own _ rfl _ _ 74 rfl w 3 J (aY 0) 1 8 underlying74 p S X q rfl ah _ 0 [] rfl A.o ad l U (bN eI l) rfl (ik eI 1 kI l) I.o (lE kj l) ?c3 ?c4 ?c5 ?_)
  case c3=>unfold maxLen;omega
  case c4=>omega
  case c5=>simp
  exact Qah
def kJ(x:Int):(eI x).length=1:=rfl
def y8(x:Int):∀u∈eI x,u.oneCell'=true:=kj x
def MT(v:bE)(l:bF Int)(w:bD)(hv:Sl eI 1 w v l)(hn:l.length<=1000000):bG 225 #[v] w (ki eI 2 1 l w):=by
 have M:=hv;obtain⟨a,U,rfl,O,d,f,g⟩:=hv;unfold maxLen at f;have K:=aa M;clear g M;let⟨J,p,S,X,q⟩:=wm mW;have F:=fun(w:bD) (a:Option Addr) (n c:Nat)=>Lib.run_eql_slice_nil (P:=prog) w 45 2 a n c 0 0 underlying45;cases a with
 |none=>
  obtain rfl:=O rfl;obtain rfl:l=[]:=lB af;go_enter func225,ntmps225;exact Qar
 |some ad=>
  let⟨A,I⟩:=Jh2 (ou (base:=w.heap.size) (e:=2) (size:=1) w #[] 0 (bL _) az rfl) (Sl.oz kJ ah (K.o.keep ((bM _ _).alloc (bL _) (.cells #[] 2))));go_enter func225,ntmps225;go_wp2_with(at_builtin;refine wpList_append_own _ rfl _ _ 45 rfl w 2 J (aY 0) 1 8 underlying45 p S X q rfl ah _ 0 [] rfl A.o ad l U (bN eI l) rfl (ik eI 1 kJ l) I.o (lE y8 l) ?c3 ?c4 ?c5 ?_)
  case c3=>unfold maxLen;omega
  case c4=>omega
  case c5=>simp
  exact Qah
def za(n:Int)(w:bD):bG 176 #[n] w fun e w'=>e=.returned (.bool (decide (0<=n/\n<=16)))/\w=w':=by
 rcases kH n 0 with h|h
 ·rw[dF (show¬(0<=n/\n<=16) by omega)];exact QbE
 ·rcases kH 16 n with h2|h2
  ·rw[dF (show¬(0<=n/\n<=16) by omega)];have l:decide (n<=16)=false:=dF af;exact QbE
  ·rw[dT (show(0<=n/\n<=16) by omega)];have l:decide (n<=16)=true:=dT af;exact QbE
def FY(n:Int)(h0:0<=n)(h1:n<=16)(w:bD):bG 136 #[n] w fun e w'=>e=.returned (6+3*n:Int)/\w=w':=by have h:decide (0<=n/\n<=16)=true:=dT ⟨h0,h1⟩;go_enter func136,ntmps136;go_wp2_with fail;refine(za n _).bC ?_;rintro e i⟨rfl,rfl⟩;rw[h];go_wp2;go_ret;exact⟨rfl,rfl⟩
def pH(k:Int):Int:=if k=7 then 0 else if k=8 then 1 else if k=9 then 2 else-1
def Bl(k:Int)(w:bD):bG 279 #[k] w fun e w'=>e=.returned (pH k)/\w=w':=by
 by_cases r:k=7
 ·subst r;exact QbF
 ·by_cases i:k=8
  ·subst i;exact QbF
  ·by_cases T:k=9
   ·subst T;exact QbF
   ·have G:Hid (pH k=-1):=aa (by unfold pH;rw[ya r,ya i,ya T]);have s:(k==7)=false:=aG r;have q:(k==8)=false:=aG i;have Y:(k==9)=false:=aG T;clear r i T;go_enter func279,ntmps279;go_wp2;go_ret;exact⟨by rw[G.o];rfl,rfl⟩
structure Ac where
 (k m:Int)deriving DecidableEq
abbrev fo(a:Ac):Value:=.agg #[a.k,a.m]
abbrev cT(a:Ac):Array Value:=#[a.k,a.m]
def kn(ms:Int)(a:Ac):Int×Int:=if pH a.k=-1/\a.m=0/\1<=a.k/\a.k<=6 then(a.k-1,0)else if pH a.k≠-1/\1<=a.m/\a.m<=ms then(6+3*(a.m-1)+pH a.k,0)else(0,8)
def MU(ms:Int)(h0:0<=ms)(h1:ms<=16)(a:Ac)(w:bD):bG 224 #[ms,fo a] w fun e w'=>e=.returned (bg (kn ms a))/\w'=aZ w (cT a) 81:=by
 obtain⟨k,m⟩:=a;have D:decide (0<=ms/\ms<=16)=true:=dT ⟨h0,h1⟩;let⟨p,s⟩:=aH (pH k);have u:=aa s;by_cases g:p=-1/\m=0/\1<=k/\k<=6
 ·obtain⟨rfl,rfl,K,x⟩:=g;have I:Hid (kn ms ⟨k,0⟩=(k-1,0)):=aa (by unfold kn;rw[yc ⟨s,rfl,K,x⟩]);clear s;exact QaG
 ·by_cases f:p≠-1/\1<=m/\m<=ms
  ·obtain⟨d,v,T⟩:=f;have I:Hid (kn ms ⟨k,m⟩=(6+3*(m-1)+p,0)):=aa (by unfold kn;dsimp only;rw[s,ya g,yc ⟨d,v,T⟩]);have h:0<=p/\p<=2:=by
    rw[<-s]at d⊢;unfold pH at d⊢;split
    ·omega
    ·split
     ·omega
     ·split
      ·omega
      ·rename_i a b c;rw[ya a,ya b,ya c]at d;exact xl rfl d
   have j:(p==-1)=false:=aG d;have r:(p !=-1)=true:=aG d;clear s g d;exact QaG
  ·have I:Hid (kn ms ⟨k,m⟩=(0,8)):=aa (by unfold kn;dsimp only;rw[s,ya g,ya f]);clear s;go_enter func224,ntmps224;go_wp2_with(first|(go_at_call 279;refine(Bl k _).bC ?_;rintro e i⟨rfl,rfl⟩;rw[u.o])|(go_at_call 176;refine(za ms _).bC ?_;rintro e i⟨rfl,rfl⟩;rw[D]))
   all_goals(go_ret2;first|exact⟨by rw[I.o];rfl,rfl⟩|(subst_vars;exact⟨by rw[I.o];rfl,rfl⟩))
def xT{a b:Bool}(h:a=b):Ending.returned (.bool a)=.returned (.bool b):=by rw[h]
def nL(a:Ac):Bool:=a.k==5||a.k==6||a.k==7
def pI(a:Ac)(w:bD):bG 227 #[fo a] w fun e w'=>e=.returned (.bool (nL a))/\w'=aZ w (cT a) 81:=by
 obtain⟨k,m⟩:=a;let⟨I,V⟩:∃b,(k==5)=b:=⟨_,rfl⟩;let⟨c,A⟩:∃b,(k==6)=b:=⟨_,rfl⟩;let⟨q,r⟩:∃b,(k==7)=b:=⟨_,rfl⟩;have S:Hid (nL ⟨k,m⟩=(I||c||q)):=aa (by rw[<-V,<-A,<-r];simp only[nL]);cases I<;>cases c<;>cases q
 all_goals
  go_enter func227,ntmps227;go_wp2;go_ret;exact⟨by rw[S.o];rfl,rfl⟩
def gN(n a b:Int):Bool:=decide (a<=n/\n<=b)
def zc(n a b:Int)(w:bD):bG 130 #[n,a,b] w fun e w'=>e=.returned (.bool (gN n a b))/\w=w':=by go_enter func130,ntmps130;exact Qbb
def vH(n a b:Int)(w:bD):bG 133 #[n,a,b] w fun e w'=>e=.returned (.bool (gN n a b))/\w=w':=by go_enter func133,ntmps133;exact Qbb
def MV(p:Int)(w:bD):bG 81 #[p] w fun e w'=>e=.returned (.bool (gN p 1 4))/\w=w':=by go_enter func81,ntmps81;exact Qbb
def qn(p k:Int):Bool:=if k==1 then p==0 else if k==2||k==3 then p==1 else if k==4||k==5||k==6 then p==2 else if k==7 then p==3 else if k==8||k==9||k==10 then gN p 1 4 else false
def FZ(p k:Int)(w:bD):bG 37 #[p,k] w fun e w'=>e=.returned (.bool (qn p k))/\w=w':=by
 go_enter func37,ntmps37;go_wp2_with(go_at_call 81;refine(MV p _).bC ?_;rintro e i⟨rfl,rfl⟩)
 all_goals(go_ret;refine⟨xT ?_,rfl⟩;simp only[qn, *];simp)
structure bZ where
 mem:List Mb
 secs:List Sc
 bU:List Cy
 (line capital lead cj cv:Int)
def gO(l:List Cy):List Int:=l.flatMap fun x=>[x.cut,x.cI,x.fJ,x.close]
def jh:Int->List Cy->Prop
 |_,[]=>True
 |at0,x::l=>at0<x.cut/\x.cut<x.cI/\x.cI<x.fJ/\x.fJ<x.close/\x.close<=1000/\jh x.close l
structure dz(C:bZ):Prop where
 m1:2<=C.mem.length
 m2:C.mem.length<=16
 mem:∀x∈C.mem,(0<=x.cw/\x.cw<=1099511627776)/\(0<=x.cI/\x.cI<=1099511627776)
 s1:1<=C.secs.length
 s2:C.secs.length<=8
 secs:∀x∈C.secs,(1<=x.cF/\x.cF<=1048576)/\(x.cF<=x.cap/\x.cap<=1048576)
 c1:1<=C.bU.length
 c2:C.bU.length<=4
 bU:jh 0 C.bU
 line:0<=C.line/\C.line<=1099511627776
 capital:0<=C.capital/\C.capital<=1099511627776
 lead:0<=C.lead/\C.lead<=1000
 cj:1<=C.cj/\C.cj<=64
 cv:1<=C.cv/\C.cv<=32
abbrev eT(vm vs vc:Value)(C:bZ):Value:=.agg #[vm,vs,vc,C.line,C.capital,C.lead,C.cj,C.cv]
abbrev cU(vm vs vc:Value)(C:bZ):Array Value:=#[vm,vs,vc,C.line,C.capital,C.lead,C.cj,C.cv]
structure dM(w:World)(vm vs vc:Value)(C:bZ):Prop where
 m:Sl mU 2 w vm C.mem
 s:Sl mV 2 w vs C.secs
 c:Sl nJ 4 w vc C.bU
variable{vm vs vc:bE}{C:bZ}
def dM.keep(h:dM w vm vs vc C)(hb:Bw w w'):dM w' vm vs vc C:=⟨h.m.keep hb,h.s.keep hb,h.c.keep hb⟩
def dM.alloc(h:dM w vm vs vc C)(o:Obj):dM (w.alloc o) vm vs vc C:=h.keep aI
def nM{n a b:Int}(h:a<=n/\n<=b):gN n a b=true:=by unfold gN;exact dT h
def MW(v:bE)(l:bF Mb)(w:bD)(hv:Sl mU 2 w v l)(h:∀x∈l,(0<=x.cw/\x.cw<=1099511627776)/\(0<=x.cI/\x.cI<=1099511627776))(h1:2<=l.length)(h2:l.length<=16):
  bG 124 #[v] w (bi (.bool true) w):=by
 obtain⟨a,U,rfl,_,t,d,F⟩:=hv;unfold maxLen at d;let⟨q,H⟩:=Jh2 F h;have B:=aa (nM (n:=(l.length:Nat)) (a:=2) (b:=16) af);clear F h;go_enter func124,ntmps124;go_wp2;go_loopw[7] (fun i wr=>∃k:Nat,k<=l.length/\i=k/\Bw w wr) (aW l.length);exact⟨0,cH _,rfl,bM _ _⟩;obtain⟨k,G,rfl,g⟩:=hrel;by_cases s:k<l.length
 ·obtain⟨b,m,rfl,W,u⟩:=q.o af;let⟨A,E⟩:=xM (u k s);have j:=(g.c (p:=(b,m+k*2)) W).bu A;have Z:=(g.c (p:=(b,m+k*2+1)) W).bu E;let⟨Q,r⟩:=H.o l[k] (cZ s);let⟨D,f⟩:=Jh2 (nM Q) (nM r);have O:0<=(k:Int):=af;have C:k<(l:Int):=af;clear u A E Q r;generalize l[k]=x at*;have z:=g.alloc g.size (bH (eR x) 125);exact Qbc
 ·exact QbH
def MX(v:bE)(l:bF Sc)(w:bD)(hv:Sl mV 2 w v l)(h:∀x∈l,(1<=x.cF/\x.cF<=1048576)/\(x.cF<=x.cap/\x.cap<=1048576))(h1:1<=l.length)(h2:l.length<=8):
  bG 126 #[v] w (bi (.bool true) w):=by
 obtain⟨a,cap,rfl,_,t,d,F⟩:=hv;unfold maxLen at d;let⟨q,H⟩:=Jh2 F h;have B:=aa (nM (n:=(l.length:Nat)) (a:=1) (b:=8) af);clear F h;go_enter func126,ntmps126;go_wp2;go_loopw[7] (fun i wr=>∃k:Nat,k<=l.length/\i=k/\Bw w wr) (aW l.length);exact⟨0,cH _,rfl,bM _ _⟩;obtain⟨k,G,rfl,g⟩:=hrel;by_cases s:k<l.length
 ·obtain⟨b,m,rfl,W,u⟩:=q.o af;let⟨A,E⟩:=Bg (u k s);have j:=(g.c (p:=(b,m+k*2)) W).bu A;have Z:=(g.c (p:=(b,m+k*2+1)) W).bu E;let⟨Q,r⟩:=H.o l[k] (cZ s);let⟨D,f⟩:=Jh2 (nM Q) (nM r);have O:0<=(k:Int):=af;have C:k<(l:Int):=af;clear u A E Q r;generalize l[k]=x at*;have z:=g.alloc g.size (bH (iQ x) 127);exact Qbc
 ·exact QbH
def MY(l:bF Cy):∀(at0:Int),jh at0 l->(∀k (h:k<(gO l).length),(if k=0 then at0 else(gO l).getD (k-1) 0)<(gO l)[k]/\(gO l)[k]<=1000):=by
 induction l with
 |nil=>intro at0 _ k h;simp[gO]at h
 |cons x l ih=>
  intro at0 E k h;obtain⟨d,c,f,M,V,A⟩:=E;have e:gO (x::l)=x.cut::x.cI::x.fJ::x.close::gO l:=by simp[gO]
  have a:=ih x.close A;simp only[e]at h⊢;match k,h with
  |0,_=>exact⟨aG d,aA⟩
  |1,_=>exact⟨aG c,aA⟩
  |2,_=>exact⟨aG f,aA⟩
  |3,_=>exact⟨aG M,aG V⟩
  |k+4,h=>
   have b:k<(gO l).length:=aG h;have:=a k b
   simp only[qj];refine⟨?_,this.2⟩;rw[ya af];by_cases O:k=0
   ·subst O;simpa using this.1
   ·obtain⟨j,rfl⟩:∃j,k=j+1:=⟨k-1,af⟩;have r:=this.1;rw[ya af]at r;simpa using r
def Bm(l:bF Cy):(gO l).length=4*l.length:=by
 induction l with
 |nil=>rfl
 |cons x l ih=>simp[gO]at ih⊢;omega
def MZ(l:bF Cy)(k:Nat)(h:k<l):gO (l.take (k+1))=gO (l.take k)++[l[k].cut,l[k].cI,l[k].fJ,l[k].close]:=by unfold gO;rw[fj h,List.flatMap_append,List.flatMap_singleton]
def nN(l:bF Int):bN eI l=l.map (Value.int .i64):=by
 induction l with
 |nil=>rfl
 |cons a l ih=>simp[bN,eI]at ih⊢;exact ih
def M5(l m:bF Int):bN eI (l++m)=bN eI l++bN eI m:=ox eI l m
def M6(W:bD)(x0 x1 x2 x3:Int)(T:TypeId)(b:Nat)(hb:W.heap.size=b):∀j u,(bN eI [x0,x1,x2,x3])[j]?=some u->(W.alloc (bH #[x0,x1,x2,x3] T)).cell? (((be b 0):Addr).add j)=some u:=by subst hb;intro j u X;rw[iX,fW,(bI.new W T _).c j];simpa[bN,eI]using X
structure Bn(l:List Cy)(w wr:World)(k:Nat)(v:Value):Prop where
 own:wr.ownsRow w 3 1 v (gO (l.take k)).length (bN eI (gO (l.take k)))
 low:Bw w wr
def M7(l:List Int)(w:World)(e:Ending)(w':World):Prop:=∃v,e=.returned v/\w'.ownsRow w 3 1 v l (bN eI l)/\Bw w w'
def F6(vm vs vc:bE)(C:bZ)(w:bD)(hc:dM w vm vs vc C)(h4:C.bU.length<=4):bG 34 #[eT vm vs vc C] w (M7 (gO C.bU) w):=by
 obtain⟨a,U,rfl,_,t,d,F⟩:=hc.c;unfold maxLen at d;have r:=aa F;clear F hc;let⟨J,K,S,X,q⟩:=wm ui;have G:Bn C.bU w (aZ w (cU vm vs (.slice a C.bU U) C) 26) 0 bd:=⟨⟨rfl,bS ⟨rfl,rfl⟩⟩,aI⟩;go_enter func34,ntmps34;go_wp2_with fail;generalize(w.alloc (bH (cU vm vs (.slice a C.bU.length U) C) 26))=W0 at*
 go_loopw[3,9] (fun va i wr=>∃k:Nat,k<=C.bU.length/\i=k/\Bn C.bU w wr k va) (fun _ i _=>C.bU.length-(intOf i).toNat);exact⟨0,cH _,rfl,G⟩;obtain⟨k,N,rfl,h,f⟩:=hrel;by_cases s:k<C.bU
 ·obtain⟨b,m,rfl,W,n⟩:=r.o af;let⟨A,E,H,B⟩:=yX (n k s);let⟨P,Z,Y,M⟩:=Jt4 ((f.c (p:=(b,m+k*4)) W).bu A) ((f.c (p:=(b,m+k*4+1)) W).bu E) ((f.c (p:=(b,m+k*4+2)) W).bu H) ((f.c (p:=(b,m+k*4+3)) W).bu B);let⟨D,y⟩:=Jh2 (MZ C.bU k s) (Bm (C.bU.take k));have u:(gO (C.bU.take k)).length<=16:=by rw[y.o,dx];omega
  have O:0<=(k:Int):=af;have I:k<(C.bU:Int):=af;clear n A E H B;generalize C.bU[k]=x at*;have z:=f.alloc f.size (bH (iy x) 63);have v:=aa (h.alloc (bH (iy x) 63));clear h;go_wp2_with(at_builtin;refine wpList_append_own _ rfl _ _ 74 rfl w 3 J (aY 0) 1 8 underlying74 K S X q rfl ah _ _ _ rfl (v.o.alloc _) (be (wr.heap.size+1) 0) 4 4 (bN eI [x.cut,x.cI,x.fJ,x.close]) rfl rfl ?c1 ?c2 ?c3 ?c4 ?c5 ?_)
  case c1=>exact M6 _ _ _ _ _ 3 _ au
  case c2=>exact lE kj _
  case c3=>unfold maxLen;omega
  case c4=>omega
  case c5=>have:=f.size;simp;omega
  intro j L g l _;have R:Bn C.bU w L (k+1) j:=⟨by rw[D.o,M5,cO];exact g,(z.alloc z.size _).grown l (by have:=f.size;simp;omega) (vB v.o)⟩;clear g l v z;go_wp2;go_roundw;exact⟨k+1,af,aw,R⟩;exact aV
 ·rw[eU af]at h;have Q:=aa h;clear h;go_wp2;go_ret;exact⟨_,rfl,Q.o,f⟩
def M8(vm vs vc:bE)(C:bZ)(w:bD)(hc:dM w vm vs vc C)(hv:dz C):bG 128 #[eT vm vs vc C] w (bi (.bool true) w):=by
 let⟨G,V⟩:=Jh2 hc (MY C.bU 0 hv.bU);have p:=aa (nM (n:=(C.bU.length:Nat)) (a:=1) (b:=4) (by have:=hv.c1;have:=hv.c2;omega));have M:=hv.c2;have u:=Bm C.bU;have N:=aa (bI.new w 26 (cU vm vs vc C));obtain⟨P,I,rfl,_,_,B,_⟩:=hc.c;unfold maxLen at B;clear hc hv;go_enter func128,ntmps128;go_wp2_with fail;refine(F6 vm vs _ C _ (G.o.alloc _) M).bC ?_;rintro e E⟨v,rfl,h,D⟩;have z:Bw w E:=aI.bu (D.bC au);have J:=aa (N.o.keep D);have W:=(Sl.own kI h).oy;clear D N h;obtain⟨a,U,rfl,t,d,F⟩:=W;unfold maxLen at d;have q:=aa F;clear F;have Y:=J.o.c 2;go_wp2;go_loop[3,9] (fun la i=>∃k:Nat,k<=(gO C.bU).length/\i=k/\la=.int .i64 (if k=0 then 0 else(gO C.bU).getD (k-1) 0)) (fun _ i=>(gO C.bU).length-(intOf i).toNat);exact⟨0,cH _,rfl,rfl⟩;obtain⟨k,L,rfl,rfl⟩:=hrel;by_cases f:k<(gO C.bU).length
 ·obtain⟨b,m,rfl,K,s⟩:=q.o af;have A:=s k f;let⟨Q,r⟩:=V.o k f;have H:Hid ((gO C.bU).getD k 0=(gO C.bU)[k]):=aa (by rw[dy,dG f];rfl);clear s;generalize(gO C.bU)[k]=x at*
  generalize(if k=0 then 0 else(gO C.bU).getD (k-1) 0)=y at*
  have l:decide (x<=y)=false:=dF af;go_wp2;go_round;exact⟨k+1,af,aw,by rw[ya af,yP,H.o]⟩;exact aV
 ·have j:k=(gO C.bU).length:=af;have g:(if k=0 then(0:Int)else(gO C.bU).getD (k-1) 0)<=1000:=by
   by_cases O:k=0
   ·rw[yc O];omega
   ·rw[ya O];have:=(V.o (k-1) af).2
    rw[dy,dG af];exact this
  generalize(if k=0 then(0:Int)else(gO C.bU).getD (k-1) 0)=y at*
  have l:decide (y<=1000)=true:=dT g;go_wp2_with(go_at_call 133;refine(vH _ _ _ _).bC ?_;rintro e E⟨rfl,rfl⟩;rw[p.o]);go_ret;exact⟨rfl,z⟩
def M9(vm vs vc:bE)(C:bZ)(g:Nat)(w:bD)(hb:bI w g 26 (cU vm vs vc C))(hc:dM w vm vs vc C)(hv:dz C):bG 123 #[.pointer (some (be g 0))] w (bi (.bool false) w):=by let⟨G,M⟩:=Jh2 hc hv;let⟨j,Z,Y,y,h,c,p,X⟩:=hb.k8 0 1 2 3 4 5 6 7;clear hc hv hb;go_enter func123,ntmps123;go_wp2_with fail;refine(MW _ _ _ G.o.m M.o.mem M.o.m1 M.o.m2).bC ?_;rintro e i⟨rfl,z⟩;go_wp2;go_ret;exact⟨rfl,z⟩
def Na(vm vs vc:bE)(C:bZ)(g:Nat)(w:bD)(hb:bI w g 26 (cU vm vs vc C))(hc:dM w vm vs vc C)(hv:dz C):bG 125 #[.pointer (some (be g 0))] w (bi (.bool false) w):=by let⟨G,M⟩:=Jh2 hc hv;let⟨j,Z,Y,y,h,c,p,X⟩:=hb.k8 0 1 2 3 4 5 6 7;clear hc hv hb;go_enter func125,ntmps125;go_wp2_with fail;refine(MX _ _ _ G.o.s M.o.secs M.o.s1 M.o.s2).bC ?_;rintro e i⟨rfl,z⟩;go_wp2;go_ret;exact⟨rfl,z⟩
def Nb(vm vs vc:bE)(C:bZ)(g:Nat)(w:bD)(hb:bI w g 26 (cU vm vs vc C))(hc:dM w vm vs vc C)(hv:dz C):bG 127 #[.pointer (some (be g 0))] w (bi (.bool false) w):=by let⟨G,M⟩:=Jh2 hc hv;let⟨j,Z,Y,y,h,c,p,X⟩:=hb.k8 0 1 2 3 4 5 6 7;clear hc hv hb;go_enter func127,ntmps127;go_wp2_with fail;refine(M8 _ _ _ C _ G.o M.o).bC ?_;rintro e i⟨rfl,z⟩;go_wp2;go_ret;exact⟨rfl,z⟩
def Nc(vm vs vc:bE)(C:bZ)(g:Nat)(w:bD)(hb:bI w g 26 (cU vm vs vc C))(hc:dM w vm vs vc C)(hv:dz C):bG 129 #[.pointer (some (be g 0))] w (bi (.bool false) w):=by let⟨G,M⟩:=Jh2 hc hv;let⟨j,Z,Y,y,h,c,p,X⟩:=hb.k8 0 1 2 3 4 5 6 7;clear hc hv hb;go_enter func129,ntmps129;go_wp2_with fail;refine(zc _ _ _ _).bC ?_;rintro e i⟨rfl,rfl⟩;rw[nM M.o.line];go_wp2;go_ret;exact⟨rfl,bM _ _⟩
def Nd(vm vs vc:bE)(C:bZ)(g:Nat)(w:bD)(hb:bI w g 26 (cU vm vs vc C))(hc:dM w vm vs vc C)(hv:dz C):bG 131 #[.pointer (some (be g 0))] w (bi (.bool false) w):=by let⟨G,M⟩:=Jh2 hc hv;let⟨j,Z,Y,y,h,c,p,X⟩:=hb.k8 0 1 2 3 4 5 6 7;clear hc hv hb;go_enter func131,ntmps131;go_wp2_with fail;refine(zc _ _ _ _).bC ?_;rintro e i⟨rfl,rfl⟩;rw[nM M.o.capital];go_wp2;go_ret;exact⟨rfl,bM _ _⟩
def Nf(vm vs vc:bE)(C:bZ)(g:Nat)(w:bD)(hb:bI w g 26 (cU vm vs vc C))(hc:dM w vm vs vc C)(hv:dz C):bG 132 #[.pointer (some (be g 0))] w (bi (.bool false) w):=by let⟨G,M⟩:=Jh2 hc hv;let⟨j,Z,Y,y,h,c,p,X⟩:=hb.k8 0 1 2 3 4 5 6 7;clear hc hv hb;go_enter func132,ntmps132;go_wp2_with fail;refine(vH _ _ _ _).bC ?_;rintro e i⟨rfl,rfl⟩;rw[nM M.o.lead];go_wp2;go_ret;exact⟨rfl,bM _ _⟩
def Ng(vm vs vc:bE)(C:bZ)(g:Nat)(w:bD)(hb:bI w g 26 (cU vm vs vc C))(hc:dM w vm vs vc C)(hv:dz C):bG 134 #[.pointer (some (be g 0))] w (bi (.bool false) w):=by let⟨G,M⟩:=Jh2 hc hv;let⟨j,Z,Y,y,h,c,p,X⟩:=hb.k8 0 1 2 3 4 5 6 7;clear hc hv hb;go_enter func134,ntmps134;go_wp2_with fail;refine(vH _ _ _ _).bC ?_;rintro e i⟨rfl,rfl⟩;rw[nM M.o.cj];go_wp2;go_ret;exact⟨rfl,bM _ _⟩
def Nh(vm vs vc:bE)(C:bZ)(g:Nat)(w:bD)(hb:bI w g 26 (cU vm vs vc C))(hc:dM w vm vs vc C)(hv:dz C):bG 135 #[.pointer (some (be g 0))] w (bi (.bool false) w):=by let⟨G,M⟩:=Jh2 hc hv;let⟨j,Z,Y,y,h,c,p,X⟩:=hb.k8 0 1 2 3 4 5 6 7;clear hc hv hb;go_enter func135,ntmps135;go_wp2_with fail;refine(vH _ _ _ _).bC ?_;rintro e i⟨rfl,rfl⟩;rw[nM M.o.cv];go_wp2;go_ret;exact⟨rfl,bM _ _⟩
abbrev F7(g:Nat):Array Value:=#[.string ⟨#[109,101,109,98,101,114,115]⟩,.func (.func 123) #[] #[.pointer (some (be g 0))],.string ⟨#[115,101,99,115]⟩,.func (.func 125) #[] #[.pointer (some (be g 0))],.string ⟨#[99,121,99,108,101,115]⟩,.func (.func 127) #[] #[.pointer (some (be g 0))],.string ⟨#[108,105,110,101]⟩,.func (.func 129) #[] #[.pointer (some (be g 0))],.string ⟨#[99,97,112,105,116,97,108]⟩,.func (.func 131) #[] #[.pointer (some (be g 0))],.string ⟨#[108,101,97,100]⟩,.func (.func 132) #[] #[.pointer (some (be g 0))],.string ⟨#[116,114,97,100,101,115]⟩,.func (.func 134) #[] #[.pointer (some (be g 0))],.string ⟨#[98,105,100,115]⟩,.func (.func 135) #[] #[.pointer (some (be g 0))]]
def Ni(vm vs vc:Value)(C:bZ)(w:World)(e:Ending)(w':World):Prop:=∃g h,e=.returned (.slice (some ⟨h,0,none⟩) 8 8)/\bI w' g 26 (cU vm vs vc C)/\bI w' h 172 (F7 g)/\Bw w w'
def Nj(vm vs vc:bE)(C:bZ)(w:bD):bG 90 #[eT vm vs vc C] w (Ni vm vs vc C w):=by
 go_enter func90,ntmps90;go_wp2;go_ret;refine⟨w,w.heap.size+1,rfl, ?_, ?_,aI.alloc au _⟩
 ·exact(bI.new _ _ _).alloc _
 ·have:=bI.new (aZ w (cU vm vs vc C) 26) 172 (F7 w)
  simpa using this
def Nk(vm vs vc:bE)(C:bZ)(w:bD)(hc:dM w vm vs vc C)(hv:dz C):bG 60 #[eT vm vs vc C] w (bi (.string ⟨#[]⟩) w):=by
 let⟨M,G⟩:=Jh2 hv hc;clear hc hv;go_enter func60,ntmps60;go_wp2_with fail;refine(Nj vm vs vc C _).bC ?_;rintro e q⟨g,h,rfl,J,m,b⟩;have z:Bw w q:=aI.bu (b.bC au);let⟨p,Z,s⟩:=Jh3 J m (G.o.keep z);clear J m b;go_wp2;go_loopw[8] (fun i wr=>∃k:Nat,k<=8/\i=k/\Bw q wr) (fun i _=>8-(intOf i).toNat);exact⟨0,af,rfl,bM _ _⟩;obtain⟨k,y,rfl,a⟩:=hrel;let⟨F,d⟩:=Jh2 (p.o.keep a) (s.o.keep a);have c:=Z.o.keep a;let⟨A,E,H,B,N,l,u,r⟩:=c.k8 0 1 2 3 4 5 6 7;let⟨D,t,j,v,T,f,L,x⟩:=c.k8 8 9 10 11 12 13 14 15;clear c;have n:k=0∨k=1∨k=2∨k=3∨k=4∨k=5∨k=6∨k=7∨k=8:=af;rcases n with rfl|rfl|rfl|rfl|rfl|rfl|rfl|rfl|rfl;case' inr.inr.inr.inr.inr.inr.inr.inr=>
  go_wp2;go_ret;exact⟨rfl,z.bu (a.bC z.size)⟩
 all_goals
  go_wp2_with(first|(go_at_call 123;refine(M9 vm vs vc C g _ (F.o.alloc _) (d.o.alloc _) M.o).bC ?_;rintro e V⟨rfl,b⟩;have R:=aa ((a.alloc a.size _).bu (b.bC (by have:=a.size;simp;omega)));clear b)|(go_at_call 125;refine(Na vm vs vc C g _ (F.o.alloc _) (d.o.alloc _) M.o).bC ?_;rintro e V⟨rfl,b⟩;have R:=aa ((a.alloc a.size _).bu (b.bC (by have:=a.size;simp;omega)));clear b)|(go_at_call 127;refine(Nb vm vs vc C g _ (F.o.alloc _) (d.o.alloc _) M.o).bC ?_;rintro e V⟨rfl,b⟩;have R:=aa ((a.alloc a.size _).bu (b.bC (by have:=a.size;simp;omega)));clear b)|(go_at_call 129;refine(Nc vm vs vc C g _ (F.o.alloc _) (d.o.alloc _) M.o).bC ?_;rintro e V⟨rfl,b⟩;have R:=aa ((a.alloc a.size _).bu (b.bC (by have:=a.size;simp;omega)));clear b)|(go_at_call 131;refine(Nd vm vs vc C g _ (F.o.alloc _) (d.o.alloc _) M.o).bC ?_;rintro e V⟨rfl,b⟩;have R:=aa ((a.alloc a.size _).bu (b.bC (by have:=a.size;simp;omega)));clear b)|(go_at_call 132;refine(Nf vm vs vc C g _ (F.o.alloc _) (d.o.alloc _) M.o).bC ?_;rintro e V⟨rfl,b⟩;have R:=aa ((a.alloc a.size _).bu (b.bC (by have:=a.size;simp;omega)));clear b)|(go_at_call 134;refine(Ng vm vs vc C g _ (F.o.alloc _) (d.o.alloc _) M.o).bC ?_;rintro e V⟨rfl,b⟩;have R:=aa ((a.alloc a.size _).bu (b.bC (by have:=a.size;simp;omega)));clear b)|(go_at_call 135;refine(Nh vm vs vc C g _ (F.o.alloc _) (d.o.alloc _) M.o).bC ?_;rintro e V⟨rfl,b⟩;have R:=aa ((a.alloc a.size _).bu (b.bC (by have:=a.size;simp;omega)));clear b));go_roundw
  case rel=>first|exact⟨1,ah,aB,R.o⟩|exact⟨2,ah,aB,R.o⟩|exact⟨3,ah,aB,R.o⟩|exact⟨4,ah,aB,R.o⟩|exact⟨5,ah,aB,R.o⟩|exact⟨6,ah,aB,R.o⟩|exact⟨7,ah,aB,R.o⟩|exact⟨8,ah,aB,R.o⟩
  case measure=>simp[intOf]
def sw(vm vs vc:bE)(C:bZ)(w:bD)(hc:dM w vm vs vc C)(hv:dz C):bG 29 #[eT vm vs vc C] w (bi (aY 0) w):=by let⟨G,M⟩:=Jh2 hc hv;clear hc hv;go_enter func29,ntmps29;go_wp2_with fail;refine(Nk vm vs vc C _ (G.o.alloc _) M.o).bC ?_;rintro e i⟨rfl,b⟩;have z:Bw w i:=aI.bu (b.bC au);clear b;go_wp2;go_ret;exact⟨rfl,z⟩
section
attribute [local go_sem ↓] wp_at_zero wp_at_succ
structure iz(w:World)(B:Nat)(vm vs vc:Value)(C:bZ):Prop where
 m:w.ownsRow B 125 2 vm C.mem (bN mU C.mem)
 s:w.ownsRow B 127 2 vs C.secs (bN mV C.secs)
 c:w.ownsRow B 63 4 vc C.bU (bN nJ C.bU)
def iz.sl(h:iz w B vm vs vc C):dM w vm vs vc C:=⟨Sl.own xL h.m,Sl.own xN h.s,Sl.own xP h.c⟩
def iz.keep(h:iz w B vm vs vc C)(hb:Bw w w'):iz w' B vm vs vc C:=⟨cJ h.m hb,cJ h.s hb,cJ h.c hb⟩
def iz.mono{B':Nat}(h:iz w B vm vs vc C)(hb:B'<=B):iz w B' vm vs vc C:=⟨d8 h.m hb,d8 h.s hb,d8 h.c hb⟩
def iz.bC:=@iz.mono
def zd{wd:bD}(c:Bw wd w')(e:wd.heap=w.heap):∀k,k<w.heap.size->w'.heap[k]?=w.heap[k]?:=fun k hk=>by rw[c.block k (by rw[e];exact hk),e]
def bI.keepD{wd:bD}(h:bI w g T cs)(c:Bw wd w')(e:wd.heap=w.heap:=by rfl):bI w' g T cs:=(zd c e g h.lt).bu h
def Sl.keepD{α:Type}{enc:α->bF bE}{wd:bD}{l:bF α}(h:Sl enc k W v l)(hb:Bw wd W')(e:wd.heap=W.heap:=by rfl):Sl enc k W' v l:=by obtain⟨a,U,R,H,d,c,P⟩:=h;refine⟨a,U,R,H,d,c,fun h0=> ?_⟩;let⟨b,m,ha,f,n⟩:=P h0;exact⟨b,m,ha,iN f (by rw[<-e];exact hb.size),fun i hi j x hx=>(tV (w:=W) (zd hb e b f)).bu (n i hi j x hx)⟩
def dM.keepD{wd:bD}(h:dM w vm vs vc C)(hb:Bw wd w')(e:wd.heap=w.heap:=by rfl):dM w' vm vs vc C:=⟨h.m.keepD hb e,h.s.keepD hb e,h.c.keepD hb e⟩
def sx{wd:bD}{base:Nat}(h:w.ownsRow base e size v n xs)(hb:Bw wd w')(eh:wd.heap=w.heap:=by rfl):w'.ownsRow base e size v n xs:=ed h fun g hg=>zd hb eh g (h.lt g hg).2
def iY{wd:bD}(h:Below n w0 w)(hb:Bw wd w')(hn:n<=w)(e1:wd.heap=w.heap:=by rfl)(e2:wd.os=w.os:=by rfl)(e3:wd.tape=w.tape:=by rfl)(e4:wd.output=w.output:=by rfl):Below n w0 w':=⟨hb.os.bu (e2.bu h.os),hb.tape.bu (e3.bu h.tape),hb.output.bu (e4.bu h.output),bW h.size (by rw[<-e1];exact hb.size),fun k hk=>(zd hb e1 k af).bu (h.block k hk)⟩
def bV{base:Nat}(h:w.ownsRow base e size v n xs):∃a cap,v=.slice a n cap:=by
 obtain⟨_,c⟩:=h;rcases c with⟨rfl,rfl⟩|⟨g,cap,cur,rfl,_⟩
 ·exact⟨_,_,rfl⟩
 ·exact⟨_,_,rfl⟩
structure pJ(w:World)(g:Nat)(T:TypeId)(cs:Array Value)(W:World):Prop where
 row:bI W g T cs
 mod:ec [g] w W
 size:W.heap.size=w.heap.size
 far:∀i,i≠g->W.heap[i]?=w.heap[i]?
variable{ops:Array Oper}{rest:bF Oper}{Q:Exit->Act->bD->Prop}
def fQ{o:Oper}{a:Act}(hgd:o.guard=none)(T:TypeId)(x y:Operand)(ho:o.op=.store T x y)(hd:o.dst=none)(g:Nat)(cs:Array bE)(hx:a.eval x=.pointer (some (be g 0)))(hy:a.eval y=.agg cs)(hi:(prog.info? T).map (·.size)=some cs.size)(h1:cs.all (·.oneCell')=true)(kS:Array bE)(hg:bI w g T kS)(hold:kS.size=cs.size)(h:∀W,pJ w g T cs W->wpList prog ops Q rest a W):wpList prog ops Q (o::rest) a w:=wpList_store_rowTo hgd T x y ho hd g cs hx hy T kS hg hi hold h1 (h _ ⟨setRow_heap _ _ _ _ _ _ hg,⟨rfl,rfl,rfl,au,fun k _ hk=>setRow_other _ _ _ _ (aG hk)⟩,au,fun i hi=>setRow_other _ _ _ _ hi⟩)
def pJ.low(h:pJ w g T cs W)(hb:Below w0 w0 w)(hg:w0.heap.size<=g):Below w0 w0 W:=h.mod.low hb (aG hg)
structure Nl(w X:World)(v1 v2 v3:Value)(C:bZ):Prop where
 blk:bI X w 26 (cU v1 v2 v3 C)
 res:bI X (w.heap.size+1) 26 (cU bd bd bd ⟨[],[],[],0,0,0,0,0⟩)
 own:iz X (w.heap.size+2) v1 v2 v3 C
 low:Bw w X
def Nm{X:bD}{v1 v2 v3:bE}(hb:bI X w 26 (cU vm vs vc C))(hr:bI X (w.heap.size+1) 26 (cU bd bd bd ⟨[],[],[],0,0,0,0,0⟩))(ho:iz X (w.heap.size+2) v1 v2 v3 C)(hl:Bw w X):Nl w (((X.setCell (be w 0) v1).setCell (be w 1) v2).setCell (be w 2) v3) v1 v2 v3 C:=by
 have a:∀k,k≠w.heap.size->(((X.setCell (be w 0) v1).setCell (be w 1) v2).setCell (be w 2) v3).heap[k]?=X.heap[k]?:=fun k hk=>by
  rw[fV _ _ _ _ hk,fV _ _ _ _ hk,fV _ _ _ _ hk]
 refine⟨?_,(a _ af).bu hr,⟨ed ho.m fun g hg=>a g ?_,ed ho.s fun g hg=>a g ?_,ed ho.c fun g hg=>a g ?_⟩, ?_⟩
 ·exact((hb.set 0 v1).set 1 v2).set 2 v3
 ·have:=(ho.m.lt g hg).1;omega
 ·have:=(ho.s.lt g hg).1;omega
 ·have:=(ho.c.lt g hg).1;omega
 ·exact((hl.setCell (p:=(be w 0)) au _).setCell (p:=(be w 1)) au _).setCell (p:=(be w 2)) au _
def Nn(C:bZ)(w:World)(e:Ending)(w':World):Prop:=∃vm vs vc,e=.returned (eT vm vs vc C)/\iz w' w vm vs vc C/\Bw w w'
def ze(vm vs vc:bE)(C:bZ)(w:bD)(hc:dM w vm vs vc C)(hv:dz C):bG 32 #[eT vm vs vc C] w (Nn C w):=by
 have P:Bw w ((w.alloc (bH (cU vm vs vc C) 26)).alloc (bH (cU bd bd bd ⟨[],[],[],0,0,0,0,0⟩) 26)):=aI.alloc au _;let⟨G,N⟩:=Jh2 (hc.keep P) ((bI.new w 26 (cU vm vs vc C)).alloc (bH (cU bd bd bd ⟨[],[],[],0,0,0,0,0⟩) 26));have q:=aa (show bI ((w.alloc (bH (cU vm vs vc C) 26)).alloc (bH (cU bd bd bd ⟨[],[],[],0,0,0,0,0⟩) 26)) (w.heap.size+1) 26 (cU bd bd bd ⟨[],[],[],0,0,0,0,0⟩)from heap_alloc2_new _ _ _);have HZ:=aa (show((w.alloc (bH (cU vm vs vc C) 26)).alloc (bH (cU bd bd bd ⟨[],[],[],0,0,0,0,0⟩) 26)).heap.size=w.heap.size+2 from au);let⟨l1,O,l3⟩:=Jt3 hv.m2 hv.s2 hv.c2;clear hc hv;dsimp only[cU]at P G N q HZ;go_enter func32,ntmps32;go_wp2_with fail;generalize((w.alloc (bH #[vm,vs,vc,C.line,C.capital,C.lead,C.cj,C.cv] 26)).alloc (bH #[bd,bd,bd,(),(),(),(),()] 26))=W0 at*
 let⟨j,Z,Y⟩:=N.o.k3 0 1 2;have z:=N.o.free 0;have y:=N.o.free 1;have f2:=N.o.free 2;go_region_with((first
  |(go_at_call 66;refine(MG vm C.mem _ (by exact G.o.m) af).bC ?_;rintro e V⟨v1,rfl,I,b⟩;obtain⟨W,K,rfl⟩:=bV I;have J:=aa (N.o.keepD b);have a0:=J.o.c 0;have n:=J.o.c 1;have a2:=J.o.c 2;have t:=aa (G.o.keepD b))
  |(go_at_call 67;refine(MH vs C.secs _ (by exact t.o.s) af).bC ?_;rintro e x2⟨v2,rfl,S,f⟩;obtain⟨B,U,rfl⟩:=bV S;have B2:=aa (J.o.keepD f);have D:=B2.o.c 0;have a4:=B2.o.c 1;have Q:=B2.o.c 2;have C2:=aa (t.o.keepD f))
  |(go_at_call 68;refine(MI vc C.bU _ (by exact C2.o.c) af).bC ?_;rintro e L⟨v3,rfl,R,c3⟩;obtain⟨A,u,rfl⟩:=bV R;have d:=aa (B2.o.keepD c3);have a6:=d.o.c 0;have a7:=d.o.c 1;have a:=d.o.c 2;have k:=d.o.free 0;have h:=d.o.free 1;have g2:=d.o.free 2)))
 all_goals
  have ab:W0.heap.size=w.heap.size+2:=HZ.o;have F:=aa (Nm (w:=w) d.o ((q.o.keepD b).keepD f|>.keepD c3) ⟨d8 (sx (sx I f) c3) (by first|exact Nat.le_of_eq ab.symm|(show _<=W0.heap.size;omega)),d8 (sx S c3) (by have:=b.size;first|(show _<=V.heap.size;have T:W0.heap.size<=V:=this;omega)),d8 R (by have i:W0.heap.size<=V:=b.size;have T:V.heap.size<=x2:=f.size;show _<=x2.heap.size;omega)⟩ (iY (iY (iY P b P.size) f (by have:=P.size;have i:W0.heap.size<=V:=b.size;omega)) c3 (by have:=P.size;have i:W0.heap.size<=V:=b.size;have T:V.heap.size<=x2:=f.size;omega)));clear I S R b f c3 a0 n a2 D a4 Q a6 a7 a k h g2 j Z Y z y f2 J B2 d t C2 ab;generalize(((L.setCell (be w.heap.size 0) (.slice W C.mem.length K)).setCell (be w.heap.size 1) (.slice B C.secs.length U)).setCell (be w.heap.size 2) (.slice A C.bU.length u))=X at*
  let⟨j,Z,Y,p3,p4,p5,p,p7⟩:=F.o.blk.k8 0 1 2 3 4 5 6 7;go_wp2_with(refine fQ rfl 26 _ _ rfl rfl (w.heap.size+1) (cU (.slice W C.mem K) (.slice B C.secs U) (.slice A C.bU u) C) rfl rfl aj aD _ F.o.res rfl ?_;intro M x;have q0:=x.row.c 0;have E:=x.row.c 1;have H:=x.row.c 2;have q3:=x.row.c 3;have q4:=x.row.c 4;have l:=x.row.c 5;have q6:=x.row.c 6;have r:=x.row.c 7);refine wb (v:=eT (.slice W C.mem K) (.slice B C.secs U) (.slice A C.bU u) C) (by simp[results,results32,go_sem,q0,E,H,q3,q4,l,q6,r]) rfl ⟨_,_,_,rfl, ?_,x.low F.o.low af⟩;exact(iz.bC ⟨ed F.o.own.m fun g hg=>x.far g (by have:=(F.o.own.m.lt g hg).1;omega),ed F.o.own.s fun g hg=>x.far g (by have:=(F.o.own.s.lt g hg).1;omega),ed F.o.own.c fun g hg=>x.far g (by have:=(F.o.own.c.lt g hg).1;omega)⟩ af)
def No(vm vs vc:bE)(C:bZ)(w:bD)(hc:dM w vm vs vc C)(k:Nat)(hk:k<C.mem):
  bG 112 #[eT vm vs vc C,aY ((k:Int)+1)] w (bi (.tuple #[sp C.mem[k],()]) w):=by
 obtain⟨a,U,rfl,_,t,d,F⟩:=hc.m;unfold maxLen at d;obtain⟨b,c,rfl,W,n⟩:=F af;let⟨A,E⟩:=xM (n k hk);have q:decide ((k:Int)+1<1)=false:=dF af;have N:decide ((C.mem:Int)<(k:Int)+1)=false:=dF af;have P:Bw w ((w.alloc (bH (cU (.slice (some (b,c)) C.mem U) vs vc C) 26)).alloc (bH (eR C.mem[k]) 125)):=aI.alloc au _;have O:0<=(k:Int):=af;have f:k<(C.mem:Int):=af;clear n F hc;generalize C.mem[k]=x at*;go_enter func112,ntmps112;go_wp2;exact wb (v:=.tuple #[sp x,()]) Qdl rfl ⟨rfl,P⟩
def Np(vm vs vc:bE)(C:bZ)(w:bD)(hc:dM w vm vs vc C)(i:Int)(h:i<1∨(C.mem:Int)<i):
  bG 112 #[eT vm vs vc C,i] w (bi (.tuple #[sp ⟨0,0⟩,(9:Int)]) w):=by
 obtain⟨a,U,rfl,_,t,d,F⟩:=hc.m;unfold maxLen at d;clear F hc;have P:Bw w ((w.alloc (bH (cU (.slice a C.mem U) vs vc C) 26)).alloc (bH (eR ⟨0,0⟩) 125)):=aI.alloc au _;have b:i<1∨(1<=i/\(C.mem:Int)<i):=af;clear h;rcases b with h|⟨h0,h⟩
 all_goals
  go_enter func112,ntmps112;go_wp2;exact wb (v:=.tuple #[sp ⟨0,0⟩,(9:Int)]) Qdl rfl ⟨rfl,P⟩
def F9(vm vs vc:bE)(C:bZ)(w:bD)(hc:dM w vm vs vc C)(k:Nat)(hk:k<C.secs):
  bG 144 #[eT vm vs vc C,aY ((k:Int)+1)] w (bi (.tuple #[vD C.secs[k],()]) w):=by
 obtain⟨a,U,rfl,_,t,d,F⟩:=hc.s;unfold maxLen at d;obtain⟨b,m,rfl,W,n⟩:=F af;let⟨A,E⟩:=Bg (n k hk);have q:decide ((k:Int)+1<1)=false:=dF af;have N:decide ((C.secs:Int)<(k:Int)+1)=false:=dF af;have P:Bw w ((w.alloc (bH (cU vm (.slice (some (b,m)) C.secs U) vc C) 26)).alloc (bH (iQ C.secs[k]) 127)):=aI.alloc au _;have O:0<=(k:Int):=af;have c:k<(C.secs:Int):=af;clear n F hc;generalize C.secs[k]=x at*;go_enter func144,ntmps144;go_wp2;exact wb (v:=.tuple #[vD x,()]) Qdm rfl ⟨rfl,P⟩
def Gb(vm vs vc:bE)(C:bZ)(w:bD)(hc:dM w vm vs vc C)(i:Int)(h:i<1∨(C.secs:Int)<i):
  bG 144 #[eT vm vs vc C,i] w (bi (.tuple #[vD ⟨0,0⟩,(10:Int)]) w):=by
 obtain⟨a,U,rfl,_,t,d,F⟩:=hc.s;unfold maxLen at d;clear F hc;have P:Bw w ((w.alloc (bH (cU vm (.slice a C.secs U) vc C) 26)).alloc (bH (iQ ⟨0,0⟩) 127)):=aI.alloc au _;have b:i<1∨(1<=i/\(C.secs:Int)<i):=af;clear h;rcases b with h|⟨h0,h⟩
 all_goals
  go_enter func144,ntmps144;go_wp2;exact wb (v:=.tuple #[vD ⟨0,0⟩,(10:Int)]) Qdm rfl ⟨rfl,P⟩
def Nq(n:Int)(hn:0<=n)(w:bD):bG 64 #[n] w fun e w'=>e=.returned (.pointer (some (be w 0)))/\w'=aZ w #[n,bd] 188:=by go_enter func64,ntmps64;go_wp2;go_ret;exact⟨rfl,by first|rfl|rw[Int.max_eq_left hn]⟩
def Nr(n:Int)(hn:0<=n)(w:bD):bG 65 #[n] w fun e w'=>e=.returned (.pointer (some (be w 0)))/\w'=aZ w #[n,bd] 191:=by go_enter func65,ntmps65;go_wp2;go_ret;exact⟨rfl,by first|rfl|rw[Int.max_eq_left hn]⟩
def Ns(n:Int)(hn:0<=n)(w:bD):bG 92 #[n] w fun e w'=>e=.returned (.pointer (some (be w 0)))/\w'=aZ w #[n,bd] 227:=by go_enter func92,ntmps92;go_wp2;go_ret;exact⟨rfl,by first|rfl|rw[Int.max_eq_left hn]⟩
def Nt(n:Int)(hn:0<=n)(w:bD):bG 33 #[n] w fun e w'=>e=.returned (.pointer (some (be w 0)))/\w'=aZ w #[n,bd] 150:=by go_enter func33,ntmps33;go_wp2;go_ret;exact⟨rfl,by first|rfl|rw[Int.max_eq_left hn]⟩
def Nu(w:bD):bG 63 #[] w fun e w'=>e=.returned (.pointer (some (be w 0)))/\w'=aZ w #[bd] 186:=by go_enter func63,ntmps63;go_wp2;go_ret;exact⟨rfl,rfl⟩
structure ju(w:World)(B g:Nat)(v:Value)(ms na:Int)(l:List Int)(dd:Int):Prop where
 blk:bI w g 224 #[ms,na,v,dd]
 own:w.ownsRow B 2 1 v l (bN eI l)
def zf(n:Nat):(madeCells (Value.int .i64 0).cells (n*1)).toList=bN eI (List.replicate n 0):=by
 rw[nN,List.map_replicate,gD];apply jG
 ·simp[madeCells]
 ·intro i d c;simp[madeCells,Value.cells,Nat.mod_one]
def Nv(ms na:Nat)(h1:ms<=16)(h2:1<=na)(h3:na<=9)(w:bD):bG 91 #[ms,na] w fun e w'=>∃v,e=.returned (.tuple #[.pointer (some (be (w.heap.size+1) 0)),()])/\ju w' w (w.heap.size+1) v ms na (List.replicate (na*(6+3*ms)) 0) 0/\Bw w w':=by
 let⟨J,p,S,X,q⟩:=wm mW;have s:(na:Int)*(6+3*(ms:Int))=((na*(6+3*ms):Nat):Int):=by push_cast;rfl
 have g:na*(6+3*ms)<=9*54:=qm h3 af;have u:=aa s;let⟨N,f⟩:=aH (na*(6+3*ms));rw[f]at g;have k:=fun W=>run_makeSlice (P:=prog) W 45 2 J (aY 0) underlying45 p S .i64 .i64 (N:Int) (N:Int) af af (by rw[X];omega) QcW af;simp only[xD,X]at k;have C:wrap64 ((na:Int)*(6+3*(ms:Int)))=(N:Int):=by rw[s,f];unfold wrap64;omega
 have I:=aa f;have Q:=aa (show((w.alloc (bH (madeCells (Value.int .i64 0).cells (N*1)) 2)).alloc (bH #[ms,na,.slice (some (be w 0)) N N,()] 224)).ownsRow w 2 1 (.slice (some (be w 0)) N N) (List.replicate N (0:Int)).length (bN eI (List.replicate N 0))from by
  refine World.ownsRow.alloc ?_ _;refine⟨by rw[ik eI 1 kI],ci ⟨w,N,_,by rw[oq],bL _,heap_alloc_new _ _,au,az,size_madeCells _ _, ?_⟩⟩;rw[oq,zf,eU];rw[ik eI 1 kI,oq];exact bL _)
 have b:=aa (show bI ((w.alloc (bH (madeCells (Value.int .i64 0).cells (N*1)) 2)).alloc (bH #[ms,na,.slice (some (be w 0)) N N,()] 224)) (w.heap.size+1) 224 #[ms,na,.slice (some (be w 0)) N N,()]from heap_alloc2_new _ _ _);have a:Bw w ((w.alloc (bH (madeCells (Value.int .i64 0).cells (N*1)) 2)).alloc (bH #[ms,na,.slice (some (be w 0)) N N,()] 224)):=aI.alloc au _;clear s f u;generalize madeCells (Value.int .i64 0).cells (N*1)=MC at*;go_enter func91,ntmps91;go_wp2_with(go_at_call 136;refine(FY _ af af _).bC ?_;rintro e i⟨rfl,rfl⟩);clear k C;go_wp2;go_ret2;exact⟨_,rfl,by rw[I.o];exact⟨b.o,Q.o⟩,a⟩
abbrev ptr(g:Nat):Value:=.pointer (some (be g 0))
def ju.keep{ms na:Int}{p:Int}(h:ju w B g v ms na l p)(hb:Bw w w'):ju w' B g v ms na l p:=⟨h.blk.keep hb,cJ h.own hb⟩
def ju.mono{B':Nat}{ms na:Int}{p:Int}(h:ju w B g v ms na l p)(hb:B'<=B):ju w B' g v ms na l p:=⟨h.blk,d8 h.own hb⟩
def ju.bC:=@ju.mono
structure sy(w w':World)(gv gb gh:Nat)(vb:Value)(ms na:Nat)(room:Int):Prop where
 blk:bI w' gv 184 #[ptr gb,ptr gh]
 book:ju w' w gb vb ms na (List.replicate (na*(6+3*ms)) 0) 0
 holds:bI w' gh 227 #[room,bd]
 l1:w.heap.size<=gv
 l2:w.heap.size<=gb
 l3:w.heap.size<=gh
def Nw(ms na:Nat)(room:Int)(w:World)(e:Ending)(w':World):Prop:=∃gv gb gh vb,e=.returned (.tuple #[ptr gv,()])/\sy w w' gv gb gh vb ms na room/\Bw w w'
def Nx(ms na:Nat)(room:Int)(h1:ms<=16)(h2:1<=na)(h3:na<=9)(h4:0<=room)(w:bD):bG 62 #[ms,na,room] w (Nw ms na room w):=by
 go_enter func62,ntmps62;go_wp2_with fail;refine(Nv ms na h1 h2 h3 _).bC ?_;rintro e i⟨R,rfl,a,z⟩;have N:=aa a;clear a;go_wp2_with fail;refine(Ns room h4 _).bC ?_;rintro e k⟨rfl,rfl⟩;go_wp2;go_ret2;have L:=z.size;have S:=N.o.blk.lt;refine⟨_,w.heap.size+1,i.heap.size,R,rfl,⟨?_, ?_, ?_, ?_,af,L⟩, ?_⟩
 ·exact heap_alloc2_new _ _ _
 ·exact N.o.keep (aI.alloc au _)
 ·exact heap_alloc2_old _ _ _
 ·first|omega|(simp;omega)
 ·exact(z.alloc z.size _).alloc aA _
structure sA(w w':World)(g:Nat)(vm vs vc:Value)(C:bZ):Prop where
 blk:bI w' g 175 #[vm,vs,vc,C.line,C.capital,C.lead,C.cj,C.cv,bd]
 ct:iz w' w vm vs vc C
 l1:w.heap.size<=g
def Ny(C:bZ)(w:World)(e:Ending)(w':World):Prop:=∃g vm vs vc,e=.returned (.tuple #[ptr g,()])/\sA w w' g vm vs vc C/\Bw w w'
def Nz(vm vs vc:bE)(C:bZ)(w:bD)(hc:dM w vm vs vc C)(hv:dz C):bG 61 #[eT vm vs vc C] w (Ny C w):=by let⟨G,N,M⟩:=Jh3 (hc.alloc (bH (cU vm vs vc C) 26)) (bI.new w 26 (cU vm vs vc C)) hv;clear hc hv;go_enter func61,ntmps61;go_wp2_with fail;refine(sw vm vs vc C _ G.o M.o).bC ?_;rintro e i⟨rfl,b⟩;let⟨R,a⟩:=Jh2 (N.o.keep b) (G.o.keep b);have z:Bw w i:=aI.bu (b.bC au);let⟨j,Z,Y,y,h,d,p,X⟩:=R.o.k8 0 1 2 3 4 5 6 7;clear b N G;go_wp2_with fail;refine(ze vm vs vc C _ a.o M.o).bC ?_;rintro e k⟨I,g,T,rfl,S,f⟩;have Q:=aa S;have t:=z.bu (f.bC z.size);have L:=z.size;obtain⟨W,K,rfl⟩:=bV S.m;obtain⟨B,U,rfl⟩:=bV S.s;obtain⟨A,u,rfl⟩:=bV S.c;clear f j Z Y y h d p X S;go_wp2;go_ret2;refine⟨k,_,_,_,rfl,⟨heap_alloc_new _ _,(Q.o.keep aI).bC L,t.size⟩,t.alloc t.size _⟩
abbrev Bo(vm vs vc:Value)(C:bZ)(gv gs gx:Nat)(who:Value)(dt state:Int)(nE:Bool)(log:Value):Array Value:=#[vm,vs,vc,C.line,C.capital,C.lead,C.cj,C.cv,ptr gv,ptr gs,ptr gx,who,dt,state,.bool nE,log]
structure sB(w w':World)(gd gv gb gh gs gx:Nat)(vb vm vs vc um us uc:Value)(C:bZ):Prop where
 blk:bI w' gd 138 (Bo vm vs vc C gv gs gx bd 0 0 false bd)
 ct:iz w' w vm vs vc C
 gC:sy w w' gv gb gh vb C.mem (C.secs.length+1) C.mem
 fZ:bI w' gs 186 #[bd]
 box:sA w w' gx um us uc C
 l1:w.heap.size<=gd
 l2:w.heap.size<=gs
def NA(C:bZ)(w:World)(e:Ending)(w':World):Prop:=∃gd gv gb gh gs gx vb vm vs vc um us uc,e=.returned (.tuple #[ptr gd,()])/\sB w w' gd gv gb gh gs gx vb vm vs vc um us uc C/\Bw w w'
variable{w1 w2:bD}{gv gb gh ms:Nat}{vb:bE}
def sy.keep{na:Nat}{room:Int}(h:sy w w1 gv gb gh vb ms na room)(hb:Bw w1 w2):sy w w2 gv gb gh vb ms na room:=⟨h.blk.keep hb,h.book.keep hb,h.holds.keep hb,h.l1,h.l2,h.l3⟩
def sy.base{na:Nat}{room:Int}(h:sy w w1 gv gb gh vb ms na room)(hb:w0.heap.size<=w):sy w0 w1 gv gb gh vb ms na room:=⟨h.blk,h.book.bC hb,h.holds,bW hb h.l1,bW hb h.l2,bW hb h.l3⟩
def sA.keep(h:sA w w1 g vm vs vc C)(hb:Bw w1 w2):sA w w2 g vm vs vc C:=⟨h.blk.keep hb,h.ct.keep hb,h.l1⟩
def sA.base(h:sA w w1 g vm vs vc C)(hb:w0.heap.size<=w):sA w0 w1 g vm vs vc C:=⟨h.blk,h.ct.bC hb,bW hb h.l1⟩
def NC(vm vs vc:bE)(C:bZ)(w:bD)(hc:dM w vm vs vc C)(hv:dz C):bG 30 #[eT vm vs vc C] w (NA C w):=by
 let⟨G,N,M⟩:=Jh3 (hc.alloc (bH (cU vm vs vc C) 26)) (bI.new w 26 (cU vm vs vc C)) hv;have l1:=hv.m2;have l2:=hv.s2;obtain⟨n,z1,rfl,_,x,d2,_⟩:=hc.m;obtain⟨a2,J,rfl,_,l,d4,_⟩:=hc.s;clear hc hv;go_enter func30,ntmps30;go_wp2_with fail;refine(Nz _ _ vc C _ G.o M.o).bC ?_;rintro e i⟨gx,I,us,T,rfl,hX,b⟩;let⟨E,R,a⟩:=Jh3 (hX.base (w0:=w) au) (N.o.keep b) (G.o.keep b);have z:Bw w i:=aI.bu (b.bC au);let⟨j,p1⟩:=R.o.k2 0 1;clear b N G hX;go_wp2_with fail;refine(Nx C.mem (C.secs.length+1) C.mem l1 af af af _).bC ?_;rintro e k⟨g,L,gh,vb,rfl,P,f⟩;let⟨v,p,Z,Q⟩:=Jh4 (P.base z.size) (E.o.keep f) (R.o.keep f) (a.o.keep f);have t:=z.bu (f.bC z.size);clear f j p1 R a E P z;let⟨j,p1,Y,y,h,p5,p6,X⟩:=Z.o.k8 0 1 2 3 4 5 6 7;go_wp2_with fail;refine(ze _ _ vc C _ Q.o M.o).bC ?_;rintro e O⟨tm,D,tc,rfl,S,F⟩;let⟨H,r,q⟩:=Jh3 (v.o.keep F) (p.o.keep F) (S.bC t.size);have V:=t.bu (F.bC t.size);obtain⟨W,K,rfl⟩:=bV S.m;obtain⟨B,U,rfl⟩:=bV S.s;obtain⟨A,u,rfl⟩:=bV S.c;clear F j p1 Y y h p5 p6 X Z Q p v S t;go_wp2_with fail;refine(Nu _).bC ?_;rintro e w4⟨rfl,rfl⟩;go_wp2;go_ret2;have d:Bw O ((O.alloc (bH #[bd] 186)).alloc (bH (Bo (.slice W C.mem K) (.slice B C.secs U) (.slice A C.bU u) C g O gx bd 0 0 false bd) 138)):=aI.alloc au _;refine⟨_,g,L,gh,O.heap.size,gx,vb,_,_,_,I,us,T,rfl,⟨heap_alloc2_new _ _ _,q.o.keep d,H.o.keep d,heap_alloc2_old _ _ _,r.o.keep d, ?_,V.size⟩,V.bu (d.bC V.size)⟩;have:=V.size
 first|omega|(simp;omega)
def Sl.d{α:Type}{enc:α->bF bE}{wd:bD}{l:bF α}(h:Sl enc k w v l)(e:wd.heap=w.heap:=by rfl):Sl enc k wd v l:=by obtain⟨a,U,R,H,g,c,P⟩:=h;refine⟨a,U,R,H,g,c,fun h0=> ?_⟩;let⟨b,m,ha,f,n⟩:=P h0;exact⟨b,m,ha,by rw[e];exact f,fun i hi j x hx=>(tV (w:=w) (by rw[e])).bu (n i hi j x hx)⟩
def dM.d{wd:bD}(h:dM w vm vs vc C)(e:wd.heap=w.heap:=by rfl):dM wd vm vs vc C:=⟨h.m.d e,h.s.d e,h.c.d e⟩
abbrev zg(vm vs vc:Value)(C:bZ)(gt gu:Nat)(acc:Int):Array Value:=#[vm,vs,vc,C.line,C.capital,C.lead,C.cj,C.cv,ptr gt,ptr gu,acc]
structure sC(w w':World)(gr gt gu:Nat)(vm vs vc:Value)(C:bZ):Prop where
 blk:bI w' gr 144 (zg vm vs vc C gt gu 0)
 ct:iz w' w vm vs vc C
 cj:bI w' gt 188 #[C.cj,bd]
 used:bI w' gu 191 #[(C.cj*C.bU.length:Int),bd]
 l1:w.heap.size<=gr
 l2:w.heap.size<=gt
 l3:w.heap.size<=gu
def ND(C:bZ)(w:World)(e:Ending)(w':World):Prop:=∃gr gt gu vm vs vc,e=.returned (.tuple #[ptr gr,()])/\sC w w' gr gt gu vm vs vc C/\Bw w w'
def Bp(T:TypeId)(n:Int)(w:World)(e:Ending)(w':World):Prop:=∃g,e=.returned (ptr g)/\bI w' g T #[n,bd]/\w.heap.size<=g/\Bw w w'
def Gc(n:Int)(hn:0<=n)(w:bD):bG 64 #[n] w (Bp 188 n w):=(Nq n hn w).bC fun _ _ ⟨he,hw⟩=>⟨_,he,by rw[hw];exact bI.new _ _ _,bL _,by rw[hw];exact aI⟩
def NE(n:Int)(hn:0<=n)(w:bD):bG 65 #[n] w (Bp 191 n w):=(Nr n hn w).bC fun _ _ ⟨he,hw⟩=>⟨_,he,by rw[hw];exact bI.new _ _ _,bL _,by rw[hw];exact aI⟩
def NF(n:Int)(hn:0<=n)(w:bD):bG 33 #[n] w (Bp 150 n w):=(Nt n hn w).bC fun _ _ ⟨he,hw⟩=>⟨_,he,by rw[hw];exact bI.new _ _ _,bL _,by rw[hw];exact aI⟩
abbrev S8(g:Nat)(vm vs vc:Value)(C:bZ)(W:World):Prop:=W.cell? (be g 0)=some vm/\W.cell? (be g 1)=some vs/\W.cell? (be g 2)=some vc/\W.cell? (be g 3)=C.line/\W.cell? (be g 4)=C.capital/\W.cell? (be g 5)=C.lead/\W.cell? (be g 6)=C.cj/\W.cell? (be g 7)=C.cv
def s8(h:bI w g 26 (cU vm vs vc C)):S8 g vm vs vc C w:=⟨h.c 0,h.c 1,h.c 2,h.c 3,h.c 4,h.c 5,h.c 6,h.c 7⟩
def NG(vm vs vc:bE)(C:bZ)(w:bD)(hc:dM w vm vs vc C)(hv:dz C):bG 31 #[eT vm vs vc C] w (ND C w):=by
 let⟨G,N,M⟩:=Jh3 (hc.alloc (bH (cU vm vs vc C) 26)) (bI.new w 26 (cU vm vs vc C)) hv;let⟨q,u⟩:=hv.cj;have l3:=hv.c2;obtain⟨D,z3,rfl,_,d5,d6,_⟩:=hc.c;have Z:0<=C.cj*(C.bU:Int)/\C.cj*(C.bU:Int)<=64*4:=⟨ud af af,Int.mul_le_mul u af af af⟩;let⟨k,a⟩:∃t,C.cj*(C.bU:Int)=t:=⟨_,rfl⟩;have y:=aa a;rw[a]at Z;obtain⟨u0,u1⟩:=Z;clear hc hv;go_enter func31,ntmps31;go_wp2_with fail;refine(sw vm vs _ C _ G.o M.o).bC ?_;rintro e i⟨rfl,c1⟩;let⟨R,ab⟩:=Jh2 (N.o.keep c1) (G.o.keep c1);have z:Bw w i:=aI.bu (c1.bC au);have X:=s8 R.o;have ad:IntKind.i64.wrap (C.cj*(C.bU:Int))=k:=by rw[a];exact gI _ af
 have ac:wrap64 (C.cj*(C.bU:Int))=k:=by rw[a];unfold wrap64;omega
 clear c1 N G a;go_wp2;go_region_held3(S8 w vm vs (.slice D C.bU z3) C) (first|exact X|assumption|exact s8 (B3.o.alloc _)|go_keep)
  (first
   |(go_at_call 32;refine(ze vm vs _ C _ ab.o.d M.o).bC ?_;rintro e V⟨um,us,T,rfl,S,f⟩;have J:=aa (R.o.keepD f);have I:=s8 J.o;have v:=aa S;have H:=aa f;obtain⟨W,K,rfl⟩:=bV S.m;obtain⟨n2,U,rfl⟩:=bV S.s;obtain⟨A,k3,rfl⟩:=bV S.c;clear S f)
   |(go_at_call 64;refine(Gc _ af _).bC ?_;rintro e x2⟨gt,rfl,g,b,F⟩;have B2:=aa (J.o.keepD F);have s2:=s8 B2.o;have h:=aa g;have n:=aa F;have L2:=aa b;clear g F b)
   |(go_at_call 65;refine(NE _ af _).bC ?_;rintro e L⟨gu,rfl,O,l,p⟩;have B3:=aa (B2.o.keepD p);have s3:=s8 B3.o;have B:=aa O;have D3:=aa p;have P:=aa l;clear O p l))
 have x:Bw w V:=iY z H.o z.size;have Q:=x.bu (n.o.bC x.size);have d3:=Q.bu (D3.o.bC Q.size);have Y:=aa (((v.o.bC (show w.heap.size<=i.drew from z.size)).keep n.o).keep D3.o);have j:=aa (h.o.keep D3.o);have e1:=bW x.size L2.o;have e2:=bW Q.size P.o;rename_i r;clear r I s2 s3 J B2 B3 H n D3 v h X;go_wp2;go_ret2;have E:Bw L (L.alloc (bH (zg (.slice W C.mem K) (.slice n2 C.secs U) (.slice A C.bU k3) C gt gu 0) 144)):=aI;exact⟨L,gt,gu,_,_,_,rfl,⟨heap_alloc_new _ _,Y.o.keep E,j.o.keep E,by rw[y.o];exact B.o.keep E,d3.size,e1,e2⟩,d3.bu (E.bC d3.size)⟩
abbrev xU(vm vs vc:Value)(C:bZ)(gd gr gw:Nat)(phase clock cycle told:Int)(log:Value):Array Value:=#[vm,vs,vc,C.line,C.capital,C.lead,C.cj,C.cv,ptr gd,ptr gr,ptr gw,phase,clock,cycle,told,log]
def sC.keep{gr gt gu:Nat}(h:sC w w1 gr gt gu vm vs vc C)(hb:Bw w1 w2):sC w w2 gr gt gu vm vs vc C:=⟨h.blk.keep hb,h.ct.keep hb,h.cj.keep hb,h.used.keep hb,h.l1,h.l2,h.l3⟩
def sC.base{gr gt gu:Nat}(h:sC w w1 gr gt gu vm vs vc C)(hb:w0.heap.size<=w):sC w0 w1 gr gt gu vm vs vc C:=⟨h.blk,h.ct.bC hb,h.cj,h.used,bW hb h.l1,bW hb h.l2,bW hb h.l3⟩
def sB.keep{gd gs gx:Nat}{um us uc:bE}(h:sB w w1 gd gv gb gh gs gx vb vm vs vc um us uc C)(hb:Bw w1 w2):sB w w2 gd gv gb gh gs gx vb vm vs vc um us uc C:=⟨h.blk.keep hb,h.ct.keep hb,h.gC.keep hb,h.fZ.keep hb,h.box.keep hb,h.l1,h.l2⟩
def sB.base{gd gs gx:Nat}{um us uc:bE}(h:sB w w1 gd gv gb gh gs gx vb vm vs vc um us uc C)(hb:w0.heap.size<=w):sB w0 w1 gd gv gb gh gs gx vb vm vs vc um us uc C:=⟨h.blk,h.ct.bC hb,h.gC.base hb,h.fZ,h.box.base hb,bW hb h.l1,bW hb h.l2⟩
structure NH(w w':World)(gy gd gr gw gv gb gh gs gx gt gu:Nat)(vb vm vs vc um us uc dm ds dc rm rs rc:Value)(C:bZ):Prop where
 blk:bI w' gy 94 (xU vm vs vc C gd gr gw 0 0 0 0 bd)
 ct:iz w' w vm vs vc C
 dg:sB w w' gd gv gb gh gs gx vb dm ds dc um us uc C
 reg:sC w w' gr gt gu rm rs rc C
 ce:bI w' gw 150 #[aY (4*(C.bU:Int)+2*(C.mem:Int)),bd]
 l1:w.heap.size<=gy
 l2:w.heap.size<=gw
def NI(C:bZ)(w:World)(e:Ending)(w':World):Prop:=∃gy gd gr gw gv gb gh gs gx gt gu vb vm vs vc um us uc dm ds dc rm rs rc,e=.returned (.tuple #[ptr gy,()])/\NH w w' gy gd gr gw gv gb gh gs gx gt gu vb vm vs vc um us uc dm ds dc rm rs rc C/\Bw w w'
def NJ(vm vs vc:bE)(C:bZ)(w:bD)(hc:dM w vm vs vc C)(hv:dz C):bG 8 #[eT vm vs vc C] w (NI C w):=by
 let⟨HC,N,M⟩:=Jh3 (hc.alloc (bH (cU vm vs vc C) 26)) (bI.new w 26 (cU vm vs vc C)) hv;have l1:=hv.m2;have l3:=hv.c2;have ah:=aa (Bm C.bU);obtain⟨a1,K,rfl,_,x,d2,_⟩:=hc.m;clear hc hv;go_enter func8,ntmps8;go_wp2_with fail;refine(sw _ vs vc C _ HC.o M.o).bC ?_;rintro e i⟨rfl,b⟩;let⟨R,ab⟩:=Jh2 (N.o.keep b) (HC.o.keep b);have z:Bw w i:=aI.bu (b.bC au);clear b N HC;have p:=s8 R.o;obtain⟨j,p1,Y,y,h,p5,p6,p7⟩:=p;go_wp2_with fail;refine(NC _ vs vc C _ ab.o M.o).bC ?_;rintro e w2⟨gd,g,gb,gh,q,gx,vb,dm,ds,dc,um,us,T,rfl,hD,f⟩;let⟨J,Z,Q⟩:=Jh3 (hD.base z.size) (R.o.keep f) (ab.o.keep f);have b2:=z.bu (f.bC z.size);clear f R ab z j p1 Y y h p5 p6 p7 hD;have p:=s8 Z.o;obtain⟨j,p1,Y,y,h,p5,p6,p7⟩:=p;go_wp2_with fail;refine(NG _ vs vc C _ Q.o M.o).bC ?_;rintro e O⟨gr,gt,gu,rm,rs,rc,rfl,hR,F⟩;let⟨ae,ai,P,ad⟩:=Jh4 (hR.base b2.size) (J.o.keep F) (Z.o.keep F) (Q.o.keep F);have V:=b2.bu (F.bC b2.size);clear F Z Q b2 j p1 Y y h p5 p6 p7 hR J;have X:=s8 P.o;let⟨k,a⟩:∃t:Int,4*(C.bU:Int)+2*(C.mem:Int)=t:=⟨_,rfl⟩;have ag:=aa a;have u:((gO C.bU).length:Int)=4*(C.bU:Int):=by rw[ah.o];push_cast;rfl
 have aj:IntKind.i64.wrap (2*(C.mem:Int))=2*(C.mem:Int):=gI _ af;have ak:IntKind.i64.wrap ((gO C.bU).length+2*(C.mem:Int))=k:=by rw[u,a];exact gI _ af
 have u0:0<=k:=af;clear a u;go_wp2;go_region_held3(S8 w (.slice a1 C.mem K) vs vc C) (first|exact X|assumption|exact s8 (B3.o.alloc _)|go_keep)
  (first
   |(go_at_call 32;refine(ze _ vs vc C _ ad.o.d M.o).bC ?_;rintro e x1⟨tm,D,tc,rfl,S,f⟩;have B1:=aa (P.o.keepD f);have C1:=aa (ad.o.keepD f);have I:=s8 B1.o;have v:=aa S;have H:=aa f;obtain⟨W,k1,rfl⟩:=bV S.m;obtain⟨n2,k2,rfl⟩:=bV S.s;obtain⟨A,k3,rfl⟩:=bV S.c;clear S f)
   |(go_at_call 34;refine(F6 _ vs vc C _ C1.o.d l3).bC ?_;rintro e x2⟨tv,rfl,U,F⟩;obtain⟨n4,k4,rfl⟩:=bV U;have B2:=aa (B1.o.keepD F);have s2:=s8 B2.o;have n:=aa F;clear U F)
   |(go_at_call 33;refine(NF _ af _).bC ?_;rintro e L⟨gw,rfl,U3,l,c4⟩;have B3:=aa (B2.o.keepD c4);have s3:=s8 B3.o;have B:=aa U3;have D3:=aa c4;have L3:=aa l;clear U3 c4 l))
 have x:Bw w x1:=iY V H.o V.size;have d2:=x.bu (n.o.bC x.size);have d3:=d2.bu (D3.o.bC d2.size);have E:Bw O x1:=iY (bM _ _) H.o (bL _);have G:=E.bu (n.o.bC E.size);have ac:=G.bu (D3.o.bC G.size);have O3:=aa (((v.o.bC (show w.heap.size<=O.drew from V.size)).keep n.o).keep D3.o);have e2:=bW d2.size L3.o;rename_i r;clear r I s2 s3 B1 B2 B3 H n D3 v X E G;go_wp2;go_ret2;have c9:Bw L (L.alloc (bH (xU (.slice W C.mem k1) (.slice n2 C.secs k2) (.slice A C.bU k3) C gd gr gw 0 0 0 0 bd) 94)):=aI;exact⟨L,gd,gr,gw,g,gb,gh,q,gx,gt,gu,vb,_,_,_,um,us,T,dm,ds,dc,rm,rs,rc,rfl,⟨heap_alloc_new _ _,O3.o.keep c9,(ai.o.keep ac).keep c9,(ae.o.keep ac).keep c9,by rw[ag.o];exact B.o.keep c9,d3.size,e2⟩,d3.bu (c9.bC d3.size)⟩
end
structure cg(B:Nat)(TS:List TypeId)(K:List Nat)(w w':World):Prop where
 os:w'.os=w.os
 tape:w'.tape=w.tape
 output:w'.output=w.output
 size:w.heap.size<=w'
 far:∀k,k<w.heap.size->(k<B∨k∈K∨∀cs T fr,w.heap[k]?=some (.cells cs T fr)->T∉TS)->w'.heap[k]?=w.heap[k]?
section
variable {B:Nat} {TS:List TypeId} {K:List Nat} {u v w w':World}
def cg.refl(B:Nat)(TS:bF TypeId)(K:bF Nat)(w:bD):cg B TS K w w:=⟨rfl,rfl,rfl,bL _,fun _ _ _=>rfl⟩
def cg.trans(h:cg B TS K u v)(k:cg B TS K v w):cg B TS K u w:=
 ⟨k.os.bu h.os,k.tape.bu h.tape,k.output.bu h.output,bW h.size k.size,fun i hi hc=>by
  have e:=h.far i hi hc;refine(k.far i (iN hi h.size) ?_).bu e;rcases hc with hc|hc|hc
  ·exact bS hc
  ·exact ci (bS hc)
  ·exact ci (ci (fun cs T fr hT=>hc cs T fr (e▸hT)))⟩
def cg.bu:=@cg.trans
def cg.mono{TS':bF TypeId}(h:cg B TS K w w')(hs:∀T∈TS,T∈TS'):cg B TS' K w w':=
 ⟨h.os,h.tape,h.output,h.size,fun i hi hc=>h.far i hi (by
  rcases hc with hc|hc|hc
  ·exact bS hc
  ·exact ci (bS hc)
  ·exact ci (ci (fun cs T fr hT hm=>hc cs T fr hT (hs T hm))))⟩
def cg.bC:=@cg.mono
def cg.less{K':bF Nat}(h:cg B TS K w w')(hs:∀k∈K',k∈K):cg B TS K' w w':=
 ⟨h.os,h.tape,h.output,h.size,fun i hi hc=>h.far i hi (by
  rcases hc with hc|hc|hc
  ·exact bS hc
  ·exact ci (bS (hs _ hc))
  ·exact ci (ci hc))⟩
def cg.below(h:Bw w w'):cg B TS K w w':=⟨h.os,h.tape,h.output,h.size,fun k hk _=>h.block k hk⟩
def cg.alloc(h:cg B TS K w w')(o:Obj):cg B TS K w (w'.alloc o):=h.bu (cg.below aI)
def cg.one(hg:bI w g T cs)(hT:T∈TS)(hB:B<=g)(hK:g∉K)(hm:ec [g] w w'):cg B TS K w w':=
 ⟨hm.os,hm.tape,hm.output,hm.size,fun i hi hc=>hm.far i hi (by
  rintro hgm;obtain rfl:i=g:=aG hgm;rcases hc with hc|hc|hc
  ·omega
  ·exact hK hc
  ·exact hc cs T (0,0) hg hT)⟩
variable{x:bE}
def cg.set{i:Nat}(hg:bI w g T cs)(hT:T∈TS)(hB:B<=g)(hK:g∉K):cg B TS K w (w.setCell (g,i) x):=cg.one hg hT hB hK ((ec.refl [g] w).set g i x (bS au))
def cg.put{kS:Array bE}(hg:bI w g T kS)(h:pJ w g T cs w')(hT:T∈TS)(hB:B<=g)(hK:g∉K):cg B TS K w w':=cg.one hg hT hB hK h.mod
variable{sz:Nat}
def cg.grown{base:Nat}(ho:w.ownsRow base e sz x n xs)(hg:w.grownBy w' x.ownBlock)(hT:e∈TS)(hB:B<=base)(hK:∀k,x.ownBlock=some k->k∉K):cg B TS K w w':=
 ⟨hg.os,hg.tape,hg.output,hg.size,fun i hi hc=>hg.block i hi (by
  intro hx;have h1:=ho.lt i hx.symm;rcases hc with hc|hc|hc
  ·omega
  ·exact hK i hx.symm hc
  ·obtain⟨_,ho2⟩:=ho;rcases ho2 with⟨rfl,_⟩|⟨g,cap,cur,rfl,_,hh,_⟩
   ·simp[Value.ownBlock]at hx
   ·simp[Value.ownBlock]at hx;subst hx;exact hc cur e (0,0) hh hT)⟩
def cg.low(h:cg B TS K w w')(hb:Bw w0 w)(hB:w0.heap.size<=B):Bw w0 w':=⟨h.os.bu hb.os,h.tape.bu hb.tape,h.output.bu hb.output,bW hb.size h.size,fun k hk=>(h.far k (iN hk hb.size) (bS af)).bu (hb.block k hk)⟩
def bI.cu(h:bI w g T cs)(hm:cg B TS K w w')(hT:T∉TS):bI w' g T cs:=
 (hm.far g h.lt (ci (ci (fun cs' T' fr e=>by
  unfold bI at h;rw[h]at e;cases e
  exact hT)))).bu h
def dq{base:Nat}(h:w.ownsRow base e sz x n xs)(hm:cg B TS K w w')(hT:e∉TS):w'.ownsRow base e sz x n xs:=by
 obtain⟨d,c⟩:=h;refine⟨d, ?_⟩;rcases c with c|⟨g,cap,cur,rfl,hg,hh,r⟩
 ·exact bS c
 ·have a:g<w:=by
   rcases fA g w with h'|h'
   ·exact h'
   ·simp[qT h']at hh
  refine ci ⟨g,cap,cur,rfl,hg,(hm.far g a (ci (ci (fun cs' T' fr e=>by rw[hh]at e;cases e;exact hT)))).bu hh,r⟩
def Bq{base:Nat}(h:w.ownsRow base e sz x n xs)(hm:cg B TS K w w')(hK:∀k,x.ownBlock=some k->k∈K):w'.ownsRow base e sz x n xs:=ed h fun g hg=>hm.far g (h.lt g hg).2 (ci (bS (hK g hg)))
def iz.cu(h:iz w b vm vs vc C)(hm:cg B TS K w w')(h1:125∉TS)(h2:127∉TS)(h3:63∉TS):iz w' b vm vs vc C:=⟨dq h.m hm h1,dq h.s hm h2,dq h.c hm h3⟩
end
def oG(v:Value):List Nat:=match v.ownBlock with|some k=>[k]|none=>[]
variable{v:bE}
def mX:k∈oG v↔v.ownBlock=some k:=by
 unfold oG;cases h:v.ownBlock with
 |none=>simp
 |some j=>simp[eq_comm]
section
variable {κ:Type}
def dN(enc:κ->Value)(D:List (κ×Value)):List MapEntry:=D.zipIdx.map fun p=>⟨enc p.1.1,p.1.2,p.2⟩
def ew(enc:κ->Value)(D:List (κ×Value)):Obj:=.map (dN enc D).toArray D
def look [DecidableEq κ](a:κ):List (κ×Value)->Nat->Option (Nat×Value)
 |[],_=>none
 |p::l,i=>if a=p.1 then some (i,p.2)else look a l (i+1)
variable{enc:κ->bE}
def NK [DecidableEq κ]{K:TypeId}(heq:∀a b w,(Op.equal K (enc a) (enc b)).run prog w=.ok (decide (a=b)) w)(a:κ)(w:bD):∀(D:bF (κ×bE)) (es:bF MapEntry) (i:Nat),es.map (fun e=>(e.key,e.val))=D.map (fun p=>(enc p.1,p.2))->
  (Instr.findAsking K (enc a) es i).run prog w=.ok (look a D i) w:=by
 intro D;induction D with
 |nil=>intro es i h;simp at h;subst h;rfl
 |cons p D ih=>
  intro es i h;cases es with
  |nil=>simp at h
  |cons e es=>
   simp only[eu,List.cons.injEq,Prod.mk.injEq]at h;obtain⟨⟨d,c⟩,x⟩:=h;unfold Instr.findAsking look;have:=heq a p.1 w
   simp only[d,Sem.run_bind,this,Result.andThen];by_cases l:a=p.1
   ·simp[l,c]
   ·simp[l,ih es (i+1) x]
def uj(enc:κ->bE)(D:bF (κ×bE)):(dN enc D).map (fun e=>(e.key,e.val))=D.map (fun p=>(enc p.1,p.2)):=by unfold dN;rw[lD];apply mR;intro i;simp;cases D[i]?<;>simp
structure vJ [DecidableEq κ](K:TypeId)(enc:κ->Value):Prop where
 check:∀em a w,(Instr.checkKey em 10000 K (enc a)).run prog w=.ok () w
 find:∀a D es w,es.map (fun e=>(e.key,e.val))=D.map (fun p=>(enc p.1,p.2))->(Instr.findKey K (enc a) es).run prog w=.ok (look a D 0) w
 stays:∀a w,(Instr.keyThatStays (enc a) (enc a)).run prog w=.ok (enc a) w
def NL [DecidableEq κ]{a:κ}:∀{D:bF (κ×bE)} {i:Nat},look a D i=none->∀p∈D,a≠p.1:=by
 intro D;induction D with
 |nil=>intro i _ p s;simp at s
 |cons q D ih=>
  intro i h p s;unfold look at h;split at h
  ·cases h
  ·rename_i b;rcases je.1 s with rfl|s
   ·exact b
   ·exact ih h p s
def xV [DecidableEq κ]{a:κ}:∀{D:bF (κ×bE)} {i j:Nat} {v:bE},look a D i=some (j,v)->∃n,j=i+n/\D[n]?=some (a,v):=by
 intro D;induction D with
 |nil=>intro i j v h;cases h
 |cons q D ih=>
  intro i j v h;unfold look at h;split at h
  ·rename_i V;cases h
   exact⟨0,rfl,by simp[V]⟩
  ·let⟨n,d,c⟩:=ih h;exact⟨n+1,af,aG c⟩
def xW(enc:κ->bE)(D:bF (κ×bE)):(dN enc D).length=D.length:=by simp[dN]
def nO(enc:κ->bE)(D:bF (κ×bE))(n:Nat):(dN enc D)[n]?=D[n]?.map fun p=>⟨enc p.1,p.2,n⟩:=by unfold dN;simp;rfl
def Gd(enc:κ->bE)(D:bF (κ×bE))(k:κ)(v:bE):(dN enc D).toArray.push ⟨enc k,v,D.length⟩=(dN enc (D++[(k,v)])).toArray:=by unfold dN;simp[List.zipIdx_append]
def Br(l:bF MapEntry)(i:Nat)(f:MapEntry->MapEntry):l.toArray.modify i f=(l.modify i f).toArray:=au
def NP(enc:κ->bE)(D:bF (κ×bE))(n:Nat)(k:κ)(v v':bE)(h:D[n]?=some (k,v)):(dN enc D).toArray.modify n (fun e=>{e with val:=v'})=(dN enc (D.set n (k,v'))).toArray:=by
 rw[Br];congr 1;apply mR;intro i;rw[List.getElem?_modify,nO,nO,sd];have H:n<D:=(ada.1 h).1;by_cases p:n=i
 ·subst p;rw[yc rfl,yc H,h];simp
 ·simp[p]
def NQ(enc:κ->bE)(D:bF (κ×bE))(n:Nat)(k:κ)(v:bE)(h:D[n]?=some (k,v)):(dN enc D).toArray.modify n (fun e=>{e with key:=enc k})=(dN enc D).toArray:=by
 rw[Br];congr 1;apply mR;intro i;rw[List.getElem?_modify,nO];by_cases p:n=i
 ·subst p;simp[h]
 ·simp[p]
def et(w:World)(M:Nat)(enc:κ->Value)(D:List (κ×Value)):Prop:=w.heap[M]?=some (ew enc D)
def putObj(w:World)(M:Nat)(o:Obj):World:={w with heap:=w.heap.setIfInBounds M o}
variable{w:bD}{M:Nat}
def et.lt{D:bF (κ×bE)}(h:et w M enc D):M<w:=by
 unfold et at h;rcases fA M w with h'|h'
 ·exact h'
 ·simp[qT h']at h
def zh(w:bD)(M:Nat)(D:bF (κ×bE))(n:Nat)(a:κ)(v v':bE)(h:et w M enc D)(hD:D[n]?=some (a,v))(T:TypeId):
  (Instr.entryStore T (.map (some M)) (goInt n) v').run prog w=.ok () (putObj w M (ew enc (D.set n (a,v')))):=by
 have H:n<D:=(ada.1 hD).1;unfold et ew at h;unfold Instr.entryStore;have g:(dN enc D).toArray.findIdx? (fun e=>(e.born:Int)==(n:Int))=some n:=by
  rw[List.findIdx?_toArray];rw[List.findIdx?_eq_some_iff_getElem];refine⟨by rw[xW];exact H, ?_, ?_⟩
  ·have:=nO enc D n
   rw[hD]at this;have e:=(ada.1 this).2;rw[e];simp
  ·intro j J;have Q:j<D:=af;have:=nO enc D j
   rw[dG Q]at this;have e:=(ada.1 this).2;rw[e];simp;omega
 have L:=NP enc D n a v v' hD;have o:Sem.run prog (asInt (goInt n)) w=.ok (n:Int) w:=by simp[asInt,asIntOf,goInt]
 simp only[Sem.run_bind,Result.andThen,getObj,Sem.run,h,o];rw[g];simp only[setObj,Sem.run,h,L,putObj,ew,js]
variable [DecidableEq κ] {K E T:TypeId} {enc:κ->Value} (L:vJ K enc) (hT:prog.underlying T=some (.map K E))
include L hT
def uk(z:bE)(hz:∀w,(zeroValue E).run prog w=.ok z w)(w:bD)(M:Nat)(D:bF (κ×bE))(a:κ)(h:et w M enc D):
  (Instr.lookup T (.map (some M)) (enc a) false).run prog w=.ok (((look a D 0).map (·.2)).getD z) w:=by
 exact Qax
def Ge(w:bD)(M:Nat)(D:bF (κ×bE))(a:κ)(n:Nat)(v:bE)(h:et w M enc D)(hl:look a D 0=some (n,v)):
  (Instr.mapEntry T (.map (some M)) (enc a)).run prog w=.ok (.tuple #[v,goInt n]) w:=by
 have d:=L.find a D (dN enc D) w (uj enc D);rw[hl]at d;have X:=run_underlying hT;let⟨m,Z,z⟩:=xV hl;obtain rfl:n=m:=af;have f:{w with heap:=w.heap.setIfInBounds M (ew enc D)}=w:=by
  have b:=et.lt h;unfold et at h;have:w.heap.setIfInBounds M (ew enc D)=w.heap:=by
   apply Array.ext_getElem?;intro i;rw[xu];by_cases p:M=i
   ·subst p;rw[yc rfl,yc b,h]
   ·rw[ya p]
  rw[this]
 unfold et at h;unfold ew at h f;unfold Instr.mapEntry;have c:(dN enc D)[n]?=some ⟨enc a,v,n⟩:=by rw[nO,z];rfl
 have g:=NQ enc D n a v z;simp only[Sem.run_bind,X,Result.andThen,getObj,Sem.run,h,L.check];rw[d];simp only[li,c,Option.map_some,pB,Sem.run_bind,L.stays,Result.andThen,setObj,Sem.run,h,g,f];rfl
def Gf(z:bE)(hz:∀w,(zeroValue E).run prog w=.ok z w)(w:bD)(M:Nat)(D:bF (κ×bE))(a:κ)(h:et w M enc D)(hl:look a D 0=none):
  (Instr.mapEntry T (.map (some M)) (enc a)).run prog w=.ok (.tuple #[z,goInt D.length]) (putObj w M (ew enc (D++[(a,z)]))):=by
 have d:=L.find a D (dN enc D) w (uj enc D);rw[hl]at d;have X:=run_underlying hT;unfold et ew at h;unfold Instr.mapEntry;have s:=Gd enc D a z;simp only[Sem.run_bind,X,Result.andThen,getObj,Sem.run,h,L.check];rw[d];simp only[Sem.run_bind,hz,Result.andThen,setObj,Sem.run,h,s,putObj,ew,cO,eN];rfl
end
structure Sp where
 (k m bK:Int)deriving DecidableEq
abbrev lq(x:Sp):Value:=.agg #[x.k,x.m,x.bK]
structure Sd where
 (mem bK:Int)deriving DecidableEq
abbrev jH(x:Sd):Value:=.agg #[x.mem,x.bK]
def Bs{κ:Type} [DecidableEq κ]{K:TypeId}(hK:prog.underlying K=some (.struct (prog.fieldsOf K))){enc:κ->bE}(hagg:∀a,∃xs,enc a=.agg xs)(heq:∀a b w,(Op.equal K (enc a) (enc b)).run prog w=.ok (decide (a=b)) w)(a:κ)(D:bF (κ×bE))(es:bF MapEntry)(w:bD)(h:es.map (fun e=>(e.key,e.val))=D.map (fun p=>(enc p.1,p.2))):
  (Instr.findKey K (enc a) es).run prog w=.ok (look a D 0) w:=by
 unfold Instr.findKey;simp only[Sem.run_bind,run_underlying hK,Result.andThen];cases es with
 |nil=>
  cases D with
  |nil=>rfl
  |cons p D=>simp at h
 |cons e es=>
  let⟨xs,j⟩:=hagg a;have:Instr.findNow (.struct (prog.fieldsOf K)) (enc a) (e::es) 0=none:=by rw[j];rfl
  rw[this];exact NK heq a w D (e::es) 0 h
def NR(a1 a2 b1 b2:Int)(w:bD):(Op.equalIn 9999 81 (.agg #[a1,a2]) (.agg #[b1,b2])).run prog w=.ok (decide (a1=b1/\a2=b2)) w:=by have U:prog.underlying 81=some (.struct (prog.fieldsOf 81)):=aj;have s:prog.stoodInHeld 81=false:=aj;rw[show(9999:Nat)=9998+1 from rfl,run_equalIn_agg w 9998 81 _ _ U s];simp only[Program.fieldsOf,underlying81];clear U s;let⟨u3,D,k⟩:=Jt3 underlying3 isAgg3 sizeOf3;go_simp;by_cases d:a1=b1<;>by_cases c:a2=b2<;>simp[d,c]
def NS(a b:Sd)(w:bD):(Op.equal 382 (jH a) (jH b)).run prog w=.ok (decide (a=b)) w:=by obtain⟨n,f⟩:=a;obtain⟨z,t⟩:=b;have U:prog.underlying 382=some (.struct (prog.fieldsOf 382)):=aj;have s:prog.stoodInHeld 382=false:=aj;unfold Op.equal Op.maxDepth;rw[show(10000:Nat)=9999+1 from rfl,run_equalIn_agg w 9999 382 _ _ U s];simp only[Program.fieldsOf,underlying382];exact Qbz
def NT(a b:Sp)(w:bD):(Op.equal 369 (lq a) (lq b)).run prog w=.ok (decide (a=b)) w:=by obtain⟨n,f,D⟩:=a;obtain⟨z,t,V⟩:=b;have U:prog.underlying 369=some (.struct (prog.fieldsOf 369)):=aj;have s:prog.stoodInHeld 369=false:=aj;unfold Op.equal Op.maxDepth;rw[show(10000:Nat)=9999+1 from rfl,run_equalIn_agg w 9999 369 _ _ U s];simp only[Program.fieldsOf,underlying369];clear U s;let⟨u3,j,k,g,i⟩:=Jt5 underlying3 isAgg3 sizeOf3 isAgg81 sizeOf81;have h:=fun(n f z t:Int) (w:bD)=>NR n f z t w;go_simp;by_cases d:n=z<;>by_cases c:f=t<;>by_cases x:D=V<;>simp[d,c,x]
def NU(em:Bool)(a:Sp)(w:bD):(Instr.checkKey em 10000 369 (lq a)).run prog w=.ok () w:=by kernel_rfl
def NV(a:Sp)(w:bD):(Instr.keyThatStays (lq a) (lq a)).run prog w=.ok (lq a) w:=by exact Qb6
def zi:vJ 369 lq:=⟨NU,fun a D es w h=>Bs aj (fun a=>⟨_,rfl⟩) NT a D es w h,NV⟩
def NY(em:Bool)(a:Sd)(w:bD):(Instr.checkKey em 10000 382 (jH a)).run prog w=.ok () w:=by kernel_rfl
def NZ(a:Sd)(w:bD):(Instr.keyThatStays (jH a) (jH a)).run prog w=.ok (jH a) w:=by exact Qb6
def Bt:vJ 382 jH:=⟨NY,fun a D es w h=>Bs aj (fun a=>⟨_,rfl⟩) NS a D es w h,NZ⟩
def N9(a:Int)(w:bD):∀(D:bF (Int×bE)) (es:bF MapEntry) (i:Nat),es.map (fun e=>(e.key,e.val))=D.map (fun p=>(Value.int .i64 p.1,p.2))->Instr.findNow (.int .i64) (aY a) es i=some (look a D i):=by
 intro D;induction D with
 |nil=>intro es i h;simp at h;subst h;rfl
 |cons p D ih=>
  intro es i h;cases es with
  |nil=>simp at h
  |cons e es=>
   simp only[eu,List.cons.injEq,Prod.mk.injEq]at h;obtain⟨⟨d,c⟩,x⟩:=h;unfold Instr.findNow look;rw[d];by_cases l:a=p.1
   ·simp[Instr.sameNow,l,c]
   ·have:(a==p.1)=false:=aG l
    simp[Instr.sameNow,this,l,ih es (i+1) x]
def vK:vJ 3 (Value.int .i64):=⟨fun em a w=>aj,fun a D es w h=>by
 unfold Instr.findKey;simp only[Sem.run_bind,run_underlying underlying3,Result.andThen];rw[N9 a w D es 0 h];rfl,fun a w=>by unfold Instr.keyThatStays;simp[Instr.sameBits]⟩
variable{w w':bD}{M:Nat}
def et.keep{κ:Type}{enc:κ->bE}{D:bF (κ×bE)}(h:et w M enc D)(hb:Bw w w'):et w' M enc D:=(hb.block M h.lt).bu h
def et.heap{κ:Type}{enc:κ->bE}{D:bF (κ×bE)}(h:et w M enc D)(hb:w'.heap[M]?=w.heap[M]?):et w' M enc D:=hb.bu h
def et.put{κ:Type}{enc:κ->bE}{D D':bF (κ×bE)}(h:et w M enc D):et (putObj w M (ew enc D')) M enc D':=by
 unfold et putObj;have:=h.lt
 simp[this]
def sD(w:bD)(M k:Nat)(o:Obj)(h:k≠M):(putObj w M o).heap[k]?=w.heap[k]?:=by unfold putObj;simp[Ne.symm h]
def vL(w:bD)(M:Nat)(o:Obj):ec [M] w (putObj w M o):=⟨rfl,rfl,rfl,by simp[putObj],fun k _ hb=>sD w M k o (aG hb)⟩
structure Rows(w:World)(B:Nat)(vs:List Value)(zs:List (List Int)):Prop where
 len:vs.length=zs.length
 own:∀i (h:i<vs.length) (h2:i<zs.length),w.ownsRow B 2 1 vs[i] zs[i].length (bN eI zs[i])
 lA:∀i j (h:i<vs.length) (h2:j<vs.length),i≠j->vs[i].ownBlock=none∨vs[i].ownBlock≠vs[j].ownBlock
variable{B:Nat}{zs:bF (bF Int)}
def Rows.heap{vs:bF bE}(h:Rows w B vs zs)(hk:∀v∈vs,∀g,v.ownBlock=some g->w'.heap[g]?=w.heap[g]?):Rows w' B vs zs:=⟨h.len,fun i h1 h2=>ed (h.own i h1 h2) (hk _ (cZ h1)),h.lA⟩
def Rows.lt{vs:bF bE}(h:Rows w B vs zs):∀v∈vs,∀g,v.ownBlock=some g->B<=g/\g<w.heap.size:=by intro v R g b;obtain⟨i,p,rfl⟩:=eW R;exact(h.own i p QcI).lt g b
def Rows.keep{vs:bF bE}(h:Rows w B vs zs)(hb:Bw w w'):Rows w' B vs zs:=h.heap fun v hv g hg=>hb.block g (h.lt v hv g hg).2
def Rows.Oa(w:bD)(B n:Nat):Rows w B (List.replicate n bd) (List.replicate n []):=⟨au,fun i h1 h2=>by simp only[List.getElem_replicate];exact⟨rfl,bS ⟨rfl,rfl⟩⟩,fun i j h1 h2 _=>by simp only[List.getElem_replicate];exact bS rfl⟩
def Rows.push{vs:bF bE}(h:Rows w B vs zs):Rows w B (vs++[.slice none 0 0]) (zs++[[]]):=by
 refine⟨by simp[h.len],fun i h1 h2=> ?_,fun i j h1 h2 hne=> ?_⟩
 ·by_cases p:i<vs.length
  ·rw[lC p,lC QcI];exact h.own i p _
  ·have o:i=vs.length:=by simp at h1;omega
   subst o;simp only[pA (bL _),ue,jr];have:(zs++[[]])[vs.length]'h2=[]:=by rw[pA (by rw[h.len];exact bL _)];simp[h.len]
   rw[this];exact⟨rfl,bS ⟨rfl,rfl⟩⟩
 ·by_cases p:i<vs.length
  ·by_cases J:j<vs.length
   ·rw[lC p,lC J];exact h.lA i j p J hne
   ·have o:j=vs.length:=by simp at h2;omega
    subst o;rw[lC p,pA (bL _)];simp only[ue,jr];cases hv:vs[i].ownBlock with
    |none=>exact bS rfl
    |some g=>exact ci Qb2
  ·have o:i=vs.length:=by simp at h1;omega
   subst o;rw[pA (bL _)];simp only[ue,jr];exact bS rfl
def Rows.set{vs:bF bE}(h:Rows w B vs zs)(i:Nat)(hi:i<vs.length)(hz:i<zs.length)(v':bE)(zs':bF Int)(hg:w.grownBy w' vs[i].ownBlock)(ho:w'.ownsRow B 2 1 v' zs'.length (bN eI zs'))(hat:v'.ownBlock=vs[i].ownBlock∨v'.ownBlock=some w.heap.size):
  Rows w' B (vs.set i v') (zs.set i zs'):=by
 have b:∀j (J:j<vs.length),j≠i->∀g,vs[j].ownBlock=some g->w'.heap[g]?=w.heap[g]?:=fun j J hne g hgj=>by
  refine hg.block g (h.lt _ (cZ J) g hgj).2 ?_;intro e;rcases h.lA j i J hi hne with h1|h1
  ·rw[h1]at hgj;cases hgj
  ·exact h1 (by rw[hgj,e])
 refine⟨by simp[h.len],fun j h1 h2=> ?_,fun j k h1 h2 hne=> ?_⟩
 ·rw[tY,tY];by_cases J:i=j
  ·rw[yc J,yc J];exact ho
  ·rw[ya J,ya J];simp at h1 h2;exact ed (h.own j h1 h2) (b j h1 (Ne.symm J))
 ·simp at h1 h2;rw[tY,tY];have a:∀j (J:j<vs.length),j≠i->vs[j].ownBlock=none∨vs[j].ownBlock≠v'.ownBlock:=fun j J hne=>by
   rcases hat with e|e
   ·rw[e];exact h.lA j i J hi hne
   ·cases hv:vs[j].ownBlock with
    |none=>exact bS rfl
    |some g=>
     refine ci ?_;rw[e];intro r;have:=(h.lt _ (cZ J) g hv).2
     simp at r;omega
  by_cases J:i=j
  ·subst J;rw[yc rfl,ya hne];rcases a k h2 (Ne.symm hne)with e|e
   ·cases hv:v'.ownBlock with
    |none=>exact bS rfl
    |some g=>exact ci (by rw[e];simp)
   ·exact ci (Ne.symm e)
  ·rw[ya J];by_cases c:i=k
   ·subst c;rw[yc rfl];exact a j h1 hne
   ·rw[ya c];exact h.lA j k h1 h2 hne
section
attribute [local go_sem ↓] wp_at_zero wp_at_succ
section
variable {κ:Type} [DecidableEq κ] {K E T:TypeId} {enc:κ->Value} (L:vJ K enc) (hT:prog.underlying T=some (.map K E))
include L hT
def Gg(w:bD)(M:Nat)(D:bF (κ×bE))(a:κ)(v:bE)(h:et w M enc D)(hl:look a D 0=none):
  (Instr.mapUpdate T (.map (some M)) (enc a) v).run prog w=.ok () (putObj w M (ew enc (D++[(a,v)]))):=by
 have d:=L.find a D (dN enc D) w (uj enc D);rw[hl]at d;have X:=run_underlying hT;unfold et ew at h;unfold Instr.mapUpdate;have s:=Gd enc D a v;simp only[Sem.run_bind,X,Result.andThen,getObj,Sem.run,h,L.check];rw[d];simp only[Sem.run_bind,Result.andThen,setObj,Sem.run,h,s,putObj,ew,cO,eN]
def Bu(w:bD)(M:Nat)(D:bF (κ×bE))(a:κ)(n:Nat)(v v':bE)(h:et w M enc D)(hl:look a D 0=some (n,v)):
  (Instr.mapUpdate T (.map (some M)) (enc a) v').run prog w=.ok () (putObj w M (ew enc (D.set n (a,v')))):=by
 have d:=L.find a D (dN enc D) w (uj enc D);rw[hl]at d;have X:=run_underlying hT;let⟨m,Z,z⟩:=xV hl;obtain rfl:n=m:=af;unfold et ew at h;unfold Instr.mapUpdate;have b:(dN enc D)[n]?=some ⟨enc a,v,n⟩:=by rw[nO,z];rfl
 have c:(dN enc D).toArray.modify n (fun e=>{e with key:=enc a,val:=v'})=(dN enc (D.set n (a,v'))).toArray:=by
  rw[Br];congr 1;apply mR;intro i;rw[List.getElem?_modify,nO,nO,sd];have H:n<D:=(ada.1 z).1;by_cases p:n=i
  ·subst p;rw[yc rfl,yc H,z];simp
  ·simp[p]
 simp only[Sem.run_bind,X,Result.andThen,getObj,Sem.run,h,L.check];rw[d];simp only[li,b,Option.map_some,pB,Sem.run_bind,L.stays,Result.andThen,setObj,Sem.run,h,c,putObj,ew,js]
def Gh(z:bE)(hz:∀w,(zeroValue E).run prog w=.ok z w)(w:bD)(M:Nat)(D:bF (κ×bE))(a:κ)(h:et w M enc D):
  (Instr.lookup T (.map (some M)) (enc a) true).run prog w=.ok (.tuple #[((look a D 0).map (·.2)).getD z,.bool (look a D 0).isSome]) w:=by
 exact Qax
end
def Oc{κ:Type} [DecidableEq κ](a:κ):∀(D D':bF (κ×bE)) (i:Nat),look a (D++D') i=match look a D i with
  |none=>look a D' (i+D.length)
  |some p=>some p:=by
 intro D;induction D with
 |nil=>intro D' i;simp[look]
 |cons p D ih=>
  intro D' i;rw[rY,look,look];split
  ·rfl
  ·rw[ih];rw[show i+1+D.length=i+(p::D).length from aA]
def told{κ:Type} [DecidableEq κ](D:List (κ×Value))(a:κ):Option Value:=(look a D 0).map (·.2)
def Od{κ:Type} [DecidableEq κ](D:bF (κ×bE))(k a:κ)(v:bE)(h:told D k=none):told (D++[(k,v)]) a=if a=k then some v else told D a:=by
 unfold told at*;rw[Oc];cases hl:look a D 0 with
 |none=>
  simp only
  rw[look];by_cases b:a=k
  ·simp[b]
  ·simp[b,look]
 |some p=>
  by_cases b:a=k
  ·subst b;rw[hl]at h;simp at h
  ·simp[b]
def Gi{κ:Type} [DecidableEq κ](k a:κ)(v:bE):∀(D:bF (κ×bE)) (i n:Nat) (u:bE),look k D i=some (i+n,u)->(look a (D.set n (k,v)) i).map (·.2)=if a=k then some v else(look a D i).map (·.2):=by
 intro D;induction D with
 |nil=>intro i n u h;cases h
 |cons p D ih=>
  intro i n u h;rw[look]at h;split at h
  ·rename_i b;simp at h;obtain⟨rfl,_⟩:n=0/\_:=⟨af,h.2⟩;rw[iO,look,look];by_cases ha:a=k
   ·simp[ha]
   ·have:¬a=p.1:=fun e=>ha (e.bu b.symm)
    simp[ha,this]
  ·rename_i b;cases n with
   |zero=>
    let⟨m,Z,_⟩:=xV h;omega
   |succ n=>
    rw[iP,look,look];have c:=ih (i+1) n u (by rw[h];congr 2;omega);by_cases ha:a=p.1
    ·have:¬a=k:=fun e=>b (e.symm.bu ha)
     simp[ha];intro e;exact xl (ha.bu e) this
    ·simp only[ha,if_false];exact c
structure Pe where
 (phase acW:Int)deriving DecidableEq
abbrev ji(x:Pe):Value:=.agg #[x.phase,x.acW]
def Oe(a b:Pe)(w:bD):(Op.equal 362 (ji a) (ji b)).run prog w=.ok (decide (a=b)) w:=by obtain⟨n,f⟩:=a;obtain⟨z,t⟩:=b;have U:prog.underlying 362=some (.struct (prog.fieldsOf 362)):=aj;have s:prog.stoodInHeld 362=false:=aj;unfold Op.equal Op.maxDepth;rw[show(10000:Nat)=9999+1 from rfl,run_equalIn_agg w 9999 362 _ _ U s];simp only[Program.fieldsOf,underlying362];exact Qbz
def Of(em:Bool)(a:Pe)(w:bD):(Instr.checkKey em 10000 362 (ji a)).run prog w=.ok () w:=by kernel_rfl
def Og(a:Pe)(w:bD):(Instr.keyThatStays (ji a) (ji a)).run prog w=.ok (ji a) w:=by exact Qb6
def xX:vJ 362 ji:=⟨Of,fun a D es w h=>Bs aj (fun a=>⟨_,rfl⟩) Oe a D es w h,Og⟩
def jI(b0 b1 b2 b3 b4 b5:Bool)(k:Pe):Option Value:=
 if k=⟨1,1⟩then(if b0 then some (.int .i64 2)else none)
 else if k=⟨2,2⟩then(if b1 then some (.int .i64 2)else none)
 else if k=⟨2,3⟩then(if b2 then some (.int .i64 4)else none)
 else if k=⟨3,4⟩then(if b3 then some (.int .i64 4)else none)
 else if k=⟨4,4⟩then(if b4 then some (.int .i64 4)else none)
 else if k=⟨4,5⟩then(if b5 then some (.int .i64 1)else none)
 else none
structure FM(w0 w:World)(D:List (Pe×Value))(b0 b1 b2 b3 b4 b5:Bool):Prop where
 map:et w w0 ji D
 told:∀k,told D k=jI b0 b1 b2 b3 b4 b5 k
 low:Bw w0 w
def vM{D:bF (Pe×bE)}{b0 b1 b2 b3 b4 b5 c0 c1 c2 c3 c4 c5:Bool}(h:FM w0 w D b0 b1 b2 b3 b4 b5)(k:Pe)(v:bE)(hk:jI b0 b1 b2 b3 b4 b5 k=none)(hn:∀a,(if a=k then some v else jI b0 b1 b2 b3 b4 b5 a)=jI c0 c1 c2 c3 c4 c5 a):
  (Instr.mapUpdate 359 (.map (some w0.heap.size)) (ji k) v).run prog w=.ok () (putObj w w0 (ew ji (D++[(k,v)])))/\FM w0 (putObj w w0 (ew ji (D++[(k,v)]))) (D++[(k,v)]) c0 c1 c2 c3 c4 c5:=by
 have b:told D k=none:=(h.told k).bu hk;refine⟨Gg xX underlying359 w _ D k v h.map (by unfold told at b;simpa using b),h.map.put,fun a=> ?_,(vL _ _ _).low h.low au⟩;rw[Od D k a v b,h.told a,hn a]
variable{ops:Array Oper}{Q:Exit->Act->bD->Prop}
def Oh{P:Program}{md:Region.Mode}(I:Nat->Array Bool->Act->bD->Prop)(hs:∀n l a w,I n l a w->wpAny P md ops Q n l a w∨∃m,n=m+1/\Region.ready md ops l≠[]/\∀i∈Region.ready md ops l,wpOp P ops Q i (I m (l.setIfInBounds i true)) a w):∀n l a w,I n l a w->wpAny P md ops Q n l a w:=by
 intro n;induction n with
 |zero=>
  intro l a w h;rcases hs 0 l a w h with h|⟨m,hm,_⟩
  ·exact h
  ·omega
 |succ n ih=>
  intro l a w h;rcases hs (n+1) l a w h with h|⟨m,hm,hne,h⟩
  ·exact h
  ·obtain rfl:n=m:=af;exact wpAny_all rfl hne fun i hi=>wpOp_mono (fun a w hI=>ih _ _ _ hI) (h i hi)
def Oi(c:Code):Array Oper:=match c with
 |.seq _ (.seq (.region _ ops _) _)=>ops
 |_=>#[]
noncomputable def Gj:Array Oper:=match f277.body with
 |some c=>Oi c
 |none=>#[]
def zj(b0 b1 b2 b3 b4 b5:Bool):Array Bool:=#[true,true,b0,true,b1,true,b2,true,b3,true,b4,true,b5,false,false]
def kN(b:Bool):Nat:=if b then 0 else 1
def Gk:∀b0 b1 b2 b3 b4 b5:Bool,(b0&&b1&&b2&&b3&&b4&&b5)=false->Region.ready .any Gj (zj b0 b1 b2 b3 b4 b5)≠[]/\∀i∈Region.ready .any Gj (zj b0 b1 b2 b3 b4 b5),(i=2/\b0=false)∨(i=4/\b1=false)∨(i=6/\b2=false)∨(i=8/\b3=false)∨(i=10/\b4=false)∨(i=12/\b5=false):=by intro b0 b1 b2 b3 b4 b5;cases b0<;>cases b1<;>cases b2<;>cases b3<;>cases b4<;>cases b5<;>first|(intro h;exact xl h ah)|(intro _;exact⟨ai,ai⟩)
def vN(s l:Bool)(k:Pe):Option Value:=if k=⟨4,5⟩/\l=true then some (.int .i64 5)else if k=⟨2,3⟩/\s=true then some (.int .i64 3)else jI true true true true true true k
def Oj(s l:Bool)(w:World)(e:Ending)(w':World):Prop:=∃D,e=.returned (.map (some w.heap.size))/\et w' w ji D/\(∀k,told D k=vN s l k)/\Bw w w'
def sE(s l:Bool)(M:Nat):Act:={tmps:=#[.bool s,.bool l,undef,undef,.map none,undef,.map (some M),.agg #[(1:Int),(1:Int)],.agg #[(2:Int),(2:Int)],.agg #[(2:Int),(3:Int)],.agg #[(3:Int),(4:Int)],.agg #[(4:Int),(4:Int)],.agg #[(4:Int),(5:Int)],undef,undef,undef,undef,undef,undef,undef,undef],defers:=[]}
def Gl(s l:Bool)(w:bD):bG 277 #[.bool s,.bool l] w (Oj s l w):=by
 have ag:∀w:bD,(Instr.makeMap 359 none).run prog w=.ok (.map (some w.heap.size)) (w.alloc (.map #[] 0)):=fun w=>rfl;go_enter func277,ntmps277;go_wp2_with fail;refine wp_region_any aj ?_;refine wpAny_take (i:=1) (oi:=_) (v:= ?_) rfl aj aj aj (fun _ _ _ h=>h) (bS ⟨aB, ?_⟩) ?_;rotate_left
 ·(intro w;go_simp;try with_reducible rfl)
 simp only[Act.put,jd,iO,iP];refine wpAny_take (i:=3) (oi:=_) (v:= ?_) rfl aj aj aj (fun _ _ _ h=>h) (bS ⟨aB, ?_⟩) ?_;rotate_left
 ·(intro w;go_simp;try with_reducible rfl)
 simp only[Act.put,jd,iO,iP];refine wpAny_take (i:=5) (oi:=_) (v:= ?_) rfl aj aj aj (fun _ _ _ h=>h) (bS ⟨aB, ?_⟩) ?_;rotate_left
 ·(intro w;go_simp;try with_reducible rfl)
 simp only[Act.put,jd,iO,iP];refine wpAny_take (i:=7) (oi:=_) (v:= ?_) rfl aj aj aj (fun _ _ _ h=>h) (bS ⟨aB, ?_⟩) ?_;rotate_left
 ·(intro w;go_simp;try with_reducible rfl)
 simp only[Act.put,jd,iO,iP];refine wpAny_take (i:=9) (oi:=_) (v:= ?_) rfl aj aj aj (fun _ _ _ h=>h) (bS ⟨aB, ?_⟩) ?_;rotate_left
 ·(intro w;go_simp;try with_reducible rfl)
 simp only[Act.put,jd,iO,iP];refine wpAny_take (i:=11) (oi:=_) (v:= ?_) rfl aj aj aj (fun _ _ _ h=>h) (bS ⟨aB, ?_⟩) ?_;rotate_left
 ·(intro w;go_simp;try with_reducible rfl)
 simp only[Act.put,jd,iO,iP];refine wpAny_ready (rs:=[0]) aj au ?_;refine AllReady.cons rfl (fun KQ hKQ=> ?_) AllReady.nil;go_simp;refine hKQ _ _ ?_;clear hKQ KQ;have ab:FM w (w.alloc (Obj.map #[] 0)).drew [] false false false false false false:=⟨by
  show(w.alloc (Obj.map #[] 0)).heap[w.heap.size]?=_
  exact heap_alloc_new _ _,fun k=>by
  unfold jI told look;simp,aI.drew⟩
 refine Oh (P:=prog) (fun n j a w'=>∃F z t V G I D,n=2+(kN F+kN z+kN t+kN V+kN G+kN I)/\j=zj F z t V G I/\a=sE s l w.heap.size/\FM w w' D F z t V G I) ?step _ _ _ _ ?start
 case start=>exact⟨_,_,_,_,_,_,_,rfl,rfl,rfl,ab⟩
 case step=>
  rintro n j a W⟨F,z,t,V,G,I,D,rfl,rfl,rfl,O⟩;by_cases J:(F&&z&&t&&V&&G&&I)=false
  ·refine ci ⟨1+(kN F+kN z+kN t+kN V+kN G+kN I),af,(Gk F z t V G I J).1,fun i hi=> ?_⟩;rcases(Gk F z t V G I J).2 i hi with⟨rfl,rfl⟩|⟨rfl,rfl⟩|⟨rfl,rfl⟩|⟨rfl,rfl⟩|⟨rfl,rfl⟩|⟨rfl,rfl⟩
   ·have L:=vM (c0:=true) (c1:=z) (c2:=t) (c3:=V) (c4:=G) (c5:=I) O ⟨1,1⟩ (aY 2) (by simp[jI]) (fun a=>by unfold jI;repeat' split<;>simp_all);refine wpOp_step rfl (fun K' hK=> ?_);simp only[sE];go_simp;exact hK _ _ ⟨true,_,_,_,_,_,_,by simp only[kN];simp;omega,rfl,rfl,L.2⟩
   ·have L:=vM (c0:=F) (c1:=true) (c2:=t) (c3:=V) (c4:=G) (c5:=I) O ⟨2,2⟩ (aY 2) (by simp[jI]) (fun a=>by unfold jI;repeat' split<;>simp_all);refine wpOp_step rfl (fun K' hK=> ?_);simp only[sE];go_simp;exact hK _ _ ⟨_,true,_,_,_,_,_,by simp only[kN];simp;omega,rfl,rfl,L.2⟩
   ·have L:=vM (c0:=F) (c1:=z) (c2:=true) (c3:=V) (c4:=G) (c5:=I) O ⟨2,3⟩ (aY 4) (by simp[jI]) (fun a=>by unfold jI;repeat' split<;>simp_all);refine wpOp_step rfl (fun K' hK=> ?_);simp only[sE];go_simp;exact hK _ _ ⟨_,_,true,_,_,_,_,by simp only[kN];simp;omega,rfl,rfl,L.2⟩
   ·have L:=vM (c0:=F) (c1:=z) (c2:=t) (c3:=true) (c4:=G) (c5:=I) O ⟨3,4⟩ (aY 4) (by simp[jI]) (fun a=>by unfold jI;repeat' split<;>simp_all);refine wpOp_step rfl (fun K' hK=> ?_);simp only[sE];go_simp;exact hK _ _ ⟨_,_,_,true,_,_,_,by simp only[kN];simp;omega,rfl,rfl,L.2⟩
   ·have L:=vM (c0:=F) (c1:=z) (c2:=t) (c3:=V) (c4:=true) (c5:=I) O ⟨4,4⟩ (aY 4) (by simp[jI]) (fun a=>by unfold jI;repeat' split<;>simp_all);refine wpOp_step rfl (fun K' hK=> ?_);simp only[sE];go_simp;exact hK _ _ ⟨_,_,_,_,true,_,_,by simp only[kN];simp;omega,rfl,rfl,L.2⟩
   ·have L:=vM (c0:=F) (c1:=z) (c2:=t) (c3:=V) (c4:=G) (c5:=true) O ⟨4,5⟩ (aY 1) (by simp[jI]) (fun a=>by unfold jI;repeat' split<;>simp_all);refine wpOp_step rfl (fun K' hK=> ?_);simp only[sE];go_simp;exact hK _ _ ⟨_,_,_,_,_,true,_,by simp only[kN];simp;omega,rfl,rfl,L.2⟩
  ·left
   have u:F=true/\z=true/\t=true/\V=true/\G=true/\I=true:=by
    revert J;cases F<;>cases z<;>cases t<;>cases V<;>cases G<;>cases I<;>simp
   obtain⟨rfl,rfl,rfl,rfl,rfl,rfl⟩:=u;have S:=aa O;clear O ab J;simp only[kN,zj,sE];refine wpAny_ready (rs:=[13]) aj au ?_;refine AllReady.cons rfl (fun KQ hKQ=> ?_) AllReady.nil;go_simp;refine hKQ _ _ ?_;clear hKQ KQ;refine wpAny_ready (rs:=[14]) aj au ?_;refine AllReady.cons rfl (fun KQ hKQ=> ?_) AllReady.nil;go_simp;refine hKQ _ _ ?_;clear hKQ KQ;refine wpAny_done aj ?_ _;have K:told D ⟨2,3⟩=some (.int .i64 4):=(S.o.told _).bu (by simp[jI]);let⟨⟨n1,u1⟩,y,_⟩:=Option.map_eq_some_iff.1 K;have e1:=Bu xX underlying359 W w D ⟨2,3⟩ n1 u1 (aY 3) S.o.map y;let⟨H,ac⟩:=aH (D.set n1 (⟨2,3⟩,Value.int .i64 3));have C:=aa (fun a=>(Gi ⟨2,3⟩ a (aY 3) D 0 n1 u1 (by rw[fW];exact y)));rw[ac]at e1 C;have U:Hid (et (putObj W w (ew ji H)) w ji H):=aa S.o.map.put;have R:Hid (Bw w (putObj W w (ew ji H))):=aa ((vL _ _ _).low S.o.low au);have ae:=aa e1;clear e1 y K ac;generalize ad:putObj W w.heap.size (ew ji H)=W1 at*;clear ad;have b:∀(X:bD) (E:bF (Pe×bE)),et X w ji E->Bw w X->(∀k,told E k=if k=⟨2,3⟩/\s=true then some (.int .i64 3)else jI true true true true true true k)->∃d,(l=false/\d=E∨l=true/\(Instr.mapUpdate 359 (.map (some w.heap.size)) (.agg #[(4:Int),(5:Int)]) (aY 5)).run prog X=.ok () (putObj X w (ew ji d)))/\(∀k,told d k=vN s l k)/\et (putObj X w (ew ji d)) w ji d/\Bw w (putObj X w (ew ji d)):=by
    intro X E hX A m;have Z:Bw w (putObj X w (ew ji E)):=(vL _ _ _).low A au;cases l with
    |false=>
     refine⟨E,bS ⟨rfl,rfl⟩,fun k=> ?_,hX.put,Z⟩;rw[m];unfold vN;simp
    |true=>
     have c:told E ⟨4,5⟩=some (.int .i64 1):=(m _).bu (by simp[jI]);let⟨⟨B,u2⟩,Y,_⟩:=Option.map_eq_some_iff.1 c;have r:=Bu xX underlying359 X w E ⟨4,5⟩ B u2 (aY 5) hX Y;refine⟨_,ci ⟨rfl,r⟩,fun k=> ?_,hX.put,(vL _ _ _).low A au⟩;have x:=Gi ⟨4,5⟩ k (aY 5) E 0 B u2 (by rw[fW];exact Y);have M:=m k;unfold told at*;rw[x,M];unfold vN;simp
   have q:=aa b;clear b;cases s with
   |false=>
    obtain⟨d,g,f,T,hB⟩:=q.o W D S.o.map S.o.low (fun k=>by rw[S.o.told];simp);let⟨N,p,Q⟩:=Jh3 f T hB;clear f T hB;cases l with
    |false=>
     obtain rfl:d=D:=by rcases g with h|h;exact h.2;exact xl h.1 au
     clear g;go_wp2;go_ret;exact⟨_,rfl,S.o.map,N.o,S.o.low⟩
    |true=>
     have r:(Instr.mapUpdate 359 (.map (some w.heap.size)) (.agg #[(4:Int),(5:Int)]) (aY 5)).run prog W=.ok () (putObj W w (ew ji d)):=by rcases g with h|h;exact xl h.1 au;exact h.2
     clear g;go_wp2;go_ret;exact⟨_,rfl,p.o,N.o,Q.o⟩
   |true=>
    obtain⟨d,g,f,T,hB⟩:=q.o W1 H U.o R.o (fun k=>by
     have:=C.o k
     unfold told;rw[this];have M:=S.o.told k;unfold told at M;rw[M];simp)
    let⟨N,p,Q⟩:=Jh3 f T hB;clear f T hB;have e1:=ae.o;cases l with
    |false=>
     obtain rfl:d=H:=by rcases g with h|h;exact h.2;exact xl h.1 au
     clear g;go_wp2;go_ret;exact⟨_,rfl,U.o,N.o,R.o⟩
    |true=>
     have r:(Instr.mapUpdate 359 (.map (some w.heap.size)) (.agg #[(4:Int),(5:Int)]) (aY 5)).run prog W1=.ok () (putObj W1 w (ew ji d)):=by rcases g with h|h;exact xl h.1 au;exact h.2
     clear g;go_wp2;go_ret;exact⟨_,rfl,p.o,N.o,Q.o⟩
def wd(i:Nat):ByteArray:=match i with
 |0=>⟨#[115,104,117,116]⟩
 |1=>⟨#[116,114,97,100,101]⟩
 |2=>⟨#[102,117,110,100]⟩
 |3=>⟨#[98,117,121,105,110]⟩
 |4=>⟨#[112,97,121,111,117,116]⟩
 |5=>⟨#[99,108,111,115,101,100]⟩
 |_=>⟨#[]⟩
structure kO(W:World):Prop where
 lt:0<W.heap.size
 wD:∀i,i<6->W.cell? ⟨0,i,none⟩=some (.string (wd i))
def kO.keep(h:kO W)(hb:Bw W W'):kO W':=⟨iN h.lt hb.size,fun i hi=>(hb.c (p:=(be 0 i)) h.lt).bu (h.wD i hi)⟩
def kO.d{wd:bD}(h:kO w)(e:wd.heap=w.heap:=by rfl):kO wd:=⟨by rw[e];exact h.lt,fun i hi=>(tV (w:=w) (by rw[e])).bu (h.wD i hi)⟩
variable{K:bF Nat}
def kO.cu{TS:bF TypeId}(h:kO w)(m:cg B TS K w w')(hB:0<B):kO w':=⟨iN h.lt m.size,fun i hi=>(tV (w:=w) (m.far 0 h.lt (bS hB))).bu (h.wD i hi)⟩
def Ok:∀j,j<6->wd j≠ByteArray.empty:=by
 intro j J;obtain rfl|rfl|rfl|rfl|rfl|rfl:j=0∨j=1∨j=2∨j=3∨j=4∨j=5:=af
 all_goals intro h;have:=ym ByteArray.size h;revert this;decide
def Ol(j:Nat)(hj:j<6)(w:bD)(hw:kO w):bG 278 #[aY (j:Int)] w (bj (.string (wd j)) w):=by have P:=hw.wD j hj;have d:¬((j:Int)<0):=af;have c:(j:Int)<6:=af;clear hw;generalize wd j=s at*;go_enter func278,ntmps278;go_wp2;go_ret;exact⟨rfl,rfl⟩
def vO(s l:Bool)(k:Pe):Option Int:=if k=⟨4,5⟩then some (if l then 5 else 1)else if k=⟨2,3⟩then some (if s then 3 else 4)else if k=⟨1,1⟩then some 2 else if k=⟨2,2⟩then some 2 else if k=⟨3,4⟩then some 4 else if k=⟨4,4⟩then some 4 else none
def Gm(s l:Bool)(k:Pe):vN s l k=(vO s l k).map (Value.int .i64):=by
 unfold vN vO jI;cases s<;>cases l<;>simp only[and_true,and_false,if_false,Bool.false_eq_true,if_true]
 all_goals
  repeat' split
  all_goals simp_all
def Om{s l:Bool}{k:Pe}{n:Int}(h:vO s l k=some n):∃j:Nat,j<6/\k.phase=j:=by
 unfold vO at h;by_cases d:k=⟨4,5⟩
 ·subst d;exact⟨4,af,rfl⟩
 by_cases c:k=⟨2,3⟩
 ·subst c;exact⟨2,af,rfl⟩
 by_cases x:k=⟨1,1⟩
 ·subst x;exact⟨1,af,rfl⟩
 by_cases M:k=⟨2,2⟩
 ·subst M;exact⟨2,af,rfl⟩
 by_cases V:k=⟨3,4⟩
 ·subst V;exact⟨3,af,rfl⟩
 by_cases A:k=⟨4,4⟩
 ·subst A;exact⟨4,af,rfl⟩
 simp[d,c,x,M,V,A]at h
def ml(p t:Int)(s l:Bool):Int×Int:=match vO s l ⟨p,t⟩with
 |some n=>(n,0)
 |none=>(0,11)
def On(p t:Int)(s l:Bool)(w:bD)(hw:kO w):bG 223 #[aY p,aY t,.bool s,.bool l] w (bi (bg (ml p t s l)) w):=by
 have m:∀w,(zeroValue 3).run prog w=.ok (aY 0) w:=fun w=>aj;have O:=aa hw;clear hw;cases hf:vO s l ⟨p,t⟩with
 |none=>
  have I:Hid (ml p t s l=(0,11)):=aa (by unfold ml;rw[hf]);rw[I.o];have h:=aa hf;clear hf;go_enter func223,ntmps223;go_wp2_with(go_at_call 277;refine(Gl s l _).bC ?_;rintro e d⟨D,rfl,X,f,b⟩;have S:=Gh xX underlying359 (aY 0) m d w.heap.size D ⟨p,t⟩ X;have a:=f ⟨p,t⟩;rw[Gm,h.o]at a;have x:look (⟨p,t⟩:Pe) D 0=none:=(by unfold told at a;simpa using a);rw[x]at S;clear f a x);go_ret2;exact⟨rfl,b⟩
 |some n=>
  have I:Hid (ml p t s l=(n,0)):=aa (by unfold ml;rw[hf]);rw[I.o];have h:=aa hf;let⟨j,J,c⟩:=Om hf;have c:p=(j:Int):=c;subst c;have L:=Ok j J;have r:(wd j).toList.isEmpty=false:=by
   rw[List.isEmpty_eq_false_iff];intro e;rw[ByteArray.toList_eq]at e;exact L (ByteArray.ext (Array.toList_inj.mp e))
  clear hf;go_enter func223,ntmps223;go_wp2_with(first|(go_at_call 277;refine(Gl s l _).bC ?_;rintro e d⟨D,rfl,X,f,b⟩;have g:=aa (O.o.keep b);have S:=Gh xX underlying359 (aY 0) m d w.heap.size D ⟨(j:Int),t⟩ X;have a:=f ⟨(j:Int),t⟩;rw[Gm,h.o]at a;have x:∃i,look (⟨(j:Int),t⟩:Pe) D 0=some (i,.int .i64 n):=(by unfold told at a;obtain⟨⟨i,u⟩,M,V⟩:=Option.map_eq_some_iff.1 a;simp at V;exact⟨i,by rw[M,V]⟩);obtain⟨i,x⟩:=x;rw[x]at S;clear f a x)|(go_at_call 278;refine(Ol j J _ g.o).bC ?_;rintro e k⟨rfl,rfl⟩));go_ret2;exact⟨rfl,b⟩
def Gv(ms:Int)(a:Ac)(h:(kn ms a).2=0):0<=(kn ms a).1/\(kn ms a).1<6+3*ms∨ms<0:=by
 unfold kn at h⊢;split
 ·rename_i c;omega
 ·rename_i c;split
  ·rename_i d;obtain⟨b,Q,l⟩:=d;have:0<=pH a.k/\pH a.k<=2:=by
    unfold pH at b⊢;split
    ·omega
    ·split
     ·omega
     ·split
      ·omega
      ·rename_i x y z;rw[ya x,ya y,ya z]at b;exact xl rfl b
   omega
  ·rename_i d;rw[ya c,ya d]at h;simp at h
def gF(ms na:Nat)(a:Ac)(bK:Int):Int×Int:=if(kn ms a).2=0/\0<=bK/\bK<na then(bK*(6+3*(ms:Int))+(kn ms a).1,0)else(0,8)
variable{ms:Nat}
def zk{na:Nat}{a:Ac}{bK:Int}(h:(gF ms na a bK).2=0):0<=(gF ms na a bK).1/\(gF ms na a bK).1<((na*(6+3*ms):Nat):Int):=by
 unfold gF at h⊢;by_cases c:(kn ms a).2=0/\0<=bK/\bK<na
 ·rw[yc c];obtain⟨b,f,F⟩:=c;have D:=Gv ms a b;have A:0<=(kn ms a).1/\(kn ms a).1<6+3*(ms:Int):=af;obtain⟨n,rfl⟩:=yN f;have d:n+1<=na:=af;have g:(n+1)*(6+3*ms)<=na*(6+3*ms):=lT _ d;have x:(n+1)*(6+3*ms)=n*(6+3*ms)+(6+3*ms):=pD _ _;have M:(n:Int)*(6+3*(ms:Int))=((n*(6+3*ms):Nat):Int):=by push_cast;rfl
  dsimp only;rw[M];omega
 ·rw[ya c]at h;simp at h
def Gw(ms:Nat)(h1:ms<=16)(a:Ac)(w:bD):bG 224 #[ms,fo a] w (bi (bg (kn ms a)) w):=(MU ms af af a w).bC fun _ _ ⟨he,hw⟩=>⟨he,by rw[hw];exact aI⟩
def xY(g:Nat)(v:bE)(ms na:Nat)(dd:Int)(hms:ms<=16)(hna:na<=9)(a:Ac)(bK:Int)(w:bD)(hb:bI w g 224 #[ms,na,v,dd]):
  bG 175 #[ptr g,fo a,bK] w (bi (bg (gF ms na a bK)) w):=by
 obtain⟨k,m⟩:=a;let⟨⟨n,y⟩,d⟩:∃r,kn ms ⟨k,m⟩=r:=⟨_,rfl⟩;let⟨f,L,t⟩:=Jh3 d (hb.alloc (bH (cT ⟨k,m⟩) 81)) (bI.new w 81 (cT ⟨k,m⟩));have P:Bw w (aZ w (cT ⟨k,m⟩) 81):=aI;let⟨A,E⟩:=L.o.k2 0 1;let⟨C,s⟩:=t.o.k2 0 1;have U:(w.alloc (bH (cT ⟨k,m⟩) 81)).cell? (be g 0)=some (.int .i64 (ms:Nat))/\(w.alloc (bH (cT ⟨k,m⟩) 81)).cell? (be w 0)=k/\(w.alloc (bH (cT ⟨k,m⟩) 81)).cell? (be w 1)=m:=⟨A,C,s⟩;by_cases F:y=0/\0<=bK/\bK<na
 ·obtain⟨rfl,Z,Q⟩:=F;have u:Hid (gF ms na ⟨k,m⟩ bK=(bK*(6+3*(ms:Int))+n,0)):=aa (by unfold gF;rw[d,yc ⟨rfl,Z,Q⟩]);have K:=zk (ms:=ms) (na:=na) (a:=⟨k,m⟩) (bK:=bK) (by rw[u.o]);rw[u.o]at K;dsimp only at K;have l:na*(6+3*ms)<=9*54:=qm hna af;have D:=Gv ms ⟨k,m⟩ (by rw[d]);rw[d]at D;dsimp only at D;have I:0<=bK*(6+3*(ms:Int)):=ud af af;let⟨M,X⟩:∃M:Int,bK*(6+3*(ms:Int))=M:=⟨_,rfl⟩;rw[X]at K I u;have H:wrap64 (bK*(6+3*(ms:Int)))=M:=by rw[X];unfold wrap64;omega
  have q:decide (bK<0)=false:=dF af;have N:decide ((na:Int)<=bK)=false:=dF af;clear X d;go_enter func175,ntmps175;go_wp2_with fail;generalize p:w.alloc (bH #[k,m] 81)=W0 at*;clear p;go_region_held3(fun W=>W.cell? (be g 0)=some (.int .i64 (ms:Nat))/\W.cell? (be w 0)=k/\W.cell? (be w 1)=m) (first|exact U|assumption|go_keep)
   (first|(go_at_call 224;refine(Gw ms hms ⟨k,m⟩ _).bC ?_;rintro e V⟨rfl,b⟩;rw[f.o];have J:=aa (L.o.keepD b);have B:=aa (t.o.keepD b);have z:Bw w V:=(iY P b P.size);have x:V.cell? (be g 0)=some (.int .i64 (ms:Nat))/\V.cell? (be w 0)=k/\V.cell? (be w 1)=m:=⟨J.o.c 0,B.o.c 0,B.o.c 1⟩))
  rename_i j;clear j x U A E C s b;let⟨A,E⟩:=J.o.k2 0 1;go_wp2_with(go_at_call 136;refine(FY _ af af _).bC ?_;rintro e i⟨rfl,rfl⟩);go_ret2;exact⟨by rw[u.o];rfl,z⟩
 ·have u:Hid (gF ms na ⟨k,m⟩ bK=(0,8)):=aa (by unfold gF;rw[d,ya F]);have G:(y !=0)=true∨((y !=0)=false/\bK<0)∨((y !=0)=false/\0<=bK/\(na:Int)<=bK):=by
   by_cases h:y=0
   ·have O:(y !=0)=false:=aG h;rcases kH bK 0 with h3|h3
    ·exact ci (bS ⟨O,h3⟩)
    ·exact ci (ci ⟨O,h3,af⟩)
   ·exact bS (aG h)
  clear F d;rcases G with Z|⟨Z,Q⟩|⟨Z,Q,o3⟩
  all_goals
   go_enter func175,ntmps175;go_wp2_with fail;generalize p:w.alloc (bH #[k,m] 81)=W0 at*;clear p;go_region_held3(fun W=>W.cell? (be g 0)=some (.int .i64 (ms:Nat))/\W.cell? (be w 0)=k/\W.cell? (be w 1)=m) (first|exact U|assumption|go_keep)
    (first|(go_at_call 224;refine(Gw ms hms ⟨k,m⟩ _).bC ?_;rintro e V⟨rfl,b⟩;rw[f.o];have J:=aa (L.o.keepD b);have B:=aa (t.o.keepD b);have z:Bw w V:=(iY P b P.size);have x:V.cell? (be g 0)=some (.int .i64 (ms:Nat))/\V.cell? (be w 0)=k/\V.cell? (be w 1)=m:=⟨J.o.c 0,B.o.c 0,B.o.c 1⟩))
   rename_i j;clear j x U A E C s b;let⟨A,E⟩:=J.o.k2 0 1;go_wp2;go_ret2;exact⟨by rw[u.o];rfl,z⟩
def jU(ms na:Nat)(l:List Int)(a:Ac)(bK:Int):Int×Int:=if(gF ms na a bK).2=0 then(l.getD (gF ms na a bK).1.toNat 0,0)else(0,8)
def Gx{na:Nat}{a:Ac}{bK:Int}(h:(gF ms na a bK).2≠0):gF ms na a bK=(0,8):=by
 unfold gF at h⊢;split
 ·rename_i c;rw[yc c]at h;exact xl rfl h
 ·rfl
def Ck(B g:Nat)(v:bE)(ms na:Nat)(l:bF Int)(dd:Int)(hms:ms<=16)(hna:na<=9)(hl:l.length=na*(6+3*ms))(a:Ac)(bK:Int)(w:bD)(hb:ju w B g v ms na l dd):
  bG 122 #[ptr g,fo a,bK] w (bi (bg (jU ms na l a bK)) w):=by
 obtain⟨k,m⟩:=a;let⟨⟨n,y⟩,j⟩:∃r,gF ms na ⟨k,m⟩ bK=r:=⟨_,rfl⟩;have H:=aa j;have D:na*(6+3*ms)<=9*54:=qm hna af;have x:Bw w (aZ w (cT ⟨k,m⟩) 81):=aI;let⟨L,q⟩:=Jh2 (hb.keep x) (bI.new w 81 (cT ⟨k,m⟩));clear hb;by_cases u:y=0
 ·subst u;have K:=zk (ms:=ms) (na:=na) (a:=⟨k,m⟩) (bK:=bK) (by rw[j]);rw[j]at K;dsimp only at K;obtain⟨N,rfl⟩:=yN K.1;have f:N<l:=by rw[hl];omega
  have h:Hid (jU ms na l ⟨k,m⟩ bK=(l[N],0)):=aa (by unfold jU;rw[j,yc rfl];dsimp only;rw[Int.toNat_natCast,List.getD_eq_getElem?_getD,List.getElem?_eq_getElem f];rfl);clear j K;go_enter func122,ntmps122;go_wp2_with fail;refine(xY g v ms na dd hms hna ⟨k,m⟩ bK _ L.o.blk).bC ?_;rintro e i⟨rfl,p⟩;rw[H.o];have R:=aa (L.o.keep p);have z:=x.bu (p.bC au);obtain⟨Y,U,rfl,t,d,F⟩:=(Sl.own kI R.o.own).oy;obtain⟨b,A,rfl,W,s⟩:=F af;have G:=R.o.blk.c 2;have E:=s N f;have O:0<=(N:Int):=af;have C:N<(l:Int):=af;unfold maxLen at d;clear F s p L q;go_wp2;go_ret2;exact⟨by rw[h.o];rfl,z⟩
 ·have h:Hid (jU ms na l ⟨k,m⟩ bK=(0,8)):=aa (by unfold jU;rw[j,ya u]);have V:=Gx (ms:=ms) (na:=na) (a:=⟨k,m⟩) (bK:=bK) (by rw[j];exact u);rw[j]at V;obtain⟨rfl,rfl⟩:=Prod.mk.inj V;clear j V u;go_enter func122,ntmps122;go_wp2_with fail;refine(xY g v ms na dd hms hna ⟨k,m⟩ bK _ L.o.blk).bC ?_;rintro e i⟨rfl,p⟩;rw[H.o];have z:=x.bu (p.bC au);clear p L q;go_wp2;go_ret2;exact⟨by rw[h.o];rfl,z⟩
def Ou(G P:Nat)(cs:Array bE)(hP:cs[0]?=some (ptr P))(a:Ac)(bK:Int)(x y:Int)(w:bD)(hb:bI w G 184 cs)(hcall:∀W,Bw w W->bG 122 #[ptr P,fo a,bK] W (bi (.tuple #[x,y]) W)):
  bG 89 #[ptr G,fo a,bK] w (bi (.tuple #[x,y]) w):=by
 obtain⟨k,m⟩:=a;let⟨d,L,g⟩:=Jh3 hcall (hb.alloc (bH (cT ⟨k,m⟩) 81)) (bI.new w 81 (cT ⟨k,m⟩));have f:Bw w (aZ w (cT ⟨k,m⟩) 81):=aI;have U:(w.alloc (bH (cT ⟨k,m⟩) 81)).cell? (be G 0)=some (ptr P)/\(w.alloc (bH (cT ⟨k,m⟩) 81)).cell? (be w 0)=k/\(w.alloc (bH (cT ⟨k,m⟩) 81)).cell? (be w 1)=m:=⟨(L.o.c 0).bu hP,g.o.c 0,g.o.c 1⟩;clear hcall hb;have n:=aa hP;clear hP;go_enter func89,ntmps89;go_wp2_with fail;generalize h:w.alloc (bH #[k,m] 81)=W0 at*;clear h;go_region_held3(fun W=>W.cell? (be G 0)=some (ptr P)/\W.cell? (be w 0)=k/\W.cell? (be w 1)=m) (first|exact U|assumption|go_keep)
  (first|(go_at_call 122;refine(d.o _ Qa1).bC ?_;rintro e V⟨rfl,b⟩;have J:=aa (L.o.keepD b);have B:=aa (g.o.keepD b);have z:Bw w V:=(iY f b f.size);have i:V.cell? (be G 0)=some (ptr P)/\V.cell? (be w 0)=k/\V.cell? (be w 1)=m:=⟨(J.o.c 0).bu n.o,B.o.c 0,B.o.c 1⟩))
 exact QbJ
def Ov(G P:Nat)(cs:Array bE)(hP:cs[8]?=some (ptr P))(a:Ac)(bK:Int)(x y:Int)(w:bD)(hb:bI w G 138 cs)(hcall:∀W,Bw w W->bG 89 #[ptr P,fo a,bK] W (bi (.tuple #[x,y]) W)):
  bG 59 #[ptr G,fo a,bK] w (bi (.tuple #[x,y]) w):=by
 obtain⟨k,m⟩:=a;let⟨d,L,g⟩:=Jh3 hcall (hb.alloc (bH (cT ⟨k,m⟩) 81)) (bI.new w 81 (cT ⟨k,m⟩));have f:Bw w (aZ w (cT ⟨k,m⟩) 81):=aI;have U:(w.alloc (bH (cT ⟨k,m⟩) 81)).cell? (be G 8)=some (ptr P)/\(w.alloc (bH (cT ⟨k,m⟩) 81)).cell? (be w 0)=k/\(w.alloc (bH (cT ⟨k,m⟩) 81)).cell? (be w 1)=m:=⟨(L.o.c 8).bu hP,g.o.c 0,g.o.c 1⟩;clear hcall hb;have n:=aa hP;clear hP;go_enter func59,ntmps59;go_wp2_with fail;generalize h:w.alloc (bH #[k,m] 81)=W0 at*;clear h;go_region_held3(fun W=>W.cell? (be G 8)=some (ptr P)/\W.cell? (be w 0)=k/\W.cell? (be w 1)=m) (first|exact U|assumption|go_keep)
  (first|(go_at_call 89;refine(d.o _ Qa1).bC ?_;rintro e V⟨rfl,b⟩;have J:=aa (L.o.keepD b);have B:=aa (g.o.keepD b);have z:Bw w V:=(iY f b f.size);have i:V.cell? (be G 8)=some (ptr P)/\V.cell? (be w 0)=k/\V.cell? (be w 1)=m:=⟨(J.o.c 8).bu n.o,B.o.c 0,B.o.c 1⟩))
 exact QbJ
def Ow(G P:Nat)(cs:Array bE)(hP:cs[8]?=some (ptr P))(a:Ac)(bK:Int)(x y:Int)(w:bD)(hb:bI w G 138 cs)(hcall:∀W,Bw w W->bG 89 #[ptr P,fo a,bK] W (bi (.tuple #[x,y]) W)):
  bG 137 #[ptr G,fo a,bK] w (bi x w):=by
 obtain⟨k,m⟩:=a;let⟨d,L,g⟩:=Jh3 hcall (hb.alloc (bH (cT ⟨k,m⟩) 81)) (bI.new w 81 (cT ⟨k,m⟩));have f:Bw w (aZ w (cT ⟨k,m⟩) 81):=aI;have U:(w.alloc (bH (cT ⟨k,m⟩) 81)).cell? (be G 8)=some (ptr P)/\(w.alloc (bH (cT ⟨k,m⟩) 81)).cell? (be w 0)=k/\(w.alloc (bH (cT ⟨k,m⟩) 81)).cell? (be w 1)=m:=⟨(L.o.c 8).bu hP,g.o.c 0,g.o.c 1⟩;clear hcall hb;have n:=aa hP;clear hP;go_enter func137,ntmps137;go_wp2_with fail;generalize h:w.alloc (bH #[k,m] 81)=W0 at*;clear h;go_region_held3(fun W=>W.cell? (be G 8)=some (ptr P)/\W.cell? (be w 0)=k/\W.cell? (be w 1)=m) (first|exact U|assumption|go_keep)
  (first|(go_at_call 89;refine(d.o _ Qa1).bC ?_;rintro e V⟨rfl,b⟩;have J:=aa (L.o.keepD b);have B:=aa (g.o.keepD b);have z:Bw w V:=(iY f b f.size);have i:V.cell? (be G 8)=some (ptr P)/\V.cell? (be w 0)=k/\V.cell? (be w 1)=m:=⟨(J.o.c 8).bu n.o,B.o.c 0,B.o.c 1⟩))
 rename_i r;clear r i U b;go_wp2;go_ret;exact⟨rfl,z⟩
def Ox(G P:Nat)(cs:Array bE)(hP:cs[8]?=some (ptr P))(a:Ac)(bK:Int)(x y:Int)(w:bD)(hb:bI w G 94 cs)(hcall:∀W,Bw w W->bG 59 #[ptr P,fo a,bK] W (bi (.tuple #[x,y]) W)):
  bG 28 #[ptr G,fo a,bK] w (bi (.tuple #[x,y]) w):=by
 obtain⟨k,m⟩:=a;let⟨d,L,g⟩:=Jh3 hcall (hb.alloc (bH (cT ⟨k,m⟩) 81)) (bI.new w 81 (cT ⟨k,m⟩));have f:Bw w (aZ w (cT ⟨k,m⟩) 81):=aI;have U:(w.alloc (bH (cT ⟨k,m⟩) 81)).cell? (be G 8)=some (ptr P)/\(w.alloc (bH (cT ⟨k,m⟩) 81)).cell? (be w 0)=k/\(w.alloc (bH (cT ⟨k,m⟩) 81)).cell? (be w 1)=m:=⟨(L.o.c 8).bu hP,g.o.c 0,g.o.c 1⟩;clear hcall hb;have n:=aa hP;clear hP;go_enter func28,ntmps28;go_wp2_with fail;generalize h:w.alloc (bH #[k,m] 81)=W0 at*;clear h;go_region_held3(fun W=>W.cell? (be G 8)=some (ptr P)/\W.cell? (be w 0)=k/\W.cell? (be w 1)=m) (first|exact U|assumption|go_keep)
  (first|(go_at_call 59;refine(d.o _ Qa1).bC ?_;rintro e V⟨rfl,b⟩;have J:=aa (L.o.keepD b);have B:=aa (g.o.keepD b);have z:Bw w V:=(iY f b f.size);have i:V.cell? (be G 8)=some (ptr P)/\V.cell? (be w 0)=k/\V.cell? (be w 1)=m:=⟨(J.o.c 8).bu n.o,B.o.c 0,B.o.c 1⟩))
 exact QbJ
variable{T:TypeId}{sz:Nat}{x:bE}
def bI.grown{base:Nat}(h:bI w g T cs)(ho:w.ownsRow base e sz x n xs)(hg:w.grownBy w' x.ownBlock)(hT:T≠e):bI w' g T cs:=by
 refine(hg.block g h.lt ?_).bu h;intro j;obtain⟨_,W⟩:=ho;rcases W with⟨rfl,_⟩|⟨k,cap,cur,rfl,_,hh,_⟩
 ·simp[Value.ownBlock]at j
 ·simp[Value.ownBlock]at j;subst j;unfold bI at h;rw[h]at hh;cases hh
  exact hT rfl
def kP(w:World)(v v':Value):Prop:=v'.ownBlock=v.ownBlock∨∃k,w.heap.size<=k/\v'.ownBlock=some k
structure zm(w w':World)(B g:Nat)(T:TypeId)(cs:Array Value)(off:Nat)(vl:Value)(l:List Ev)(K:List Nat)(vl':Value):Prop where
 blk:bI w' g T (cs.setIfInBounds off vl')
 own:w'.ownsRow B 101 5 vl' l (bN eE l)
 mod:cg B [T,101] K w w'
 goes:kP w vl vl'
def fp{base:Nat}(h:bI w g T cs)(ho:w.ownsRow base e sz x n xs)(hT:T≠e):∀k,x.ownBlock=some k->k≠g:=by
 rintro k a rfl;obtain⟨_,W⟩:=ho;rcases W with⟨rfl,_⟩|⟨j,cap,cur,rfl,_,hh,_⟩
 ·simp[Value.ownBlock]at a
 ·simp[Value.ownBlock]at a;subst a;unfold bI at h;rw[h]at hh;cases hh
  exact hT rfl
variable{w2:bD}{off:Nat}{v':bE}{ev:bF Ev}
def Gy{vl:bE}{l:bF Ev}(hb:bI w g T cs)(ho:w.ownsRow B 101 5 vl l (bN eE l))(hgrow:w.grownBy w2 vl.ownBlock)(hown:w2.ownsRow B 101 5 v' (l.length+ev.length) (bN eE l++bN eE ev))(hat:v'.ownBlock=vl.ownBlock∨v'.ownBlock=some w.heap.size)(hT:T≠101)(hB:B<=g)(hKg:g∉K)(hKv:∀k,vl.ownBlock=some k->k∉K):zm w (w2.setCell (g,off) v') B g T cs off vl (l++ev) K v':=by
 have F:=hb.grown ho hgrow hT;refine⟨F.set off v', ?_,(cg.grown ho hgrow au (bL _) hKv).bu (cg.set F au hB hKg), ?_⟩
 ·have:=fp F hown hT
  refine ed (w:=w2) ?_ (fun k hk=>fV _ _ _ _ (this k hk));rw[cO,ox];exact hown
 ·exact QcB
def Gz(B g:Nat)(cs:Array bE)(vl:bE)(l ev:bF Ev)(ad:Addr)(cap:Nat)(K:bF Nat)(w:bD)(hb:bI w g 138 cs)(hcs:cs[15]?=some vl)(hB:B<=g)(hBw:B<=w)(ho:w.ownsRow B 101 5 vl l (bN eE l))(hs:Sl eE 5 w (.slice (some ad) ev cap) ev)(hn:l.length+ev.length<=1000000)(hKg:g∉K)(hKv:∀k,vl.ownBlock=some k->k∉K):
  bG 164 #[ptr g,.slice (some ad) ev cap] w fun e w'=>∃vl',e=.returned (.tuple #[])/\zm w w' B g 138 cs 15 vl (l++ev) K vl':=by
 let⟨J,p,S,X,q⟩:=wm yY;have I:=aa (Sl.oz jg ah hs);have f:=(hb.c 15).bu hcs;let⟨N,Q,i⟩:=Jh3 hb ho hKv;obtain⟨W,n,rfl⟩:=bV ho;clear hb ho hs hKv hcs;go_enter func164,ntmps164;go_wp2_with(at_builtin;refine wpList_append_own_at _ rfl _ _ 39 rfl B 101 J (.agg #[(),(),(),(),()]) 5 40 underlying39 p S X q rfl ah _ _ _ rfl Q.o ad ev cap (bN eE ev) rfl (ik eE 5 jg ev) I.o (lE vE ev) ?c3 ?c4 ?c5 ?_)
 case c3=>unfold maxLen;omega
 case c4=>omega
 case c5=>exact hBw
 intro j r b a _ M;let⟨F,m⟩:=Jh2 (Gy (off:=15) N.o Q.o a b M ah hB hKg i.o) (N.o.grown Q.o a ah);have Y:=m.o.c 15;have v:=m.o.free 15;have d:15<cs.size:=by
  rcases fA 15 cs.size with h|h
  ·exact h
  ·have e:=(N.o.c 15).symm.bu f;rw[qT h]at e;cases e
 rw[Array.getElem?_eq_getElem d]at Y;obtain⟨s,U,rfl⟩:=bV b;clear b a M Q N f I;generalize cs[15]=kS at*;go_wp2;go_end0;exact⟨_,rfl,F.o⟩
def mZ(w:bD):bG 155 #[] w fun e w'=>e=.returned (fo ⟨1,0⟩)/\w'=aZ w (cT ⟨1,0⟩) 81:=by go_enter func155,ntmps155;go_wp2;exact wb (v:=fo ⟨1,0⟩) (by simp[results,results155,go_sem]) rfl ⟨rfl,rfl⟩
def qZ(m:Int)(w:bD):bG 140 #[m] w fun e w'=>e=.returned (fo ⟨7,m⟩)/\w'=aZ w (cT ⟨7,m⟩) 81:=by go_enter func140,ntmps140;go_wp2;exact wb (v:=fo ⟨7,m⟩) (by simp[results,results140,go_sem]) rfl ⟨rfl,rfl⟩
def pK(m:Int)(w:bD):bG 138 #[m] w fun e w'=>e=.returned (fo ⟨8,m⟩)/\w'=aZ w (cT ⟨8,m⟩) 81:=by go_enter func138,ntmps138;go_wp2;exact wb (v:=fo ⟨8,m⟩) (by simp[results,results138,go_sem]) rfl ⟨rfl,rfl⟩
def Oy(B g:Nat)(cs:Array bE)(vl:bE)(l:bF Ev)(w:bD)(hb:bI w g 138 cs)(hcs:cs[15]?=some vl)(ho:w.ownsRow B 101 5 vl l (bN eE l))(hn:l.length<=1000000):bG 82 #[ptr g] w (ki eE 101 5 l w):=by have p:=(hb.c 15).bu hcs;have D:=aa (Sl.own jg ho);obtain⟨W,K,rfl⟩:=bV ho;clear hb hcs ho;go_enter func82,ntmps82;go_wp2_with fail;refine(FR _ l _ D.o hn).bC ?_;rintro e i⟨v,rfl,I,b⟩;go_wp2;go_ret;exact⟨_,rfl,I,b⟩
end
def Oz(w:bD)(base:Nat)(t ty e:TypeId)(i:TypeInfo)(ht:prog.underlying t=some (.slice e))(hi:prog.info? e=some i)(v:bE)(n k c:Nat)(xs:bF bE)(ho:w.ownsRow base e k v n xs):
  (Builtin.append_ #[t,t] ty #[v,.slice none 0 c]).run prog w=.ok v w:=by
 rcases ho with⟨_,⟨rfl,_⟩|⟨g,cap,cur,rfl,_,_,hnc,_⟩⟩
 ·simp[Builtin.append_,run_underlying ht,sizeOf,typeInfo,hi,Builtin.lenOf,Builtin.firstCells]
 ·simp[Builtin.append_,run_underlying ht,sizeOf,typeInfo,hi,Builtin.lenOf,Builtin.firstCells,hnc,storeCells]
section
variable {α:Type} {enc:α->List Value} {k:Nat}
def GC(hk:∀x,(enc x).length=k)(h0:0<k)(hone:∀x,∀u∈enc x,u.oneCell'=true)(w:bD)(base:Nat)(t ty e:TypeId)(i:TypeInfo)(z:bE)(bytes:Nat)(ht:prog.underlying t=some (.slice e))(hi:prog.info? e=some i)(hz:i.zero=some z)(hsize:i.size=k)(hby:i.bytes=bytes)(hzs:z.cells.size=k)(v:bE)(l:bF α)(ho:w.ownsRow base e k v l (bN enc l))(A:Option Addr)(c:Nat)(ev:bF α)(hs:Sl enc k w (.slice A ev c) ev)(h63:l.length+ev.length<=maxLen)(hbytes:(l.length+ev.length)*bytes<=140737488355328)(hbase:base<=w):
  ∃v' w',(Builtin.append_ #[t,t] ty #[v,.slice A ev c]).run prog w=.ok v' w'/\w'.ownsRow base e k v' (l++ev).length (bN enc (l++ev))/\w.grownBy w' v.ownBlock/\(v'.ownBlock=v.ownBlock∨v'.ownBlock=some w.heap.size):=by
 cases A with
 |none=>
  have d:ev=[]:=by
   obtain⟨a,U,R,_,_,_,j⟩:=hs;have ha:a=none:=by simp at R;exact R.1.symm
   cases ev with
   |nil=>rfl
   |cons x ev=>
    let⟨b,m,h,_⟩:=j au;rw[ha]at h;cases h
  subst d;refine⟨v,w,Oz w base t ty e i ht hi v _ _ c _ ho,by rw[ix];exact ho,⟨rfl,rfl,rfl,bL _,fun _ _ _=>rfl⟩,bS rfl⟩
 |some ad=>
  obtain⟨v',w',D,f,g,_,V⟩:=run_append_own_at (P:=prog) w base t ty e i z k bytes ht hi hz hsize hby hzs h0 v l (bN enc l) ho ad ev c (bN enc ev) (ik enc k hk ev) (Sl.oz hk h0 hs) (lE hone ev) h63 hbytes hbase;exact⟨v',w',D,by rw[cO,ox];exact f,g,V⟩
variable{Q:Exit->Act->bD->Prop}
def GD{o:Oper}{a:Act}{K:Act->bD->Prop}(hk:∀x,(enc x).length=k)(h0:0<k)(hone:∀x,∀u∈enc x,u.oneCell'=true)(w:bD)(s x:Operand)(t:TypeId)(hop:o.op=.call {callee:=.builtin .append,args:=#[s,x],argTypes:=#[t,t]})(base:Nat)(e:TypeId)(i:TypeInfo)(z:bE)(bytes:Nat)(ht:prog.underlying t=some (.slice e))(hi:prog.info? e=some i)(hz:i.zero=some z)(hsize:i.size=k)(hby:i.bytes=bytes)(hzs:z.cells.size=k)(v:bE)(l:bF α)(hv:a.eval s=v)(ho:w.ownsRow base e k v l (bN enc l))(A:Option Addr)(c:Nat)(ev:bF α)(hx:a.eval x=.slice A ev c)(hs:Sl enc k w (.slice A ev c) ev)(h63:l.length+ev.length<=maxLen)(hbytes:(l.length+ev.length)*bytes<=140737488355328)(hbase:base<=w)(h:∀v' w',w'.ownsRow base e k v' (l++ev).length (bN enc (l++ev))->w.grownBy w' v.ownBlock->(v'.ownBlock=v.ownBlock∨v'.ownBlock=some w.heap.size)->K (a.put o.dst v') w'):o.wp prog a w K Q:=by obtain⟨v',w',D,d,b,V⟩:=GC hk h0 hone w base t o.type e i z bytes ht hi hz hsize hby hzs v l ho A c ev hs h63 hbytes hbase;unfold Oper.wp execOp;simp only[hop,resolve,invoke,builtin,Sem.run_bind,Sem.run_pure,Result.andThen_ok,List.map_toArray,eu,nH,hv,hx,D];exact h v' w' d b V
variable{ops:Array Oper}{rest:bF Oper}
def fG{o:Oper}{a:Act}(hk:∀x,(enc x).length=k)(h0:0<k)(hone:∀x,∀u∈enc x,u.oneCell'=true)(w:bD)(hgd:o.guard=none)(s x:Operand)(t:TypeId)(hop:o.op=.call {callee:=.builtin .append,args:=#[s,x],argTypes:=#[t,t]})(base:Nat)(e:TypeId)(i:TypeInfo)(z:bE)(bytes:Nat)(ht:prog.underlying t=some (.slice e))(hi:prog.info? e=some i)(hz:i.zero=some z)(hsize:i.size=k)(hby:i.bytes=bytes)(hzs:z.cells.size=k)(v:bE)(l:bF α)(hv:a.eval s=v)(ho:w.ownsRow base e k v l (bN enc l))(A:Option Addr)(c:Nat)(ev:bF α)(hx:a.eval x=.slice A ev c)(hs:Sl enc k w (.slice A ev c) ev)(h63:l.length+ev.length<=maxLen)(hbytes:(l.length+ev.length)*bytes<=140737488355328)(hbase:base<=w)(h:∀v' w',w'.ownsRow base e k v' (l++ev).length (bN enc (l++ev))->w.grownBy w' v.ownBlock->(v'.ownBlock=v.ownBlock∨v'.ownBlock=some w.heap.size)->wpList prog ops Q rest (a.put o.dst v') w'):wpList prog ops Q (o::rest) a w:=wpList_plain hgd fun _ hK=>GD hk h0 hone w s x t hop base e i z bytes ht hi hz hsize hby hzs v l hv ho A c ev hx hs h63 hbytes hbase fun v' w' h2 h3 h5=>hK _ _ (h v' w' h2 h3 h5)
variable{off:Nat}
def Sl.drop{l:bF α}(h:Sl enc k W (.slice a l cap) l)(j:Nat)(hj:j<l)(ha:a=some ⟨b,off,none⟩):Sl enc k W (.slice (some (b,off+j*k)) (l.length-j) (cap-j)) (l.drop j):=by
 obtain⟨Y,z,R,H,d,c,P⟩:=h;let⟨o,r⟩:a=Y/\cap=z:=aG R;subst o r;let⟨g,f,m,p,n⟩:=P af;rw[ha]at m;obtain⟨rfl,rfl⟩:b=g/\off=f:=aG m;refine⟨some (b,off+j*k),cap-j,by rw[fc],(fun h=>by cases h),by rw[fc];omega,bW (Nat.sub_le _ _) c,fun _=>⟨b,off+j*k,rfl,p,fun i hi q x hx=> ?_⟩⟩;rw[fc]at hi;rw[List.getElem_drop]at hx;have:=n (j+i) af q x hx
 rw[pF,<-Nat.add_assoc]at this;exact this
end
section
attribute [local go_sem ↓] wp_at_zero wp_at_succ
variable{k:Nat}{ops:Array Oper}{Q:Exit->Act->bD->Prop}
def lV{α:Type}{enc:α->bF bE}{o:Oper}{a:Act}{K:Act->bD->Prop}{E:Prop}(hk:∀x,(enc x).length=k)(h0:0<k)(hone:∀x,∀u∈enc x,u.oneCell'=true)(w:bD)(hgd:o.guard=none)(s x:Operand)(t:TypeId)(hop:o.op=.call {callee:=.builtin .append,args:=#[s,x],argTypes:=#[t,t]})(base:Nat)(e:TypeId)(i:TypeInfo)(z:bE)(bytes:Nat)(ht:prog.underlying t=some (.slice e))(hi:prog.info? e=some i)(hz:i.zero=some z)(hsize:i.size=k)(hby:i.bytes=bytes)(hzs:z.cells.size=k)(v:bE)(l:bF α)(hv:a.eval s=v)(ho:w.ownsRow base e k v l (bN enc l))(A:Option Addr)(n c:Nat)(ev:bF α)(hx:a.eval x=.slice A n c)(hnn:n=ev.length)(hs:Sl enc k w (.slice A n c) ev)(h63:l.length+ev.length<=maxLen)(hbytes:(l.length+ev.length)*bytes<=140737488355328)(hbase:base<=w)(h:∀v' w',w'.ownsRow base e k v' (l++ev).length (bN enc (l++ev))->w.grownBy w' v.ownBlock->(v'.ownBlock=v.ownBlock∨v'.ownBlock=some w.heap.size)->K (a.put o.dst v') w'):if Region.wanted o (yielded ops a.tmps)=true then Oper.wp prog o a w K Q else E:=by
 subst hnn;have T:Region.wanted o (yielded ops a.tmps)=true:=by simp[Region.wanted,hgd]
 rw[yc T];exact GD hk h0 hone w s x t hop base e i z bytes ht hi hz hsize hby hzs v l hv ho A c ev hx hs h63 hbytes hbase h
def oH(a:Option Addr)(cap t k:Nat):Option Addr:=if cap=t then a else a.map (·.add (t*k))
def GF(w:bD)(a:Option Addr)(n cap t:Nat)(h1:t<=n)(h2:n<=cap)(h3:cap<=maxLen)(h4:a=none->cap=0):(Instr.slice 39 (.slice a n cap) (some (.int .i64 t)) none none).run prog w=.ok (.slice (oH a cap t 5) (n-t) (cap-t)) w:=by
 unfold maxLen at h3;cases a with
 |none=>
  obtain rfl:=h4 rfl;obtain rfl:n=0:=af;obtain rfl:t=0:=af;simp[oH,go_sem,underlying39]
 |some ad=>
  unfold oH;by_cases P:cap=t
  ·rw[yc P];simp[go_sem,underlying39,sizeOf101,h1,P]
  ·rw[ya P];simp[go_sem,underlying39,sizeOf101,h1,P]
def GG{t:Nat}{l:bF Ev}(h:Sl eE 5 W (.slice a l cap) l)(ht:t<=l):Sl eE 5 W (.slice (oH a cap t 5) (l.length-t) (cap-t)) (l.drop t):=by
 by_cases f:t<l
 ·have S:=h;obtain⟨Y,z,R,H,d,c,P⟩:=h;let⟨o,r⟩:a=Y/\cap=z:=aG R;subst o r;obtain⟨b,m,rfl,_,_⟩:=P af;unfold oH;rw[ya af];have:=Sl.drop S t f rfl
  simpa[iX]using this
 ·obtain⟨Y,z,R,H,d,c,P⟩:=h;let⟨o,r⟩:a=Y/\cap=z:=aG R;subst o r;have Q:t=l.length:=af;refine⟨oH a cap t 5,cap-t,by rw[fc],fun h=> ?_,by rw[fc];omega,bW (Nat.sub_le _ _) c,fun h=>by rw[fc]at h;omega⟩;unfold oH at h;split at h
  ·have:=H h;omega
  ·cases a with
   |none=>have:=H rfl;omega
   |some x=>simp at h
variable{w2:bD}{T:TypeId}{off:Nat}{v':bE}{ev:bF Ev}{K:bF Nat}
def GH{vl:bE}{l:bF Ev}(hb:bI w g T cs)(ho:w.ownsRow B 101 5 vl l (bN eE l))(hgrow:w.grownBy w2 vl.ownBlock)(hown:w2.ownsRow B 101 5 v' (l++ev).length (bN eE (l++ev)))(hat:v'.ownBlock=vl.ownBlock∨v'.ownBlock=some w.heap.size)(hT:T≠101)(hB:B<=g)(hKg:g∉K)(hKv:∀k,vl.ownBlock=some k->k∉K):zm w (w2.setCell (g,off) v') B g T cs off vl (l++ev) K v':=Gy hb ho hgrow (by rw[cO,ox]at hown;exact hown) hat hT hB hKg hKv
structure zn(w w':World)(B g:Nat)(cs:Array Value)(vl:Value)(l:List Ev)(told:Nat)(K:List Nat)(vl':Value):Prop where
 blk:bI w' g 94 ((cs.setIfInBounds 15 vl').setIfInBounds 14 told)
 own:w'.ownsRow B 101 5 vl' l (bN eE l)
 mod:cg B [94,101] K w w'
 goes:kP w vl vl'
variable{w1:bD}
def kP.later(h:kP w1 v v')(hs:w.heap.size<=w1):kP w v v':=by
 rcases h with h|⟨k,hk,h⟩
 ·exact bS h
 ·exact ci ⟨k,bW hs hk,h⟩
def GI(B g gd:Nat)(cs ds:Array bE)(vl vd:bE)(l dl:bF Ev)(t:Nat)(K:bF Nat)(w:bD)(hb:bI w g 94 cs)(h8:cs[8]?=some (ptr gd))(h15:cs[15]?=some vl)(h14:cs[14]?=t)(hB:B<=g)(hBw:B<=w)(ho:w.ownsRow B 101 5 vl l (bN eE l))(hd:bI w gd 138 ds)(d15:ds[15]?=some vd)(hod:w.ownsRow B 101 5 vd dl (bN eE dl))(ht:t<=dl)(hn:l.length+dl.length<=1000000)(hKg:g∉K)(hKv:∀k,vl.ownBlock=some k->k∉K):
  bG 38 #[ptr g] w fun e w'=>∃vl',e=.returned (.tuple #[])/\zn w w' B g cs vl (l++dl.drop t) dl K vl':=by
 let⟨J,p,S,ad,q⟩:=wm yY;have s:=(hb.c 8).bu h8;let⟨HB,Q,F,ac,O⟩:=Jh5 hb ho hKv h15 h14;obtain⟨n1,k1,rfl⟩:=bV ho;clear hb ho hKv h15 h14 h8;let⟨N,f⟩:=aH ((l++dl.drop t).length);have y:=aa f;clear f;go_enter func38,ntmps38;go_wp2_with fail;refine(Oy B gd ds vd dl _ hd d15 hod af).bC ?_;rintro e i⟨v,rfl,I,b⟩;let⟨R,Z⟩:=Jh2 (HB.o.keep b) (cJ Q.o b);have ae:=Sl.own jg I;obtain⟨n2,U,rfl⟩:=bV I;obtain⟨Y,z,ab,E,ai,ag,_⟩:=ae;let⟨e1,r⟩:n2=Y/\U=z:=aG ab;subst e1 r;have aj:=fun W=>GF W n2 dl U t ht ai ag E;have T:=aa (GG (Sl.own jg I) ht);have x:=(R.o.c 15).bu ac.o;have L:=(R.o.c 14).bu O.o;have m1:cg B [94,101] K w i:=cg.below b;have D:=b.size;clear b I hd d15 hod s ab HB Q;go_wp2;go_region_law((refine lV jg ah vE _ aB _ _ 39 aB B 101 J (.agg #[(),(),(),(),()]) 40 underlying39 p S ad q aB (.slice n1 l k1) l aB (by exact Z.o) (oH n2 U t 5) (dl.length-t) (U-t) (dl.drop t) aB (by rw[fc]) (by exact T.o.d) (by rw[fc];unfold maxLen;omega) (by rw[fc];omega) (by show B<=i.heap.size;omega) ?_;intro j w2 h a M;have V:=aa (GH (w:=i) (off:=15) R.o Z.o QaH h (by exact M) ah hB hKg F.o);have m:=aa (bI.grown (w:=i.drew) (by exact R.o) (by exact Z.o) a ah);have C:=h;rw[y.o]at C;obtain⟨A,u,rfl⟩:=bV C;clear C;have G:=m.o.c 15;rw[ac.o]at G;have H:=m.o.free 15))
 all_goals
  have P:=V.o.blk.c 14;have n:=V.o.blk.free 14;have hq:(cs.setIfInBounds 15 (.slice A N u))[14]?=t:=by rw[xt af];exact O.o
  rw[hq]at P;clear a M h G H m hq x L;generalize(w2.setCell (be g 15) (.slice A N u))=X at*
  go_wp2;go_end0;refine⟨.slice A N u,rfl,V.o.blk.set 14 _, ?_,(m1.bu V.o.mod).bu (cg.set V.o.blk au hB hKg),V.o.goes.later D⟩;exact ed V.o.own fun k hk=>fV _ _ _ _ (fp V.o.blk V.o.own ah k hk)
def Sl.vE(w:bD)(x:Ev):Sl eE 5 (aZ w (lp x) 101) (.slice (some (be w 0)) 1 1) [x]:=by
 refine⟨some (be w 0),1,rfl,(fun h=>by cases h),au,az,fun _=>⟨w,0,rfl,au,fun i hi j u hu=> ?_⟩⟩;have c:i=0:=aG hi;subst c;have:=MJ w x w rfl j u hu
 rw[iX]at this;simpa using this
def OA(cs:Array bE)(a b t:bE):(((cs.setIfInBounds 15 a).setIfInBounds 14 t).setIfInBounds 15 b)=((cs.setIfInBounds 15 b).setIfInBounds 14 t):=by
 apply Array.ext_getElem?;intro i;simp only[xu,Array.size_setIfInBounds];by_cases d:15=i
 ·subst d;simp
 ·by_cases c:14=i
  ·subst c;simp
  ·simp[d,c]
def GJ(x:Ev)(B g gd:Nat)(cs ds:Array bE)(vl vd:bE)(l dl:bF Ev)(t:Nat)(K:bF Nat)(w:bD)(hb:bI w g 94 cs)(h8:cs[8]?=some (ptr gd))(h15:cs[15]?=some vl)(h14:cs[14]?=t)(hB:B<=g)(hBw:B<=w)(ho:w.ownsRow B 101 5 vl l (bN eE l))(hd:bI w gd 138 ds)(d15:ds[15]?=some vd)(hod:w.ownsRow B 101 5 vd dl (bN eE dl))(ht:t<=dl)(hn:l.length+dl.length+1<=1000000)(hKg:g∉K)(hKv:∀k,vl.ownBlock=some k->k∉K)(hKw:∀k∈K,k<w.heap.size):
  bG 106 #[ptr g,vEv x] w fun e w'=>∃vl',e=.returned (.tuple #[])/\zn w w' B g cs vl (l++dl.drop t++[x]) dl K vl':=by
 let⟨J,p,S,ad,q⟩:=wm yY;have c0:Bw w (aZ w (lp x) 101):=aI;let⟨T,I,F⟩:=Jh3 (bI.new w 101 (lp x)) hKw hKv;have Q:15<cs.size:=by
  rcases fA 15 cs.size with h|h
  ·exact h
  ·rw[qT h]at h15;cases h15
 have z:=aa (GI B g gd cs ds vl vd l dl t (w.heap.size::K) _ (hb.keep c0) h8 h15 h14 hB aA (cJ ho c0) (hd.keep c0) d15 (cJ hod c0) ht af (by have:=hb.lt;simp;exact⟨af,hKg⟩) (fun k U=>by have:=(ho.lt k U).2;simp;exact⟨af,hKv k U⟩));clear hb h8 h15 h14 ho hd d15 hod hKv hKw;go_enter func106,ntmps106;go_wp2_with fail;refine z.o.bC ?_;rintro e i⟨v1,rfl,r⟩;have E:=aa (show bI i w 101 (lp x)from(r.mod.far w au (ci (bS au))).bu T.o);have n:=aa r;have v:cg B [94,101] K w i:=(cg.below c0).bu (r.mod.less (by simp;intro k U;exact ci U));have ae:w.heap.size+1<=i.heap.size:=by have:=r.mod.size;simp at this;omega
 have ab:=r.blk.c 15;rw[show(((cs.setIfInBounds 15 v1).setIfInBounds 14 (aY (dl.length:Nat)))[15]?)=some v1 from by rw[xt af,Array.getElem?_setIfInBounds_self_of_lt Q]]at ab;have b:(((cs.setIfInBounds 15 v1).setIfInBounds 14 (aY (dl.length:Nat)))[15]?)=some v1:=by rw[xt af,Array.getElem?_setIfInBounds_self_of_lt Q]
 let⟨x0,V,x2,L,R⟩:=E.o.k5 0 1 2 3 4;have y:=((r.blk.alloc (bH (lp x) 101)).c 15).bu b;let⟨M,hM⟩:=aH ((l++dl.drop t).length);have ag:M<=l.length+dl.length:=by rw[<-hM,cO,fc];omega
 have P:=aa r.own;have s:=r.goes;have ac:=aa (show∀k,v1.ownBlock=some k->k∉K from fun k U=>by
  rcases s with hg|⟨j,hj,hg⟩
  ·exact F.o k (hg▸U)
  ·intro Z;have d:=I.o k Z;rw[hg]at U;have:j=k:=aG U
   simp at hj;omega)
 rw[hM]at P;obtain⟨W,k1,rfl⟩:=bV P.o;have HM:=aa hM;let⟨N,f⟩:=aH ((l++dl.drop t++[x]).length);have D:=aa f;clear f r hM s T z;go_wp2;go_region_law((refine lV jg ah vE _ aB _ _ 39 aB B 101 J (.agg #[(),(),(),(),()]) 40 underlying39 p S ad q aB (.slice W M k1) (l++dl.drop t) aB (by rw[HM.o];exact P.o.alloc _) (some (be i 0)) 1 1 [x] aB aB (by exact Sl.vE _ x) (by rw[HM.o];simp only[eN];unfold maxLen;omega) (by rw[HM.o];simp only[eN];omega) aA ?_;intro v' w2 O a Y;have T2:=aa (GH (w:=aZ i (lp x) 101) (off:=15) (K:=K) (n.o.blk.alloc _) (by rw[HM.o];exact P.o.alloc _) QaH O (by exact Y) ah hB hKg ac.o);have m:=aa (bI.grown (w:=aZ i (lp x) 101) (n.o.blk.alloc _) (by exact P.o.alloc _) QaH ah);have C:=O;rw[D.o]at C;obtain⟨A,u,rfl⟩:=bV C;clear C;have G:=m.o.c 15;rw[b]at G;have H:=m.o.free 15))
 all_goals
  clear a Y O G H m ab b y;generalize(w2.setCell (be g 15) (.slice A N u))=X at*
  go_wp2;go_end0;refine⟨.slice A N u,rfl, ?_,T2.o.own,(v.alloc _).bu T2.o.mod, ?_⟩
  ·have:=T2.o.blk
   rw[OA]at this;exact this
  ·rcases T2.o.goes with h|⟨j,hj,h⟩
   ·rcases n.o.goes with h'|⟨j',hj',h'⟩
    ·exact bS (h.bu h')
    ·exact ci ⟨j',by simp at hj';omega,h.bu h'⟩
   ·exact ci ⟨j,by simp at hj;omega,h⟩
def bI.ne{h:Nat}{U:TypeId}{ds:Array bE}(hg:bI w g T cs)(hh:bI w h U ds)(hT:T≠U):g≠h:=by
 rintro rfl;unfold bI at hg hh;rw[hg]at hh;cases hh
 exact hT rfl
def OB(p cy:Int)(kS:bE)(B g gd:Nat)(cs ds:Array bE)(vl vd:bE)(l dl:bF Ev)(t:Nat)(K:bF Nat)(w:bD)(hb:bI w g 94 cs)(h8:cs[8]?=some (ptr gd))(h15:cs[15]?=some vl)(h14:cs[14]?=t)(h13:cs[13]?=cy)(h11:cs[11]?=some kS)(hB:B<=g)(hBw:B<=w)(ho:w.ownsRow B 101 5 vl l (bN eE l))(hd:bI w gd 138 ds)(d15:ds[15]?=some vd)(hod:w.ownsRow B 101 5 vd dl (bN eE dl))(ht:t<=dl)(hn:l.length+dl.length+1<=1000000)(hKg:g∉K)(hKv:∀k,vl.ownBlock=some k->k∉K)(hKw:∀k∈K,k<w.heap.size):
  bG 102 #[ptr g,p] w fun e w'=>∃vl',e=.returned (.tuple #[])/\zn w w' B g (cs.setIfInBounds 11 p) vl (l++dl.drop t++[⟨1,0,0,p,cy⟩]) dl K vl':=by
 let⟨C,F,f,q⟩:=Jt4 ((hb.c 11).bu h11) (hb.free 11) ((hb.c 13).bu h13) (hb.ne hd ah);have D:=aa (GJ ⟨1,0,0,p,cy⟩ B g gd (cs.setIfInBounds 11 p) ds vl vd l dl t K (w.setCell (be g 11) p) (hb.set 11 _) (by rw[xt af];exact h8) (by rw[xt af];exact h15) (by rw[xt af];exact h14) hB (by simpa[World.setCell]using hBw)
  (ed ho fun k hk=>fV _ _ _ _ (fp hb ho ah k hk)) (hd.far 11 _ (Ne.symm q)) d15 (ed hod fun k hk=>fV _ _ _ _ (fp hb hod ah k hk)) ht hn hKg hKv (fun k hk=>by simpa[World.setCell]using hKw k hk))
 have m:=aa (cg.set (TS:=[94,101]) (i:=11) (x:=p) hb au hB hKg);clear hb h8 h15 h14 h13 h11 ho hd d15 hod hKv hKw q;go_enter func102,ntmps102;go_wp2_with fail;refine D.o.bC ?_;rintro e b⟨a,rfl,r⟩;have n:=aa r;clear r;go_wp2;go_end0;exact⟨a,rfl,n.o.blk,n.o.own,m.o.bu n.o.mod,n.o.goes.later (by simp[World.setCell])⟩
end
end Go.Proofs.YtmhohaanddglbaaGreatDoor
namespace Go.Proofs
open Go.Proofs.Tryz
section
open Go.Shelf
def Tryz.lays134_ren:Go.Shelf.Ren:=⟨fun|134=>410|129=>391|n=>n,fun|53=>102|3=>3|4=>4|46=>158|5=>5|9=>9|n=>n,fun|n=>n⟩
theorem Tryz.lays134:Go.Proofs.Lays.n134 prog Tryz.lays134_ren:={
 mixed:=by kernel_rfl
 f129:=func391.trans (congrArg some (by kernel_rfl))
 f134:=func410.trans (congrArg some (by kernel_rfl))
 t3:=underlying3
 a3:=isAgg3
 z3:=sizeOf3
 v3:=zeroValue3
 t4:=underlying4
 a4:=isAgg4
 z4:=sizeOf4
 v4:=zeroValue4
 t5:=underlying5
 a5:=isAgg5
 z5:=sizeOf5
 v5:=zeroValue5
 t9:=underlying9
 a9:=isAgg9
 z9:=sizeOf9
 v9:=zeroValue9
 t46:=underlying158
 a46:=isAgg158
 z46:=sizeOf158
 v46:=zeroValue158
 t53:=underlying102
 a53:=isAgg102
 z53:=sizeOf102
 v53:=zeroValue102}
theorem Tryz.bits_LeadingZeros64 (x:Int) (w:World) (h0:0≤x) (h1:x≤18446744073709551615):
  Calls prog 410 #[.int .u64 x] w fun e w'=>e=.returned (.int .i64 (64-(Lib.bitLen x.toNat:Int)))∧w'=w:=Any.bits_LeadingZeros64 Tryz.lays134 x w h0 h1
def Tryz.lays189_ren:Go.Shelf.Ren:=⟨fun|189=>349|125=>371|257=>370|128=>390|129=>391|294=>381|295=>382|296=>383|297=>384|298=>385|299=>386|216=>387|300=>388|301=>389|328=>399|329=>400|330=>401|331=>402|332=>403|215=>404|343=>406|n=>n,fun|28=>74|3=>3|46=>158|0=>0|51=>460|53=>102|4=>4|183=>454|182=>453|131=>151|5=>5|9=>9|218=>467|222=>471|228=>475|229=>476|n=>n,fun|n=>n⟩
theorem Tryz.lays189:Go.Proofs.Lays.n189 prog Tryz.lays189_ren:={
 mixed:=by kernel_rfl
 f125:=func371.trans (congrArg some (by kernel_rfl))
 f128:=func390.trans (congrArg some (by kernel_rfl))
 f129:=func391.trans (congrArg some (by kernel_rfl))
 f189:=func349.trans (congrArg some (by kernel_rfl))
 f215:=func404.trans (congrArg some (by kernel_rfl))
 f216:=func387.trans (congrArg some (by kernel_rfl))
 f257:=func370.trans (congrArg some (by kernel_rfl))
 f294:=func381.trans (congrArg some (by kernel_rfl))
 f295:=func382.trans (congrArg some (by kernel_rfl))
 f296:=func383.trans (congrArg some (by kernel_rfl))
 f297:=func384.trans (congrArg some (by kernel_rfl))
 f298:=func385.trans (congrArg some (by kernel_rfl))
 f299:=func386.trans (congrArg some (by kernel_rfl))
 f300:=func388.trans (congrArg some (by kernel_rfl))
 f301:=func389.trans (congrArg some (by kernel_rfl))
 f328:=func399.trans (congrArg some (by kernel_rfl))
 f329:=func400.trans (congrArg some (by kernel_rfl))
 f330:=func401.trans (congrArg some (by kernel_rfl))
 f331:=func402.trans (congrArg some (by kernel_rfl))
 f332:=func403.trans (congrArg some (by kernel_rfl))
 f343:=func406.trans (congrArg some (by kernel_rfl))
 t0:=underlying0
 a0:=isAgg0
 z0:=sizeOf0
 v0:=zeroValue0
 t3:=underlying3
 a3:=isAgg3
 z3:=sizeOf3
 v3:=zeroValue3
 t4:=underlying4
 a4:=isAgg4
 z4:=sizeOf4
 v4:=zeroValue4
 t5:=underlying5
 a5:=isAgg5
 z5:=sizeOf5
 v5:=zeroValue5
 t9:=underlying9
 a9:=isAgg9
 z9:=sizeOf9
 v9:=zeroValue9
 t28:=underlying74
 a28:=isAgg74
 z28:=sizeOf74
 v28:=zeroValue74
 t46:=underlying158
 a46:=isAgg158
 z46:=sizeOf158
 v46:=zeroValue158
 t51:=underlying460
 a51:=isAgg460
 z51:=sizeOf460
 v51:=zeroValue460
 t53:=underlying102
 a53:=isAgg102
 z53:=sizeOf102
 v53:=zeroValue102
 t131:=underlying151
 a131:=isAgg151
 z131:=sizeOf151
 v131:=zeroValue151
 t182:=underlying453
 a182:=isAgg453
 z182:=sizeOf453
 v182:=zeroValue453
 t183:=underlying454
 a183:=isAgg454
 z183:=sizeOf454
 v183:=zeroValue454
 t218:=underlying467
 a218:=isAgg467
 z218:=sizeOf467
 v218:=zeroValue467
 t222:=underlying471
 a222:=isAgg471
 z222:=sizeOf471
 v222:=zeroValue471
 t228:=underlying475
 a228:=isAgg475
 z228:=sizeOf475
 v228:=zeroValue475
 t229:=underlying476
 a229:=isAgg476
 z229:=sizeOf476
 v229:=zeroValue476}
open Go.Sort Go.RowKit in
theorem Tryz.slices_Sort_int (blk off cap:Nat) (zs:List Int) (w:World) (hH:Holds (Value.int .i64) w blk off zs.toArray) (hblk:blk<w.heap.size) (hsz:zs.length<4611686018427387904):
  Calls prog 349 #[.slice (some ⟨blk,off,none⟩) zs.length cap] w fun e w'=>
   e=.returned (.tuple #[])∧∃n os,w'=grow (putRow (Value.int .i64) (Sort.ahead w n) blk off (zs.mergeSort fun x y=>decide (x≤y)).toArray) os:=Any.slices_Sort_int Tryz.lays189 blk off cap zs w hH hblk hsz
def Tryz.lays264_ren:Go.Shelf.Ren:=⟨fun|264=>282|n=>n,fun|53=>102|46=>158|n=>n,fun|n=>n⟩
theorem Tryz.lays264:Go.Proofs.Lays.n264 prog Tryz.lays264_ren:={
 mixed:=by kernel_rfl
 f264:=func282.trans (congrArg some (by kernel_rfl))
 t46:=underlying158
 a46:=isAgg158
 z46:=sizeOf158
 v46:=zeroValue158
 t53:=underlying102
 a53:=isAgg102
 z53:=sizeOf102
 v53:=zeroValue102}
open Go.RowKit Go.Lib in
theorem Tryz.bits_Mul64 (x y:Nat) (hx:x<18446744073709551616) (hy:y<18446744073709551616) (w:World):
  Calls prog 282 #[.int .u64 x,.int .u64 y] w fun e w'=>e=.returned (.tuple #[.int .u64 ((x*y/18446744073709551616:Nat):Int),.int .u64 ((x*y%18446744073709551616:Nat):Int)])∧w'=w:=Any.bits_Mul64 Tryz.lays264 x y hx hy w
def Tryz.lays107_ren:Go.Shelf.Ren:=⟨fun|107=>192|108=>240|n=>n,fun|28=>74|3=>3|4=>4|0=>0|n=>n,fun|n=>n⟩
theorem Tryz.lays107:Go.Proofs.Lays.n107 prog Tryz.lays107_ren:={
 mixed:=by kernel_rfl
 f107:=func192.trans (congrArg some (by kernel_rfl))
 f108:=func240.trans (congrArg some (by kernel_rfl))
 t0:=underlying0
 a0:=isAgg0
 z0:=sizeOf0
 v0:=zeroValue0
 t3:=underlying3
 a3:=isAgg3
 z3:=sizeOf3
 v3:=zeroValue3
 t4:=underlying4
 a4:=isAgg4
 z4:=sizeOf4
 v4:=zeroValue4
 t28:=underlying74
 a28:=isAgg74
 z28:=sizeOf74
 v28:=zeroValue74}
open Go.Lib in
theorem Tryz.slices_Contains_int (b off n c:Nat) (zs:List Int) (x:Int) (w:World) (hz:n≤zs.length) (hbig:n≤9223372036854775807) (hc:∀j,j<zs.length→w.cell? ⟨b,off+j,none⟩=some (.int .i64 (zs.getD j 0))):
  Calls prog 192 #[.slice (some ⟨b,off,none⟩) n c,.int .i64 x] w fun e w'=>e=.returned (.bool ((zs.take n).contains x))∧w'=w:=Any.slices_Contains_int Tryz.lays107 b off n c zs x w hz hbig hc
def Tryz.laysNm220_ren:Go.Shelf.Ren:=⟨fun|20=>350|n=>n,fun|22=>74|3=>3|4=>4|0=>0|n=>n,fun|n=>n⟩
theorem Tryz.laysNm220:Go.Proofs.Lays2.n20 prog Tryz.laysNm220_ren:={
 mixed:=by kernel_rfl
 f20:=func350.trans (congrArg some (by kernel_rfl))
 t0:=underlying0
 a0:=isAgg0
 z0:=sizeOf0
 v0:=zeroValue0
 t3:=underlying3
 a3:=isAgg3
 z3:=sizeOf3
 v3:=zeroValue3
 t4:=underlying4
 a4:=isAgg4
 z4:=sizeOf4
 v4:=zeroValue4
 t22:=underlying74
 a22:=isAgg74
 z22:=sizeOf74
 v22:=zeroValue74
 i3:=by kernel_rfl}
open Go.RowKit Go.Lib Go.Sort in
theorem Tryz.slices_Compact_int (blk off cap:Nat) (zs:List Int) (w:World) (hH:Holds (Value.int .i64) w blk off zs.toArray) (hsz:zs.length≤9223372036854775807) (hcap:zs.length≤cap):
  Calls prog 350 #[.slice (some ⟨blk,off,none⟩) zs.length cap] w fun e w'=>e=.returned (.slice (some ⟨blk,off,none⟩) (Lib.compact zs).length cap)∧∃q,w'=putRow (Value.int .i64) (Sort.ahead w q) blk off (Lib.compact zs++List.replicate (zs.length-(Lib.compact zs).length) 0).toArray:=Any.slices_Compact_int Tryz.laysNm220 blk off cap zs w hH hsz hcap
open Go.RowKit Go.Lib Go.Sort in
theorem Tryz.slices_Compact_int_empty (a:Option Addr) (cap:Nat) (w:World):
  Calls prog 350 #[.slice a 0 cap] w fun e w'=>e=.returned (.slice a 0 cap)∧w'=w:=Any.slices_Compact_int_empty Tryz.laysNm220 a cap w
open Go.RowKit Go.Sort in
theorem Tryz.slices_Sort_int_none (p:Option Addr) (cap:Nat) (w:World):
  Calls prog 349 #[.slice p 0 cap] w fun e w'=>e=.returned (.tuple #[])∧w'=w:=Any.slices_Sort_int_none Tryz.lays189 p cap w
def Tryz.laysSlN41_f225_ren:Go.Shelf.Ren:=⟨fun|41=>225|n=>n,fun|22=>45|23=>2|4=>4|n=>n,fun|n=>n⟩
theorem Tryz.laysSlN41_f225:Go.Proofs.SlLaysN.n41 prog Tryz.laysSlN41_f225_ren:={
 mixed:=by kernel_rfl
 f41:=⟨f225.name,by decide,func225.trans (congrArg some (by kernel_rfl))⟩
 t4:=underlying4
 a4:=isAgg4
 z4:=sizeOf4
 v4:=zeroValue4
 t22:=underlying45
 a22:=isAgg45
 z22:=sizeOf45
 v22:=zeroValue45
 t23:=underlying2
 a23:=isAgg2
 z23:=sizeOf2
 v23:=zeroValue2
 i23:=by kernel_rfl}
open Go.RowKit Go.Lib in
theorem Tryz.slices_Clone_int_f225 (b off n c:Nat) (zs:List Int) (w:World) (hz:n≤zs.length) (hbig:n*8≤140737488355328) (hc:∀j,j<zs.length→w.cell? ⟨b,off+j,none⟩=some (.int .i64 (zs.getD j 0))):
  Calls prog 225 #[.slice (some ⟨b,off,none⟩) n c] w fun e w'=>∃v',e=.returned v'∧w'.ownsRow w.heap.size 2 1 v' n ((zs.take n).map (Value.int .i64))∧v'≠.slice none 0 0∧Below w.heap.size w w':=AnyG.slices_Clone_int Tryz.laysSlN41_f225 b off n c zs w hz hbig hc
open Go.RowKit Go.Lib in
theorem Tryz.slices_Clone_int_nil_f225 (n c:Nat) (w:World):
  Calls prog 225 #[.slice none n c] w fun e w'=>e=.returned (.slice none 0 0)∧w'=w:=AnyG.slices_Clone_int_nil Tryz.laysSlN41_f225 n c w
open Go.RowKit Go.Lib in
theorem Tryz.slices_Clone_int_zero_f225 (a:Addr) (c:Nat) (w:World):
  Calls prog 225 #[.slice (some a) 0 c] w fun e w'=>∃v',e=.returned v'∧w'.ownsRow w.heap.size 2 1 v' 0 []∧v'≠.slice none 0 0∧Below w.heap.size w w':=AnyG.slices_Clone_int_zero Tryz.laysSlN41_f225 a c w
