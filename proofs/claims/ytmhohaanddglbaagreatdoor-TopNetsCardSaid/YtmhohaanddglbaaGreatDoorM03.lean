/- Texts of the proof of TopNets, joined: Get, Ins0, Del, Ins, Put, Drop, Set, Vault4, Shelf2. -/
import Derived.Test.YtmhohaanddglbaaGreatDoorM00
import Derived.Test.YtmhohaanddglbaaGreatDoorM01
import Derived.Test.YtmhohaanddglbaaGreatDoorM02
import Derived.Lib.AppendZerosOnto
import Derived.Lib.Overlaps
import Derived.Lib.SliceRun
import Derived.Laws.CopyRow
import Derived.Laws.Externs
import Derived.Deep.RegionLaw
import Derived.Deep.RegionHeld3
import Derived.Shelf.SlicesQ.IndexFunc
import Derived.Shelf.SlicesE.IndexFunc
import Derived.Ground.SlgfProg
import Derived.Shelf.SlSortCmp.Insertion
import Derived.Ground.SlsfProg
import Derived.Test.YtmhohaanddglbaaGreatDoorProg
set_option linter.all false
set_option maxRecDepth 100000
set_option maxHeartbeats 16000000
namespace Go.Proofs.YtmhohaanddglbaaGreatDoor
open Go.RowKit
theorem pf (l:List RU)(id:Int)(hs:Rsg RU.rid l)(h:hasM RU.rid l id=true):∃(hi:posM RU.rid l id<l.length),(l[posM RU.rid l id]).rid=id:=by
 unfold hasM at h;rw [At] at h;obtain ⟨x,c,a⟩:=h;have a:=of_decide_eq_true a;obtain ⟨j,hj,rfl⟩:=Ao c;have b:posM RU.rid l id=j:=fS RU.rid l id j (by omega) (fun k h hk=>by rw [←a];exact aK hs k j h hj hk) (fun k h hk=>by
  rcases Az j k with h1 | h1
  ·have:=aK hs j k hj h h1;omega
  ·obtain rfl:j=k:=by omega
   omega)
 simp only [b];exact ⟨hj,a⟩
def GetPostRU (l:List RU)(id:Int)(w:World)(e:Ending)(w':World):Prop:=
 ∃x:RU,e=.returned (.tuple #[.int .i64 x.v,.int .i64 (if hasM RU.rid l id then 0 else 8)])∧(hasM RU.rid l id=true→x∈l∧x.rid=id)∧Bw w w'
theorem getRU (g:Nat)(room:Int)(v:Value)(l:List RU)(id:Int)(w:World)(hb:Blk w g 191 #[.int .i64 room,v])(hv:Sl eRU 2 w v l)(hn:l.length≤100000)(hs:Rsg RU.rid l) :
  Calls Tryz.prog 182 #[ptr g,.int .i64 id] w (GetPostRU l id w):=by
 have q:Bw w w:=zZ _ _;have r:=aa (hb.keep q);have z:=aa (hv.keep q);have A:=aa (sr g v room l id _ r.o z.o (by omega) hs);cases hh:hasM RU.rid l id with
 | true=>
  obtain ⟨y,t⟩:=pf l id hs hh;obtain ⟨i,d⟩:∃i,posM RU.rid l id=i:=⟨_,rfl⟩;have k:=aa d;simp only [d] at y t;have H:=aa (show l[i]∈l∧l[i].rid=id from ⟨Ag y,t⟩);have m:=aa hh;obtain ⟨a,cap,rfl,_,hc1,hc2,hcell⟩:=hv;unfold maxLen at hc2;obtain ⟨b,off,rfl,hbb,hcl⟩:=hcell (by omega);have f:=hcl i y;generalize l[i]=x at *;have B:Hid (∀j u,(eRU x)[j]?=some u→w.cell? ⟨b,off+i * 2+j,none⟩=some u):=aa f;have F:(0:Int)≤(i:Int):=by omega
  have D:(i:Int)<(l.length:Int):=by omega
  clear hb hs d hh t hcl hcell f;go_enter Tryz.func182,Tryz.ntmps182;go_wp2_with (go_at_call 186;refine A.o.mono ?_;rintro e E ⟨rfl,n⟩;rw [k.o,m.o];have s:=q.trans (n.mono q.size);have C:=aa (r.o.keep n);have I:=C.o.c 1;have G:=aa (fun j u hu=>(s.c (p:=⟨b,off+i * 2+j,none⟩) hbb).trans (B.o j u hu));obtain ⟨q0,q1⟩:=atRU G.o;clear n)
  go_ret2;exact ⟨x,by rw [m.o];rfl,fun _=>H.o,s⟩
 | false=>
  have m:=aa hh;obtain ⟨i,d⟩:∃i,posM RU.rid l id=i:=⟨_,rfl⟩;have k:=aa d;clear hb hs hv hh d;go_enter Tryz.func182,Tryz.ntmps182;go_wp2_with (go_at_call 186;refine A.o.mono ?_;rintro e E ⟨rfl,n⟩;rw [k.o,m.o];have s:=q.trans (n.mono q.size);clear n)
  go_ret2;refine ⟨⟨0,0⟩,?_,?_,s⟩
  ·rw [m.o];rfl
  ·intro h;rw [m.o] at h;cases h
theorem iF (l:List RH)(id:Int)(hs:Rsg RH.rid l)(h:hasM RH.rid l id=true):∃(hi:posM RH.rid l id<l.length),(l[posM RH.rid l id]).rid=id:=by
 unfold hasM at h;rw [At] at h;obtain ⟨x,c,a⟩:=h;have a:=of_decide_eq_true a;obtain ⟨j,hj,rfl⟩:=Ao c;have b:posM RH.rid l id=j:=fS RH.rid l id j (by omega) (fun k h hk=>by rw [←a];exact aK hs k j h hj hk) (fun k h hk=>by
  rcases Az j k with h1 | h1
  ·have:=aK hs j k hj h h1;omega
  ·obtain rfl:j=k:=by omega
   omega)
 simp only [b];exact ⟨hj,a⟩
def GetPostRH (l:List RH)(id:Int)(w:World)(e:Ending)(w':World):Prop:=
 ∃x:RH,e=.returned (.tuple #[.agg #[.int .i64 x.kind,.int .i64 x.mem,.int .i64 x.ass,.int .i64 x.amt],.int .i64 (if hasM RH.rid l id then 0 else 8)])∧(hasM RH.rid l id=true→x∈l∧x.rid=id)∧Bw w w'
theorem iG (g:Nat)(room:Int)(v:Value)(l:List RH)(id:Int)(w:World)(hb:Blk w g 227 #[.int .i64 room,v])(hv:Sl eRH 5 w v l)(hn:l.length≤100000)(hs:Rsg RH.rid l) :
  Calls Tryz.prog 308 #[ptr g,.int .i64 id] w (GetPostRH l id w):=by
 have q:Bw w (w.alloc (.cells #[.int .i64 0,.int .i64 0,.int .i64 0,.int .i64 0] 182)):=Bn;have t:=aa (hb.keep q);have F:=aa (hv.keep q);have r:=aa (Blk.new w 182 #[.int .i64 0,.int .i64 0,.int .i64 0,.int .i64 0]);have H:=aa (mn g v room l id _ t.o F.o (by omega) hs);cases hh:hasM RH.rid l id with
 | true=>
  obtain ⟨z,y⟩:=iF l id hs hh;obtain ⟨i,d⟩:∃i,posM RH.rid l id=i:=⟨_,rfl⟩;have m:=aa d;simp only [d] at z y;have O:=aa (show l[i]∈l∧l[i].rid=id from ⟨Ag z,y⟩);have n:=aa hh;obtain ⟨a,cap,rfl,_,hc1,hc2,hcell⟩:=hv;unfold maxLen at hc2;obtain ⟨b,off,rfl,hbb,hcl⟩:=hcell (by omega);have f:=hcl i z;generalize l[i]=x at *;have I:Hid (∀j u,(eRH x)[j]?=some u→w.cell? ⟨b,off+i * 5+j,none⟩=some u):=aa f;have M:(0:Int)≤(i:Int):=by omega
  have K:(i:Int)<(l.length:Int):=by omega
  clear hb hs d hh y hcl hcell f;go_enter Tryz.func308,Tryz.ntmps308;go_wp2_with (first | (go_at_call 320;refine H.o.mono ?_;rintro e L ⟨rfl,k⟩;rw [m.o,n.o];have s:=q.trans (k.mono q.size);have J:=aa (t.o.keep k);have P:=J.o.c 1;have N:=aa (fun j u hu=>(s.c (p:=⟨b,off+i * 5+j,none⟩) hbb).trans (I.o j u hu));obtain ⟨q0,q1,q2,q3,q4⟩:=atRH N.o;have B:=aa (r.o.keep k);clear k) | (refine aF rfl 182 _ _ rfl rfl w.heap.size #[.int .i64 x.kind,.int .i64 x.mem,.int .i64 x.ass,.int .i64 x.amt] rfl rfl (by kernel_rfl) (by simp [Value.oneCell']) _ B.o rfl ?_;intro W5 P5;have G:=aa P5;have A:=P5.row.c 0;have C:=P5.row.c 1;have D:=P5.row.c 2;have E:=P5.row.c 3))
  refine bodyPost_ret (v:=.tuple #[.agg #[.int .i64 x.kind,.int .i64 x.mem,.int .i64 x.ass,.int .i64 x.amt],.int .i64 0]) (by simp [results,Tryz.results308,go_sem,A,C,D,E]) rfl ?_;exact ⟨x,by rw [n.o];rfl,fun _=>O.o,G.o.low s (zY _)⟩
 | false=>
  have n:=aa hh;obtain ⟨i,d⟩:∃i,posM RH.rid l id=i:=⟨_,rfl⟩;have m:=aa d;clear hb hs hv hh d;go_enter Tryz.func308,Tryz.ntmps308;go_wp2_with (first | (go_at_call 320;refine H.o.mono ?_;rintro e L ⟨rfl,k⟩;rw [m.o,n.o];have s:=q.trans (k.mono q.size);have B:=aa (r.o.keep k);clear k) | (refine aF rfl 182 _ _ rfl rfl w.heap.size #[.int .i64 0,.int .i64 0,.int .i64 0,.int .i64 0] rfl rfl (by kernel_rfl) (by simp [Value.oneCell']) _ (B.o.alloc _) rfl ?_;intro W5 P5;have G:=aa P5;have A:=P5.row.c 0;have C:=P5.row.c 1;have D:=P5.row.c 2;have E:=P5.row.c 3))
  refine bodyPost_ret (v:=.tuple #[.agg #[.int .i64 0,.int .i64 0,.int .i64 0,.int .i64 0],.int .i64 8]) (by simp [results,Tryz.results308,go_sem,A,C,D,E]) rfl ?_;refine ⟨⟨0,0,0,0,0⟩,?_,?_,G.o.low (s.alloc s.size _) (zY _)⟩
  ·rw [n.o];rfl
  ·intro h;rw [n.o] at h;cases h
variable {P:Program}
theorem aE (w:World)(dT sT ty elem:TypeId)(g o dLen dCap:Nat)(a:Addr)(sLen sCap:Nat)(cur:Array Value)(t:TypeId)(cs:List Value)(k n:Nat)
  (hu:P.underlying dT=some (.slice elem)) (hs:(P.info? elem).map (·.size)=some k)
  (hg:w.heap[g]?=some (.cells cur t (0,0))) (hn:n=Nat.min sLen dLen) (hl:cs.length=n * k)
  (hsrc:∀j v,cs[j]?=some v→w.cell? (a.add j)=some v) (hfit:o+cs.length≤cur.size) (h1:∀v∈cs,v.oneCell'=true) :
  (Builtin.copy_ #[dT,sT] ty #[.slice (some ⟨g,o,none⟩) dLen dCap,.slice (some a) sLen sCap]).run P w =
   .ok (goInt n) (w.setRow g (cur.toList.take o++cs++cur.toList.drop (o+cs.length)).toArray):=by
 have b:=run_loadCells_list (P:=P) w a cs hsrc;have c:=run_storeCells_at P g o t cs 0 cur w hg (by simpa using hfit) h1;cases hq:P.info? elem with
 | none=>simp [hq] at hs
 | some i=>
  have d:i.size=k:=by simpa [hq] using hs
  simp [Builtin.copy_,run_underlying hu,Builtin.lenOf,Builtin.firstCells,sizeOf,typeInfo,hq,d,←hn,←hl,b,c]
structure RowNew (w w':World)(B:Nat)(T:TypeId)(k:Nat)(v v':Value)(n:Nat)(xs:List Value):Prop where
 own:w'.ownsRow B T k v' n xs
 grown:w.grownBy w' v.ownBlock
 at_:v'.ownBlock=v.ownBlock∨∃g,w.heap.size≤g∧v'.ownBlock=some g
theorem aO (w:World)(g:Nat)(cs:Array Value):w.grownBy (w.setRow g cs) (some g):=
 ⟨rfl,rfl,rfl,by simp [World.setRow],fun k _ hne=>setRow_other w g k cs (fun e=>hne (by rw [e]))⟩
def insL {α:Type}(l:List α)(i:Nat)(x:α):List α:=l.take i++x :: l.drop i
theorem aJ {α:Type}(l:List α)(i:Nat)(x:α)(h:i≤l.length):(insL l i x).length=l.length+1:=by
 unfold insL;simp;omega
theorem fT {α:Type}(l:List α)(x:α):insL l l.length x=l++[x]:=by unfold insL;simp
theorem iH {α:Type}(enc:α→List Value)(k:Nat)(hk:∀x,(enc x).length=k)(l:List α):∀i,(flat enc l).take (i * k)=flat enc (l.take i):=by
 induction l with
 | nil=>intro i;simp [flat]
 | cons c l ih=>
  intro i;cases i with
  | zero=>simp [flat]
  | succ i=>
   have a:flat enc (c :: l)=enc c++flat enc l:=by simp [flat]
   rw [a,List.take_append,Ae (by rw [hk,Nat.succ_mul];omega),hk,show (i+1) * k - k=i * k by rw [Nat.succ_mul];omega,ih i];simp [flat]
theorem iI {α:Type}(enc:α→List Value)(k:Nat)(hk:∀x,(enc x).length=k)(l:List α)(i:Nat):(flat enc l).drop (i * k)=flat enc (l.drop i):=by
 have a:flat enc l=flat enc (l.take i)++flat enc (l.drop i):=by rw [←aI,List.take_append_drop]
 rw [a];by_cases hi:i≤l.length
 ·rw [List.drop_append,List.drop_of_length_le (by rw [aC enc k hk,Aa,Bb hi];exact zY _),aC enc k hk,Aa,Bb hi,Nat.sub_self];rfl
 ·have c:l.drop i=[]:=List.drop_of_length_le (by omega);have b:l.take i=l:=Ae (by omega);rw [c,b,List.drop_of_length_le]
  ·rfl
  ·simp only [flat,List.map_nil,List.flatten_nil,Bm];have:=aC enc k hk l
   unfold flat at this;rw [this];exact AF k (by omega)
theorem cw {α:Type}(enc:α→List Value)(k:Nat)(hk:∀x,(enc x).length=k)(l:List α)(i:Nat)(x:α):flat enc (insL l i x)=(flat enc l).take (i * k)++enc x++(flat enc l).drop (i * k):=by
 rw [iH enc k hk,iI enc k hk];unfold insL;simp [flat]
theorem fU {cur xs ex:List Value}{n i k:Nat}(hx:cur.take (n * k)=xs)(hxl:xs.length=n * k)(hi:i≤n)(he:ex.length=k)(hroom:(n+1) * k≤cur.length){A1 A2:List Value}
  (h1:A1=cur.take ((i+1) * k)++xs.drop (i * k)++cur.drop ((i+1) * k+(xs.drop (i * k)).length)) (h2:A2=A1.take (i * k)++ex++A1.drop (i * k+ex.length)) :
  A1.length=cur.length∧A2.length=cur.length∧A2.take ((n+1) * k)=xs.take (i * k)++ex++xs.drop (i * k):=by
 have d:i * k≤n * k:=AF k hi;have f:(i+1) * k=i * k+k:=Nat.succ_mul i k;have g:(n+1) * k=n * k+k:=Nat.succ_mul n k;have c:(xs.drop (i * k)).length=n * k - i * k:=by rw [Al,hxl]
 have a:A1.length=cur.length:=by
  rw [h1];simp only [z8,Aa,Al,hxl];omega
 have b:A2.length=cur.length:=by
  rw [h2];simp only [z8,Aa,Al,a,he];omega
 refine ⟨a,b,?_⟩;apply AY
 intro j;rw [AE];by_cases hj:j<(n+1) * k
 ·rw [if_pos hj,h2];by_cases hj1:j<i * k
  ·rw [Au,AC (by rw [Aa,a];omega),AE,if_pos hj1,Au,AC (by rw [Aa,hxl];omega),AE,if_pos hj1,h1,
    Au,AC (by rw [Aa];omega),AE,if_pos (by omega),←hx,AE,if_pos (by omega)]
  ·by_cases hj2:j<i * k+k
   ·rw [Au,AK (by rw [Aa,a];omega),Aa,a,Bb (by omega),AC (by omega),
     Au,AK (by rw [Aa,hxl];omega),Aa,hxl,Bb (by omega),AC (by omega)]
   ·rw [AK (by simp only [z8,Aa,a,he];omega),AK (by simp only [z8,Aa,hxl,he];omega)];simp only [z8,Aa,a,hxl,he,Bb d,Bb (show i * k≤cur.length by omega)];rw [List.getElem?_drop,h1,Au,AK (by rw [Aa];omega),Aa,Bb (by omega),AC (by rw [c];omega)];congr 1
    omega
 ·rw [if_neg hj,List.getElem?_eq_none];simp only [z8,Aa,Al,hxl,he];omega
theorem fV {R xs ex:List Value}{n i k:Nat}(hx:R.take (i * k)=xs.take (i * k))(hxl:xs.length=n * k)(hi:i≤n)(he:ex.length=k)(hroom:(n+1) * k≤R.length){A1 A2:List Value}
  (h1:A1=R.take (i * k)++ex++R.drop (i * k+ex.length)) (h2:A2=A1.take ((i+1) * k)++xs.drop (i * k)++A1.drop ((i+1) * k+(xs.drop (i * k)).length)) :
  A1.length=R.length∧A2.length=R.length∧A2.take ((n+1) * k)=xs.take (i * k)++ex++xs.drop (i * k):=by
 have d:i * k≤n * k:=AF k hi;have f:(i+1) * k=i * k+k:=Nat.succ_mul i k;have g:(n+1) * k=n * k+k:=Nat.succ_mul n k;have c:(xs.drop (i * k)).length=n * k - i * k:=by rw [Al,hxl]
 have a:A1.length=R.length:=by
  rw [h1];simp only [z8,Aa,Al,he];omega
 have b:A2.length=R.length:=by
  rw [h2];simp only [z8,Aa,Al,a,hxl];omega
 refine ⟨a,b,?_⟩;apply AY
 intro j;rw [AE];by_cases hj:j<(n+1) * k
 ·rw [if_pos hj,h2];by_cases hj1:j<i * k+k
  ·rw [Au,AC (by rw [Aa,a];omega),AE,if_pos (by omega),h1];by_cases hj0:j<i * k
   ·rw [Au,AC (by rw [Aa];omega),hx,Au,AC (by rw [Aa,hxl];omega)]
   ·rw [Au,AK (by rw [Aa];omega),Aa,Bb (by omega),AC (by omega),
     Au,AK (by rw [Aa,hxl];omega),Aa,hxl,Bb (by omega),AC (by omega)]
  ·rw [Au,AK (by rw [Aa,a];omega),Aa,a,Bb (by omega),AC (by rw [c];omega),
    AK (by simp only [z8,Aa,hxl,he];omega)]
   simp only [z8,Aa,hxl,he,Bb d];congr 1
   omega
 ·rw [if_neg hj,List.getElem?_eq_none];simp only [z8,Aa,Al,hxl,he];omega
theorem ft (w:World)(t ty elem:TypeId)(g sLen sCap:Nat)(a:Addr)(m c:Nat)(cur:Array Value)(T:TypeId)(cs:List Value)(i:TypeInfo)
  (hu:P.underlying t=some (.slice elem)) (hi:P.info? elem=some i)
  (hg:w.heap[g]?=some (.cells cur T (0,0))) (hl:cs.length=m * i.size)
  (hsrc:∀j v,cs[j]?=some v→w.cell? (a.add j)=some v) (hroom:sLen+m≤sCap) (hfit:sLen * i.size+cs.length≤cur.size) (h1:∀v∈cs,v.oneCell'=true) :
  (Builtin.append_ #[t,t] ty #[.slice (some ⟨g,0,none⟩) sLen sCap,.slice (some a) m c]).run P w =
   .ok (.slice (some ⟨g,0,none⟩) (sLen+m) sCap) (w.setRow g (cur.toList.take (sLen * i.size)++cs++cur.toList.drop (sLen * i.size+cs.length)).toArray):=by
 have d:=run_firstCells_some (P:=P) w i.size m a m c cs hl hsrc;have b:=run_storeCells_at P g (sLen * i.size) T cs 0 cur w hg (by simpa using hfit) h1;simp only [AU] at b;simp [Builtin.append_,run_underlying hu,sizeOf,typeInfo,hi,Builtin.lenOf,hroom,d,Aj,b]
theorem fW (w:World)(t e ty:TypeId)(z:Value)(hu:P.underlying t=some (.slice e))(hv:∀w,(zeroValue e).run P w=.ok z w)(hz1:∀u∈(Builtin.zeroCells z.cells 1).toList,u.oneCell'=true)(g o c:Nat)(cur:Array Value)(T:TypeId)
  (hg:w.heap[g]?=some (.cells cur T (0,0))) (hfit:o+(Builtin.zeroCells z.cells 1).toList.length≤cur.size) :
  (Builtin.clear_ #[t] ty #[.slice (some ⟨g,o,none⟩) 1 c]).run P w=.ok (.tuple #[]) (w.setRow g (cur.toList.take o++(Builtin.zeroCells z.cells 1).toList++cur.toList.drop (o+(Builtin.zeroCells z.cells 1).toList.length)).toArray):=by
 have a:=run_storeCells_at P g o T (Builtin.zeroCells z.cells 1).toList 0 cur w hg (by simpa using hfit) hz1;simp only [AU] at a;simp [Builtin.clear_,run_underlying hu,hv,a]
theorem sw {cur xs zs:List Value}{n i k:Nat}(hx:cur.take (n * k)=xs)(hxl:xs.length=n * k)(hi:i<n)(hz:zs.length=k)(hcap:n * k≤cur.length){A1 A2:List Value}
  (h1:A1=cur.take (i * k)++xs.drop ((i+1) * k)++cur.drop (i * k+(xs.drop ((i+1) * k)).length)) (h2:A2=A1.take ((n - 1) * k)++zs++A1.drop ((n - 1) * k+zs.length)) :
  A1.length=cur.length∧A2.length=cur.length∧A2.take ((n - 1) * k)=xs.take (i * k)++xs.drop ((i+1) * k):=by
 obtain ⟨m,rfl⟩:∃m,n=m+1:=⟨n - 1,by omega⟩;rw [Nat.add_sub_cancel] at *;have f:(i+1) * k≤(m+1) * k:=AF k (by omega);have d:(i+1) * k=i * k+k:=Nat.succ_mul i k;have g:(m+1) * k=m * k+k:=Nat.succ_mul m k;have c:(xs.drop ((i+1) * k)).length=m * k - i * k:=by rw [Al,hxl];omega
 have a:A1.length=cur.length:=by
  rw [h1];simp only [z8,Aa,Al,hxl];omega
 have b:A2.length=cur.length:=by
  rw [h2];simp only [z8,Aa,Al,a,hz];omega
 refine ⟨a,b,?_⟩;rw [h2,Au,List.take_append_of_le_length (by rw [Aa,a];omega),List.take_take,Nat.min_self,h1,←hx];rw [List.take_take,Bb (by omega),List.take_append_of_le_length (by
  simp only [z8,Aa,Al];omega),Ae (by
  simp only [z8,Aa,Al];omega)]
def delL {α:Type}(l:List α)(i:Nat):List α:=l.take i++l.drop (i+1)
theorem kh {α:Type}(l:List α)(i:Nat)(h:i<l.length):(delL l i).length=l.length - 1:=by
 unfold delL;simp;omega
theorem sx {α:Type}(enc:α→List Value)(k:Nat)(hk:∀x,(enc x).length=k)(l:List α)(i:Nat):flat enc (delL l i)=(flat enc l).take (i * k)++(flat enc l).drop ((i+1) * k):=by
 rw [iH enc k hk,iI enc k hk];unfold delL;rw [aI]
theorem jA (w:World){o:Oper}{a:Act}{K:Act→World→Prop}{Q:Exit→Act→World→Prop}(d s:Operand)(t t':TypeId)
  (ho:o.op=.call { callee:=.builtin .append,args:=#[d,s],argTypes:=#[t,t'] }) (v u:Value) (hd:a.eval d=v) (hs:a.eval s=u) {v':Value} {w':World}
  (hr:(Builtin.append_ #[t,t'] o.type #[v,u]).run P w=.ok v' w') (h:K (a.put o.dst v') w'):o.wp P a w K Q:=by
 unfold Oper.wp execOp;simp only [ho,resolve,invoke,builtin,Sem.run_bind,Sem.run_pure,Result.andThen_ok,List.map_toArray,Am,List.map_nil,hd,hs,hr];exact h
theorem fX {ops:Array Oper}{o:Oper}{a:Act}{w:World}{K:Act→World→Prop}{Q:Exit→Act→World→Prop}{E:Prop}
  (hg:o.guard=none) (d x:Operand) (dT sT:TypeId) (hop:o.op=Op.call { callee:=Callee.builtin Builtin.append,args:=#[d,x],argTypes:=#[dT,sT] })
  (v u:Value) (hd:a.eval d=v) (hx:a.eval x=u) {v':Value} {w':World} (hr:(Builtin.append_ #[dT,sT] o.type #[v,u]).run P w=.ok v' w') (hK:K (a.put o.dst v') w') :
  if Region.wanted o (yielded ops a.tmps)=true then Oper.wp P o a w K Q else E:=by
 have b:Region.wanted o (yielded ops a.tmps)=true:=by simp [Region.wanted,hg]
 rw [if_pos b];exact jA w d x dT sT hop v u hd hx hr hK
theorem delRH (B i:Nat)(v:Value)(l:List RH)(w:World)(ho:w.ownsRow B 333 5 v l.length (flat eRH l))(hi:i<l.length)(hn:l.length≤1000000) :
  Calls Tryz.prog 321 #[v,.int .i64 i,.int .i64 ((i:Int)+1)] w fun e w'=>∃v',e=.returned v'∧RowNew w w' B 333 5 v v' (l.length - 1) (flat eRH (delL l i)):=by
 obtain ⟨i0,G,U,E,ag⟩:=info_parts jq;have x:=aa (sx eRH 5 kRH l i);have a:=aC eRH 5 kRH l;have A:=kh l i hi;have d:∀u∈flat eRH l,u.oneCell'=true:=aH fJ l;obtain ⟨_,ho2⟩:=ho;rcases ho2 with ⟨_,h0⟩ | ⟨g,cap,cur,rfl,hB,hg,hnc,hcm,hcur,htake⟩
 ·omega
 obtain ⟨T,K⟩:∃T,flat eRH l=T:=⟨_,rfl⟩;rw [K] at htake a x d;obtain ⟨n,hnl⟩:∃n,l.length=n:=⟨_,rfl⟩;rw [hnl] at htake a hi hn A hnc ⊢;have C:cur.toList.length=cap * 5:=by simpa using hcur
 have H:n * 5≤cap * 5:=AF 5 hnc;have b:(Builtin.zeroCells (Value.agg #[.int .i64 0,.int .i64 0,.int .i64 0,.int .i64 0,.int .i64 0]).cells 1).toList=[.int .i64 0,.int .i64 0,.int .i64 0,.int .i64 0,.int .i64 0]:=by kernel_rfl
 obtain ⟨Q,p⟩:∃Q,(Builtin.zeroCells (Value.agg #[.int .i64 0,.int .i64 0,.int .i64 0,.int .i64 0,.int .i64 0]).cells 1).toList=Q:=⟨_,rfl⟩;have y:Q.length=5:=by rw [←p,b];rfl
 have L:∀u∈(Builtin.zeroCells (Value.agg #[.int .i64 0,.int .i64 0,.int .i64 0,.int .i64 0,.int .i64 0]).cells 1).toList,u.oneCell'=true:=by
  intro u f;rw [b] at f;simp at f;subst f;rfl
 obtain ⟨m,s⟩:∃m,m=cur.toList.take (i * 5)++T.drop ((i+1) * 5)++cur.toList.drop (i * 5+(T.drop ((i+1) * 5)).length):=⟨_,rfl⟩;obtain ⟨A2,hA2⟩:∃A2,A2=m.take ((n - 1) * 5)++Q++m.drop ((n - 1) * 5+Q.length):=⟨_,rfl⟩;obtain ⟨hl1,hl2,hfin⟩:=sw htake a hi y (by rw [C];exact H) s hA2;obtain ⟨W1,hW1⟩:∃W1,W1=w.drew.setRow g m.toArray:=⟨_,rfl⟩;have t:W1.heap[g]?=some (.cells m.toArray 333 (0,0)):=by rw [hW1];exact setRow_heap w.drew g cur m.toArray 333 (0,0) hg
 obtain ⟨F,z⟩:∃F,F=(if cap=i+1 then (⟨g,0,none⟩:Addr) else ⟨g,(i+1) * 5,none⟩):=⟨_,rfl⟩;have R:∀ty sc,(Builtin.append_ #[225,225] ty #[.slice (some ⟨g,0,none⟩) i cap,.slice (some F) (n - (i+1)) sc]).run Tryz.prog w.drew=.ok (.slice (some ⟨g,0,none⟩) (n - 1) cap) W1:=fun ty sc=>by
  have h:=ft (P:=Tryz.prog) w.drew 225 ty 333 g i cap F (n - (i+1)) sc cur 333 (T.drop ((i+1) * 5)) i0 Tryz.underlying225 G hg (by rw [E,Al,a,Nat.sub_mul]) (fun j u f=>by
   rw [z];split
   ·rename_i hq
    have hj:=(AA.1 f).1;rw [Al,a] at hj;omega
   ·rw [Aj];rw [List.getElem?_drop,←htake,AE] at f;split at f
    ·simp only [World.cell?];rw [show w.drew.heap[g]?=some (.cells cur 333 (0,0)) from hg];simpa using f
    ·cases f) (by omega) (by rw [E,Al,a];omega) (fun u f=>d u (Bh f))
  rw [h,hW1,s,E,show i+(n - (i+1))=n - 1 by omega]
 have N:∀ty c,(Builtin.clear_ #[225] ty #[.slice (some ⟨g,(n - 1) * 5,none⟩) 1 c]).run Tryz.prog W1=.ok (.tuple #[]) (W1.setRow g A2.toArray):=fun ty c=>by
  have h:=fW (P:=Tryz.prog) W1 225 333 ty (.agg #[.int .i64 0,.int .i64 0,.int .i64 0,.int .i64 0,.int .i64 0]) Tryz.underlying225 (fun w=>by simp [zeroValue,typeInfo,G,U]) L g ((n - 1) * 5) c m.toArray 333 t (by rw [p,y];simp only [AP,hl1,C];omega);rw [h,hA2,p]
 have q:Hid (RowNew w (W1.setRow g A2.toArray) B 333 5 (.slice (some ⟨g,0,none⟩) n cap) (.slice (some ⟨g,0,none⟩) (n - 1) cap) (n - 1) (flat eRH (delL l i))):=aa (by
  refine ⟨⟨by rw [aC eRH 5 kRH,A],Or.inr ⟨g,cap,A2.toArray,rfl,hB,setRow_heap W1 g m.toArray A2.toArray 333 (0,0) t,by omega,hcm,by simp [hl2,hcur],?_⟩⟩,?_,Or.inl rfl⟩
  ·rw [x.o];exact hfin
  ·have D:=aO w.drew g m.toArray;have O:=aO W1 g A2.toArray;rw [←hW1] at D;exact ⟨O.os.trans D.os,O.tape.trans D.tape,O.output.trans D.output,z5 D.size O.size,fun k hk hne=>(O.block k (AR hk D.size) hne).trans (D.block k hk hne)⟩)
 obtain ⟨X,S⟩:∃X,X=W1.setRow g A2.toArray:=⟨_,rfl⟩;rw [←S] at N q;have ai:¬ ((i:Int)=(i:Int)+1):=by omega
 have I:((i:Int)+1).toNat=i+1:=by omega
 have r:(0:Int)≤(i:Int)+1:=by omega
 have ae:i≤n:=by omega
 have M:i+1≤n:=by omega
 have Z:i≤cap:=by omega
 have Y:¬ (cap=i):=by omega
 have ah:¬ (cap=n - 1):=by omega
 have ac:(i:Int)≤(n:Int):=by omega
 have J:(i:Int)+1≤(n:Int):=by omega
 have af:(n:Int)≤(cap:Int):=by omega
 have ab:n - (n - 1)=1:=by omega
 have V:∀W,(Instr.slice 225 (.slice (some ⟨g,0,none⟩) n cap) (some (.int .i64 ((i:Int)+1))) none none).run Tryz.prog W=.ok (.slice (some F) (n - (i+1)) (cap - (i+1))) W:=fun W=>by
  rw [z];unfold maxLen at hcm;by_cases hc:cap=i+1
  ·rw [if_pos hc];simp [go_sem,Tryz.underlying225,Tryz.sizeOf333,I,r,J,hc]
  ·rw [if_neg hc];simp [go_sem,Tryz.underlying225,Tryz.sizeOf333,I,r,J,hc,M]
 unfold maxLen at hcm;clear hg hcur htake d K a A hnl C H s hA2 hl1 hl2 hfin hW1 t x S L p b y z;go_enter Tryz.func321,Tryz.ntmps321;go_wp2_with fail;go_region_law (refine fX (by rfl) _ _ 225 225 (by rfl) (.slice (some ⟨g,0,none⟩) i cap) (.slice (some F) (n - (i+1)) (cap - (i+1))) (by rfl) (by rfl) (R _ _) ?_)
 go_wp2_with fail;go_ret;exact ⟨_,rfl,q.o⟩
theorem wJ:(Tryz.prog.info? 268).map (·.size)=some 2:=by kernel_rfl
theorem Sl.atRU {w:World}{vb:Nat}{x:RU}(h:Blk w vb 268 (cRU x)):Sl eRU 2 w (.slice (some ⟨vb,0,none⟩) 1 1) [x]:=
 ⟨some ⟨vb,0,none⟩,1,rfl,(fun h=>by cases h),by simp,by unfold maxLen;omega,fun _=>⟨vb,0,rfl,h.lt,fun i hi j u hu=>by
  obtain rfl:i=0:=by simp at hi;exact hi
  have e:(⟨vb,0+0 * 2+j,none⟩:Addr)=⟨vb,j,none⟩:=by simp
  rw [e,h.c j];simpa [eRU] using hu⟩⟩
theorem pg (B vb:Nat)(v:Value)(l:List RU)(x:RU)(w:World)(ho:w.ownsRow B 268 2 v l.length (flat eRU l))(hB:B≤w.heap.size)(hn:l.length≤1000000)(hvb:Blk w vb 268 (cRU x)) :
  Calls Tryz.prog 187 #[v,.int .i64 l.length,.slice (some ⟨vb,0,none⟩) 1 1] w fun e w'=>∃v',e=.returned v'∧RowNew w w' B 268 2 v v' (l.length+1) (flat eRU (insL l l.length x)):=by
 obtain ⟨z,A,q,t,m⟩:=info_parts sq;have C:=aa ho;have y:=aa (Sl.atRU hvb);have D:Hid (l++[x]=insL l l.length x):=aa (by rw [fT]);have s:=aa (aJ l l.length x (zY _));have F:=ag ho;obtain ⟨a,cap,rfl⟩:=F;have k:l.length≤cap∧cap≤maxLen∧(a=none→cap=0):=by
  obtain ⟨_,f⟩:=ho;rcases f with ⟨f,u⟩ | ⟨g,c,cur,f,_,_,h3,h4,_⟩
  ·simp at f;unfold maxLen;omega
  ·simp at f;exact ⟨by omega,by omega,by simp [f.1]⟩
 obtain ⟨n,j,i⟩:=k;have E:(Instr.slice 189 (.slice a l.length cap) (some (.int .i64 l.length)) none none).run Tryz.prog w=.ok (.slice (cutA a cap l.length 2) 0 (cap - l.length)) w:=by
  cases a with
  | none=>
   obtain rfl:=i rfl;have u:l.length=0:=by omega
   rw [u];simp [cutA,go_sem,Tryz.underlying189]
  | some ad=>
   unfold cutA;unfold maxLen at j;by_cases hc:cap=l.length
   ·rw [if_pos hc];simp [go_sem,Tryz.underlying189,Tryz.sizeOf268,hc]
   ·rw [if_neg hc];simp [go_sem,Tryz.underlying189,Tryz.sizeOf268,hc,n]
 unfold maxLen at j;clear ho hvb i;go_enter Tryz.func187,Tryz.ntmps187;go_wp2_with (at_builtin;refine aq kRU (by decide) j9 _ rfl _ _ 189 rfl B 268 z (.agg #[.int .i64 0,.int .i64 0]) 16 Tryz.underlying189 A q t m (by rfl) (.slice a l.length cap) l rfl C.o (some ⟨vb,0,none⟩) 1 [x] rfl y.o (by simp only [Ai];unfold maxLen;omega) (by simp only [Ai];omega) hB ?_;intro v' I b d r)
 rw [D.o,s.o] at b;have p:=ag b;obtain ⟨H,G,rfl⟩:=p;go_wp2;go_ret;refine ⟨_,rfl,b,d,?_⟩;rcases r with h | h
 ·exact Or.inl h
 ·exact Or.inr ⟨_,zY _,h⟩
theorem mq (B g cap i vb:Nat)(cur:Array Value)(l:List RU)(x:RU)(w:World)(hg:w.heap[g]?=some (.cells cur 268 (0,0)))(hcur:cur.size=cap * 2)(htake:cur.toList.take (l.length * 2)=flat eRU l)(hi:i<l.length)(hroom:l.length+1≤cap)(hcm:cap≤maxLen)(hB:B≤g)(hvb:Blk w vb 268 (cRU x))(hne:vb≠g)(hn:l.length≤1000000) :
  Calls Tryz.prog 187 #[.slice (some ⟨g,0,none⟩) l.length cap,.int .i64 i,.slice (some ⟨vb,0,none⟩) 1 1] w fun e w'=>∃v',e=.returned v'∧RowNew w w' B 268 2 (.slice (some ⟨g,0,none⟩) l.length cap) v' (l.length+1) (flat eRU (insL l i x)):=by
 have z:=aa (cw eRU 2 kRU l i x);have a:=aC eRU 2 kRU l;obtain ⟨C,A⟩:∃C,flat eRU l=C:=⟨_,rfl⟩;have p:∀u∈C,u.oneCell'=true:=by rw [←A];exact aH j9 l
 rw [A] at htake a z;have s:=aJ l i x (by omega);obtain ⟨n,G⟩:∃n,l.length=n:=⟨_,rfl⟩;rw [G] at htake a hi hroom hn s ⊢;have O:(cur.size=cap * 2):=hcur;have m:cur.toList.length=cap * 2:=by simpa using hcur
 have E:(n+1) * 2≤cap * 2:=AF 2 hroom;obtain ⟨b,v⟩:∃b,b=cur.toList.take ((i+1) * 2)++C.drop (i * 2)++cur.toList.drop ((i+1) * 2+(C.drop (i * 2)).length):=⟨_,rfl⟩;obtain ⟨A2,hA2⟩:∃A2,A2=b.take (i * 2)++eRU x++b.drop (i * 2+(eRU x).length):=⟨_,rfl⟩;obtain ⟨hl1,hl2,hfin⟩:=fU (ex:=eRU x) htake a (by omega) (kRU x) (by rw [m];exact E) v hA2;obtain ⟨W1,hW1⟩:∃W1,W1=w.drew.setRow g b.toArray:=⟨_,rfl⟩;have y:W1.heap[g]?=some (.cells b.toArray 268 (0,0)):=by rw [hW1];exact setRow_heap w.drew g cur b.toArray 268 (0,0) hg
 have f:∀(j:Nat) (u:Value),(C.drop (i * 2))[j]?=some u→w.drew.cell? ((⟨g,i * 2,none⟩:Addr).add j)=some u:=fun j u hu=>by
  rw [Aj];rw [List.getElem?_drop,←htake,AE] at hu;split at hu
  ·simp only [World.cell?];rw [show w.drew.heap[g]?=some (.cells cur 268 (0,0)) from hg];simpa using hu
  ·cases hu
 have d:∀(j:Nat) (u:Value),(eRU x)[j]?=some u→W1.cell? ((⟨vb,0,none⟩:Addr).add j)=some u:=fun j u hu=>by
  rw [Aj,Av];have e:W1.cell? ⟨vb,j,none⟩=w.cell? ⟨vb,j,none⟩:=by
   rw [hW1];exact AZ (setRow_other w.drew g vb b.toArray hne)
  rw [e,hvb.c j];simpa [eRU] using hu
 have F:∀ty dc sc,(Builtin.copy_ #[189,189] ty #[.slice (some ⟨g,(i+1) * 2,none⟩) (n - i) dc,.slice (some ⟨g,i * 2,none⟩) (n+1 - i) sc]).run Tryz.prog w.drew=.ok (goInt (n - i:Nat)) W1:=fun ty dc sc=>by
  have h:=aE (P:=Tryz.prog) w.drew 189 189 ty 268 g ((i+1) * 2) (n - i) dc ⟨g,i * 2,none⟩ (n+1 - i) sc cur 268 (C.drop (i * 2)) 2 (n - i) Tryz.underlying189 wJ hg (by simp only [Nat.min_def];split <;> omega) (by rw [Al,a,Nat.sub_mul]) f (by rw [Al,a,←m] at *;simp at *;omega) (fun u hu=>p u (Bh hu));rw [h,hW1,v]
 have r:∀ty dc,(Builtin.copy_ #[189,189] ty #[.slice (some ⟨g,i * 2,none⟩) (n+1 - i) dc,.slice (some ⟨vb,0,none⟩) 1 1]).run Tryz.prog W1=.ok (goInt (1:Nat)) (W1.setRow g A2.toArray):=fun ty dc=>by
  have h:=aE (P:=Tryz.prog) W1 189 189 ty 268 g (i * 2) (n+1 - i) dc ⟨vb,0,none⟩ 1 1 b.toArray 268 (eRU x) 2 1 Tryz.underlying189 wJ y (by simp only [Nat.min_def];split <;> omega) (by rw [kRU]) d (by rw [kRU];simp only [AP,hl1,m];omega) (j9 x);rw [h,hA2]
 have I:∀lb cb,(callFunc 234 #[.slice (some ⟨vb,0,none⟩) 1 1,.slice (some ⟨g,(i+1) * 2,none⟩) lb cb]).run Tryz.prog w=.ok (.value (.bool false)) w:=fun lb cb=>by
  rw [run_callFunc_extern Tryz.func234 (by kernel_rfl) (by kernel_rfl) (by kernel_rfl) (e:=Extern.SlicesOverlaps.overlaps #[189,189] #[4]) (by kernel_rfl),
   Lib.run_overlaps_apart w 189 4 268 Tryz.underlying189 2 Tryz.sizeOf268 ⟨vb,0,none⟩ ⟨g,(i+1) * 2,none⟩ 1 1 lb cb hne 268 268 2 cur.size (by unfold Blk at hvb;simp [World.shape?,hvb]) (by simp [World.shape?,hg]) (by omega) (hvb.free 0) (hvb.free 2)]
  rfl
 have q:Hid (RowNew w (W1.setRow g A2.toArray) B 268 2 (.slice (some ⟨g,0,none⟩) n cap) (.slice (some ⟨g,0,none⟩) (n+1) cap) (n+1) (flat eRU (insL l i x))):=aa (by
  refine ⟨⟨by rw [aC eRU 2 kRU,s],Or.inr ⟨g,cap,A2.toArray,rfl,hB,setRow_heap W1 g b.toArray A2.toArray 268 (0,0) y,hroom,hcm,by simp [hl2,hcur],?_⟩⟩,?_,Or.inl rfl⟩
  ·rw [z.o];exact hfin
  ·have t:=aO w.drew g b.toArray;have D:=aO W1 g A2.toArray;rw [←hW1] at t;exact ⟨D.os.trans t.os,D.tape.trans t.tape,D.output.trans t.output,z5 t.size D.size,fun k hk hne=>(D.block k (AR hk t.size) hne).trans (t.block k hk hne)⟩)
 obtain ⟨J,H⟩:∃J,J=W1.setRow g A2.toArray:=⟨_,rfl⟩;rw [←H] at r q;have T:¬ ((i:Int)=(n:Int)):=by omega
 have L:IntKind.i64.wrap ((i:Int)+1)=(i:Int)+1:=Ax _ (by omega);have N:((i:Int)+1).toNat=i+1:=by omega
 have K:(0:Int)≤(i:Int)+1:=by omega
 have U:i≤n:=by omega
 have Q:¬ (cap=i+1):=by omega
 have R:(i:Int)≤(n:Int)+1:=by omega
 have S:¬ (cap=i):=by omega
 have M:decide ((cap:Int)<(n:Int)+1)=false:=dF (by omega);unfold maxLen at hcm;clear hg hcur htake p A a s G m E v hA2 hl1 hl2 hfin hW1 y f d hvb hne O z H;go_enter Tryz.func187,Tryz.ntmps187;go_wp2_with (simp only [I])
 go_region_law (refine bz rfl _ _ 189 189 rfl _ _ (by simp [Act.eval,Act.put]) (by simp [Act.eval,Act.put]) (F _ _ _) ?_)
 go_wp2_with (at_builtin;refine aV _ rfl _ _ 189 189 rfl _ _ rfl rfl (r _ _) ?_)
 go_ret;exact ⟨_,rfl,q.o⟩
theorem mr (B g cap i vb:Nat)(cur:Array Value)(l:List RU)(x:RU)(w:World)(hg:w.heap[g]?=some (.cells cur 268 (0,0)))(htake:cur.toList.take (l.length * 2)=flat eRU l)(hi:i<l.length)(hnc:l.length≤cap)(hroom:cap<l.length+1)(hB:B≤w.heap.size)(hvb:Blk w vb 268 (cRU x))(hn:l.length≤1000000) :
  Calls Tryz.prog 187 #[.slice (some ⟨g,0,none⟩) l.length cap,.int .i64 i,.slice (some ⟨vb,0,none⟩) 1 1] w fun e w'=>∃v',e=.returned v'∧RowNew w w' B 268 2 (.slice (some ⟨g,0,none⟩) l.length cap) v' (l.length+1) (flat eRU (insL l i x)):=by
 obtain ⟨i0,ac,ad,ae,T⟩:=info_parts sq;have s:g<w.heap.size:=by
  rcases Az g w.heap.size with h' | h'
  ·exact h'
  ·simp [AO h'] at hg
 have A:=hvb.lt;have J:=aa (cw eRU 2 kRU l i x);have a:=aC eRU 2 kRU l;obtain ⟨m,L⟩:∃m,flat eRU l=m:=⟨_,rfl⟩;have t:∀u∈m,u.oneCell'=true:=by rw [←L];exact aH j9 l
 rw [L] at htake a J;have E:=aJ l i x (by omega);obtain ⟨n,Z⟩:∃n,l.length=n:=⟨_,rfl⟩;rw [Z] at htake a hi hroom hn E hnc ⊢;have hm:i * 2≤n * 2:=AF 2 (by omega);have d:∀(j:Nat) (u:Value),m[j]?=some u→w.cell? ⟨g,j,none⟩=some u:=fun j u hu=>by
  rw [←htake,AE] at hu;split at hu
  ·simp only [World.cell?];rw [hg];simpa using hu
  ·cases hu
 have W:(n:Int)+1 - (i:Int)=((n+1 - i:Nat):Int):=by omega
 have K:i+(n+1 - i)=n+1:=by omega
 have z:(Builtin.firstCells i0.size i (.slice (some ⟨g,0,none⟩) i cap)).run Tryz.prog w.drew=.ok (m.take (i * 2)).toArray w.drew:=by
  rw [ae];exact run_firstCells_some w.drew 2 i ⟨g,0,none⟩ i cap (m.take (i * 2)) (by rw [Aa,a];omega) (fun j u hj=>by
   rw [Aj,Av];rw [AE] at hj;split at hj
   ·exact d j u hj
   ·cases hj)
 have p:∀ty,(Builtin.append_ #[189,3] ty #[.slice (some ⟨g,0,none⟩) i cap,.int .i64 ((n:Int)+1 - (i:Int))]).run Tryz.prog w =
   .ok (.slice (some ⟨w.heap.size,0,none⟩) (n+1) (grownCap w (n+1) cap 268)) (w.drew.alloc (.cells ((m.take (i * 2)).toArray++Builtin.zeroCells (Value.agg #[.int .i64 0,.int .i64 0]).cells (n+1 - i)++Builtin.zeroCells (Value.agg #[.int .i64 0,.int .i64 0]).cells (grownCap w (n+1) cap 268 - (n+1))) 268)):=fun ty=>by
  have h:=Lib.run_append_grow_zeros w 189 3 ty 268 i0 _ .i64 .i64 Tryz.underlying189 Tryz.underlying3 ac ad (some ⟨g,0,none⟩) i cap (m.take (i * 2)) z (n+1 - i) (by omega) (by omega) (by omega) (by omega) (by rw [T];omega) (by rw [T,K];exact growslice_fits hroom (by omega));rw [K] at h;rw [W];exact h
 obtain ⟨G,hG⟩:∃G,G=grownCap w (n+1) cap 268:=⟨_,rfl⟩;obtain ⟨ROW,hROW⟩:∃ROW:Array Value,ROW=(m.take (i * 2)).toArray++Builtin.zeroCells (Value.agg #[.int .i64 0,.int .i64 0]).cells (n+1 - i)++Builtin.zeroCells (Value.agg #[.int .i64 0,.int .i64 0]).cells (G - (n+1)):=⟨_,rfl⟩;rw [←hG] at p;rw [←hROW] at p;have R:n+1≤G:=by rw [hG];exact grownCap_ge w _ _ _
 have Y:G≤maxLen:=by rw [hG];exact grownCap_le_maxLen w (n+1) cap 268 (by unfold maxLen;omega)
 have H:ROW.size=G * 2:=by
  rw [hROW];simp [Builtin.zeroCells,Value.cells,a]
  omega
 have U:ROW.toList.take (i * 2)=m.take (i * 2):=by
  rw [hROW];simp only [Array.toList_append,Au];rw [List.take_append_of_le_length (by rw [Aa,a];omega)];rw [Ae (by rw [Aa,a];omega)]
 obtain ⟨r,I⟩:∃r,r=ROW.toList.take (i * 2)++eRU x++ROW.toList.drop (i * 2+(eRU x).length):=⟨_,rfl⟩;obtain ⟨A2,hA2⟩:∃A2,A2=r.take ((i+1) * 2)++m.drop (i * 2)++r.drop ((i+1) * 2+(m.drop (i * 2)).length):=⟨_,rfl⟩;have V:(n+1) * 2≤G * 2:=AF 2 R;have q:ROW.toList.length=G * 2:=by simpa using H
 obtain ⟨S,X,C⟩:=fV (ex:=eRU x) U a (by omega) (kRU x) (by rw [q];exact V) I hA2;obtain ⟨N,hN⟩:∃N,w.heap.size=N:=⟨_,rfl⟩;rw [hN] at p s A hB;obtain ⟨W1,hW1⟩:∃W1,W1=w.drew.alloc (.cells ROW 268):=⟨_,rfl⟩;rw [←hW1] at p;have D:W1.heap[N]?=some (.cells ROW 268 (0,0)):=by rw [hW1,←hN];exact heap_alloc_new w.drew _
 have M:∀k,k<N→W1.heap[k]?=w.heap[k]?:=fun k hk=>by rw [hW1];exact Below.heap_alloc w.drew _ k (by show k<w.heap.size;omega)
 obtain ⟨f,b⟩:∃f,f=W1.setRow N r.toArray:=⟨_,rfl⟩;have O:f.heap[N]?=some (.cells r.toArray 268 (0,0)):=by rw [b];exact setRow_heap W1 N ROW r.toArray 268 (0,0) D
 have F:∀k,k<N→f.heap[k]?=w.heap[k]?:=fun k hk=>by rw [b,setRow_other W1 N k _ (by omega)];exact M k hk
 have Q:∀ty dc,(Builtin.copy_ #[189,189] ty #[.slice (some ⟨N,i * 2,none⟩) (n+1 - i) dc,.slice (some ⟨vb,0,none⟩) 1 1]).run Tryz.prog W1=.ok (goInt (1:Nat)) f:=fun ty dc=>by
  have h:=aE (P:=Tryz.prog) W1 189 189 ty 268 N (i * 2) (n+1 - i) dc ⟨vb,0,none⟩ 1 1 ROW 268 (eRU x) 2 1 Tryz.underlying189 wJ D (by simp only [Nat.min_def];split <;> omega) (by rw [kRU]) (fun j u hu=>by
   rw [Aj,Av,AZ (M vb A),hvb.c j];simpa [eRU] using hu) (by rw [kRU,H];omega) (j9 x)
  rw [h,b,I]
 have y:∀ty dc sc,(Builtin.copy_ #[189,189] ty #[.slice (some ⟨N,(i+1) * 2,none⟩) (n - i) dc,.slice (some ⟨g,i * 2,none⟩) (n - i) sc]).run Tryz.prog f.drew=.ok (goInt (n - i:Nat)) (f.drew.setRow N A2.toArray):=fun ty dc sc=>by
  have h:=aE (P:=Tryz.prog) f.drew 189 189 ty 268 N ((i+1) * 2) (n - i) dc ⟨g,i * 2,none⟩ (n - i) sc r.toArray 268 (m.drop (i * 2)) 2 (n - i) Tryz.underlying189 wJ O (by simp only [Nat.min_def];split <;> omega) (by rw [Al,a,Nat.sub_mul]) (fun j u hu=>by
   rw [Aj,AZ (show f.drew.heap[g]?=w.heap[g]? from F g s)];rw [List.getElem?_drop] at hu;exact d _ u hu) (by rw [Al,a];simp only [AP,S,q];omega) (fun u hu=>t u (Bh hu))
  rw [h,hA2]
 have v:Hid (RowNew w (f.drew.setRow N A2.toArray) B 268 2 (.slice (some ⟨g,0,none⟩) n cap) (.slice (some ⟨N,0,none⟩) (n+1) G) (n+1) (flat eRU (insL l i x))):=aa (by
  refine ⟨⟨by rw [aC eRU 2 kRU,E],Or.inr ⟨N,G,A2.toArray,rfl,hB,setRow_heap f.drew N r.toArray A2.toArray 268 (0,0) O,R,Y,by simp [X,q],?_⟩⟩,?_,Or.inr ⟨N,by omega,rfl⟩⟩
  ·rw [J.o];exact C
  ·exact ⟨by rw [b,hW1];rfl,by rw [b,hW1];rfl,by rw [b,hW1];rfl,by rw [b,hW1];simp [World.setRow],fun k hk _=>(setRow_other f.drew N k A2.toArray (by omega)).trans (F k (by omega))⟩)
 obtain ⟨W3,ab⟩:∃W3,W3=f.drew.setRow N A2.toArray:=⟨_,rfl⟩;rw [←ab] at y v;have ao:¬ ((i:Int)=(n:Int)):=by omega
 have ah:IntKind.i64.wrap ((i:Int)+1)=(i:Int)+1:=Ax _ (by omega);have ai:((i:Int)+1).toNat=i+1:=by omega
 have af:(0:Int)≤(i:Int)+1:=by omega
 have al:i≤n:=by omega
 have ak:¬ (cap=i):=by omega
 have am:¬ (G=i):=by omega
 have ap:¬ (G=i+1):=by omega
 have aj:(i:Int)≤(n:Int)+1:=by omega
 have ag:i≤n+1:=by omega
 have an:decide ((cap:Int)<(n:Int)+1)=true:=dT (by omega);unfold maxLen at Y;clear hg htake t L a E Z I hA2 S X C hW1 D M O F hvb J b ab d W K z hG hROW H U V q hm;go_enter Tryz.func187,Tryz.ntmps187;go_wp2_with (first
  | (at_builtin;refine Lib.wpList_append_run _ rfl _ _ _ _ rfl _ _ rfl rfl _ _ (p _) ?_)
  | (at_builtin;refine aV _ rfl _ _ 189 189 rfl _ _ rfl rfl (Q _ _) ?_))
 go_region_law (refine bz rfl _ _ 189 189 rfl _ _ (by simp [Act.eval,Act.put]) (by simp [Act.eval,Act.put]) (y _ _ _) ?_)
 go_wp2_with fail;go_ret;exact ⟨_,rfl,v.o⟩
theorem ph (B vb i:Nat)(v:Value)(l:List RU)(x:RU)(w:World)(ho:w.ownsRow B 268 2 v l.length (flat eRU l))(hi:i≤l.length)(hB:B≤w.heap.size)(hn:l.length≤1000000)(hvb:Blk w vb 268 (cRU x))(hne:∀k,v.ownBlock=some k→vb≠k) :
  Calls Tryz.prog 187 #[v,.int .i64 i,.slice (some ⟨vb,0,none⟩) 1 1] w fun e w'=>∃v',e=.returned v'∧RowNew w w' B 268 2 v v' (l.length+1) (flat eRU (insL l i x)):=by
 by_cases hlt:i<l.length
 ·have b:=ho;obtain ⟨_,a⟩:=ho;rcases a with ⟨_,h0⟩ | ⟨g,cap,cur,rfl,hBg,hg,hnc,hcm,hcur,htake⟩
  ·omega
  ·by_cases hroom:l.length+1≤cap
   ·exact mq B g cap i vb cur l x w hg hcur htake hlt hroom hcm hBg hvb (hne g rfl) hn
   ·exact mr B g cap i vb cur l x w hg htake hlt hnc (by omega) hB hvb hn
 ·obtain rfl:i=l.length:=by omega
  exact pg B vb v l x w ho hB hn hvb
theorem wK:(Tryz.prog.info? 163).map (·.size)=some 7:=by kernel_rfl
theorem Sl.atRT {w:World}{vb:Nat}{x:RT}(h:Blk w vb 163 (cRT x)):Sl eRT 7 w (.slice (some ⟨vb,0,none⟩) 1 1) [x]:=
 ⟨some ⟨vb,0,none⟩,1,rfl,(fun h=>by cases h),by simp,by unfold maxLen;omega,fun _=>⟨vb,0,rfl,h.lt,fun i hi j u hu=>by
  obtain rfl:i=0:=by simp at hi;exact hi
  have e:(⟨vb,0+0 * 7+j,none⟩:Addr)=⟨vb,j,none⟩:=by simp
  rw [e,h.c j];simpa [eRT] using hu⟩⟩
theorem pi (B vb:Nat)(v:Value)(l:List RT)(x:RT)(w:World)(ho:w.ownsRow B 163 7 v l.length (flat eRT l))(hB:B≤w.heap.size)(hn:l.length≤1000000)(hvb:Blk w vb 163 (cRT x)) :
  Calls Tryz.prog 189 #[v,.int .i64 l.length,.slice (some ⟨vb,0,none⟩) 1 1] w fun e w'=>∃v',e=.returned v'∧RowNew w w' B 163 7 v v' (l.length+1) (flat eRT (insL l l.length x)):=by
 obtain ⟨z,A,q,t,m⟩:=info_parts l5;have C:=aa ho;have y:=aa (Sl.atRT hvb);have D:Hid (l++[x]=insL l l.length x):=aa (by rw [fT]);have s:=aa (aJ l l.length x (zY _));have F:=ag ho;obtain ⟨a,cap,rfl⟩:=F;have k:l.length≤cap∧cap≤maxLen∧(a=none→cap=0):=by
  obtain ⟨_,f⟩:=ho;rcases f with ⟨f,u⟩ | ⟨g,c,cur,f,_,_,h3,h4,_⟩
  ·simp at f;unfold maxLen;omega
  ·simp at f;exact ⟨by omega,by omega,by simp [f.1]⟩
 obtain ⟨n,j,i⟩:=k;have E:(Instr.slice 160 (.slice a l.length cap) (some (.int .i64 l.length)) none none).run Tryz.prog w=.ok (.slice (cutA a cap l.length 7) 0 (cap - l.length)) w:=by
  cases a with
  | none=>
   obtain rfl:=i rfl;have u:l.length=0:=by omega
   rw [u];simp [cutA,go_sem,Tryz.underlying160]
  | some ad=>
   unfold cutA;unfold maxLen at j;by_cases hc:cap=l.length
   ·rw [if_pos hc];simp [go_sem,Tryz.underlying160,Tryz.sizeOf163,hc]
   ·rw [if_neg hc];simp [go_sem,Tryz.underlying160,Tryz.sizeOf163,hc,n]
 unfold maxLen at j;clear ho hvb i;go_enter Tryz.func189,Tryz.ntmps189;go_wp2_with (at_builtin;refine aq kRT (by decide) il _ rfl _ _ 160 rfl B 163 z (.agg #[.int .i64 0,.int .i64 0,.int .i64 0,.int .i64 0,.int .i64 0,.int .i64 0,.int .i64 0]) 56 Tryz.underlying160 A q t m (by rfl) (.slice a l.length cap) l rfl C.o (some ⟨vb,0,none⟩) 1 [x] rfl y.o (by simp only [Ai];unfold maxLen;omega) (by simp only [Ai];omega) hB ?_;intro v' I b d r)
 rw [D.o,s.o] at b;have p:=ag b;obtain ⟨H,G,rfl⟩:=p;go_wp2;go_ret;refine ⟨_,rfl,b,d,?_⟩;rcases r with h | h
 ·exact Or.inl h
 ·exact Or.inr ⟨_,zY _,h⟩
theorem mt (B g cap i vb:Nat)(cur:Array Value)(l:List RT)(x:RT)(w:World)(hg:w.heap[g]?=some (.cells cur 163 (0,0)))(hcur:cur.size=cap * 7)(htake:cur.toList.take (l.length * 7)=flat eRT l)(hi:i<l.length)(hroom:l.length+1≤cap)(hcm:cap≤maxLen)(hB:B≤g)(hvb:Blk w vb 163 (cRT x))(hne:vb≠g)(hn:l.length≤1000000) :
  Calls Tryz.prog 189 #[.slice (some ⟨g,0,none⟩) l.length cap,.int .i64 i,.slice (some ⟨vb,0,none⟩) 1 1] w fun e w'=>∃v',e=.returned v'∧RowNew w w' B 163 7 (.slice (some ⟨g,0,none⟩) l.length cap) v' (l.length+1) (flat eRT (insL l i x)):=by
 have z:=aa (cw eRT 7 kRT l i x);have a:=aC eRT 7 kRT l;obtain ⟨C,A⟩:∃C,flat eRT l=C:=⟨_,rfl⟩;have p:∀u∈C,u.oneCell'=true:=by rw [←A];exact aH il l
 rw [A] at htake a z;have s:=aJ l i x (by omega);obtain ⟨n,G⟩:∃n,l.length=n:=⟨_,rfl⟩;rw [G] at htake a hi hroom hn s ⊢;have O:(cur.size=cap * 7):=hcur;have m:cur.toList.length=cap * 7:=by simpa using hcur
 have E:(n+1) * 7≤cap * 7:=AF 7 hroom;obtain ⟨b,v⟩:∃b,b=cur.toList.take ((i+1) * 7)++C.drop (i * 7)++cur.toList.drop ((i+1) * 7+(C.drop (i * 7)).length):=⟨_,rfl⟩;obtain ⟨A2,hA2⟩:∃A2,A2=b.take (i * 7)++eRT x++b.drop (i * 7+(eRT x).length):=⟨_,rfl⟩;obtain ⟨hl1,hl2,hfin⟩:=fU (ex:=eRT x) htake a (by omega) (kRT x) (by rw [m];exact E) v hA2;obtain ⟨W1,hW1⟩:∃W1,W1=w.drew.setRow g b.toArray:=⟨_,rfl⟩;have y:W1.heap[g]?=some (.cells b.toArray 163 (0,0)):=by rw [hW1];exact setRow_heap w.drew g cur b.toArray 163 (0,0) hg
 have f:∀(j:Nat) (u:Value),(C.drop (i * 7))[j]?=some u→w.drew.cell? ((⟨g,i * 7,none⟩:Addr).add j)=some u:=fun j u hu=>by
  rw [Aj];rw [List.getElem?_drop,←htake,AE] at hu;split at hu
  ·simp only [World.cell?];rw [show w.drew.heap[g]?=some (.cells cur 163 (0,0)) from hg];simpa using hu
  ·cases hu
 have d:∀(j:Nat) (u:Value),(eRT x)[j]?=some u→W1.cell? ((⟨vb,0,none⟩:Addr).add j)=some u:=fun j u hu=>by
  rw [Aj,Av];have e:W1.cell? ⟨vb,j,none⟩=w.cell? ⟨vb,j,none⟩:=by
   rw [hW1];exact AZ (setRow_other w.drew g vb b.toArray hne)
  rw [e,hvb.c j];simpa [eRT] using hu
 have F:∀ty dc sc,(Builtin.copy_ #[160,160] ty #[.slice (some ⟨g,(i+1) * 7,none⟩) (n - i) dc,.slice (some ⟨g,i * 7,none⟩) (n+1 - i) sc]).run Tryz.prog w.drew=.ok (goInt (n - i:Nat)) W1:=fun ty dc sc=>by
  have h:=aE (P:=Tryz.prog) w.drew 160 160 ty 163 g ((i+1) * 7) (n - i) dc ⟨g,i * 7,none⟩ (n+1 - i) sc cur 163 (C.drop (i * 7)) 7 (n - i) Tryz.underlying160 wK hg (by simp only [Nat.min_def];split <;> omega) (by rw [Al,a,Nat.sub_mul]) f (by rw [Al,a,←m] at *;simp at *;omega) (fun u hu=>p u (Bh hu));rw [h,hW1,v]
 have r:∀ty dc,(Builtin.copy_ #[160,160] ty #[.slice (some ⟨g,i * 7,none⟩) (n+1 - i) dc,.slice (some ⟨vb,0,none⟩) 1 1]).run Tryz.prog W1=.ok (goInt (1:Nat)) (W1.setRow g A2.toArray):=fun ty dc=>by
  have h:=aE (P:=Tryz.prog) W1 160 160 ty 163 g (i * 7) (n+1 - i) dc ⟨vb,0,none⟩ 1 1 b.toArray 163 (eRT x) 7 1 Tryz.underlying160 wK y (by simp only [Nat.min_def];split <;> omega) (by rw [kRT]) d (by rw [kRT];simp only [AP,hl1,m];omega) (il x);rw [h,hA2]
 have I:∀lb cb,(callFunc 238 #[.slice (some ⟨vb,0,none⟩) 1 1,.slice (some ⟨g,(i+1) * 7,none⟩) lb cb]).run Tryz.prog w=.ok (.value (.bool false)) w:=fun lb cb=>by
  rw [run_callFunc_extern Tryz.func238 (by kernel_rfl) (by kernel_rfl) (by kernel_rfl) (e:=Extern.SlicesOverlaps.overlaps #[160,160] #[4]) (by kernel_rfl),
   Lib.run_overlaps_apart w 160 4 163 Tryz.underlying160 7 Tryz.sizeOf163 ⟨vb,0,none⟩ ⟨g,(i+1) * 7,none⟩ 1 1 lb cb hne 163 163 7 cur.size (by unfold Blk at hvb;simp [World.shape?,hvb]) (by simp [World.shape?,hg]) (by omega) (hvb.free 0) (hvb.free 7)]
  rfl
 have q:Hid (RowNew w (W1.setRow g A2.toArray) B 163 7 (.slice (some ⟨g,0,none⟩) n cap) (.slice (some ⟨g,0,none⟩) (n+1) cap) (n+1) (flat eRT (insL l i x))):=aa (by
  refine ⟨⟨by rw [aC eRT 7 kRT,s],Or.inr ⟨g,cap,A2.toArray,rfl,hB,setRow_heap W1 g b.toArray A2.toArray 163 (0,0) y,hroom,hcm,by simp [hl2,hcur],?_⟩⟩,?_,Or.inl rfl⟩
  ·rw [z.o];exact hfin
  ·have t:=aO w.drew g b.toArray;have D:=aO W1 g A2.toArray;rw [←hW1] at t;exact ⟨D.os.trans t.os,D.tape.trans t.tape,D.output.trans t.output,z5 t.size D.size,fun k hk hne=>(D.block k (AR hk t.size) hne).trans (t.block k hk hne)⟩)
 obtain ⟨J,H⟩:∃J,J=W1.setRow g A2.toArray:=⟨_,rfl⟩;rw [←H] at r q;have T:¬ ((i:Int)=(n:Int)):=by omega
 have L:IntKind.i64.wrap ((i:Int)+1)=(i:Int)+1:=Ax _ (by omega);have N:((i:Int)+1).toNat=i+1:=by omega
 have K:(0:Int)≤(i:Int)+1:=by omega
 have U:i≤n:=by omega
 have Q:¬ (cap=i+1):=by omega
 have R:(i:Int)≤(n:Int)+1:=by omega
 have S:¬ (cap=i):=by omega
 have M:decide ((cap:Int)<(n:Int)+1)=false:=dF (by omega);unfold maxLen at hcm;clear hg hcur htake p A a s G m E v hA2 hl1 hl2 hfin hW1 y f d hvb hne O z H;go_enter Tryz.func189,Tryz.ntmps189;go_wp2_with (simp only [I])
 go_region_law (refine bz rfl _ _ 160 160 rfl _ _ (by simp [Act.eval,Act.put]) (by simp [Act.eval,Act.put]) (F _ _ _) ?_)
 go_wp2_with (at_builtin;refine aV _ rfl _ _ 160 160 rfl _ _ rfl rfl (r _ _) ?_)
 go_ret;exact ⟨_,rfl,q.o⟩
theorem mu (B g cap i vb:Nat)(cur:Array Value)(l:List RT)(x:RT)(w:World)(hg:w.heap[g]?=some (.cells cur 163 (0,0)))(htake:cur.toList.take (l.length * 7)=flat eRT l)(hi:i<l.length)(hnc:l.length≤cap)(hroom:cap<l.length+1)(hB:B≤w.heap.size)(hvb:Blk w vb 163 (cRT x))(hn:l.length≤1000000) :
  Calls Tryz.prog 189 #[.slice (some ⟨g,0,none⟩) l.length cap,.int .i64 i,.slice (some ⟨vb,0,none⟩) 1 1] w fun e w'=>∃v',e=.returned v'∧RowNew w w' B 163 7 (.slice (some ⟨g,0,none⟩) l.length cap) v' (l.length+1) (flat eRT (insL l i x)):=by
 obtain ⟨i0,ac,ad,ae,T⟩:=info_parts l5;have s:g<w.heap.size:=by
  rcases Az g w.heap.size with h' | h'
  ·exact h'
  ·simp [AO h'] at hg
 have A:=hvb.lt;have J:=aa (cw eRT 7 kRT l i x);have a:=aC eRT 7 kRT l;obtain ⟨m,L⟩:∃m,flat eRT l=m:=⟨_,rfl⟩;have t:∀u∈m,u.oneCell'=true:=by rw [←L];exact aH il l
 rw [L] at htake a J;have E:=aJ l i x (by omega);obtain ⟨n,Z⟩:∃n,l.length=n:=⟨_,rfl⟩;rw [Z] at htake a hi hroom hn E hnc ⊢;have hm:i * 7≤n * 7:=AF 7 (by omega);have d:∀(j:Nat) (u:Value),m[j]?=some u→w.cell? ⟨g,j,none⟩=some u:=fun j u hu=>by
  rw [←htake,AE] at hu;split at hu
  ·simp only [World.cell?];rw [hg];simpa using hu
  ·cases hu
 have W:(n:Int)+1 - (i:Int)=((n+1 - i:Nat):Int):=by omega
 have K:i+(n+1 - i)=n+1:=by omega
 have z:(Builtin.firstCells i0.size i (.slice (some ⟨g,0,none⟩) i cap)).run Tryz.prog w.drew=.ok (m.take (i * 7)).toArray w.drew:=by
  rw [ae];exact run_firstCells_some w.drew 7 i ⟨g,0,none⟩ i cap (m.take (i * 7)) (by rw [Aa,a];omega) (fun j u hj=>by
   rw [Aj,Av];rw [AE] at hj;split at hj
   ·exact d j u hj
   ·cases hj)
 have p:∀ty,(Builtin.append_ #[160,3] ty #[.slice (some ⟨g,0,none⟩) i cap,.int .i64 ((n:Int)+1 - (i:Int))]).run Tryz.prog w =
   .ok (.slice (some ⟨w.heap.size,0,none⟩) (n+1) (grownCap w (n+1) cap 163)) (w.drew.alloc (.cells ((m.take (i * 7)).toArray++Builtin.zeroCells (Value.agg #[.int .i64 0,.int .i64 0,.int .i64 0,.int .i64 0,.int .i64 0,.int .i64 0,.int .i64 0]).cells (n+1 - i)++Builtin.zeroCells (Value.agg #[.int .i64 0,.int .i64 0,.int .i64 0,.int .i64 0,.int .i64 0,.int .i64 0,.int .i64 0]).cells (grownCap w (n+1) cap 163 - (n+1))) 163)):=fun ty=>by
  have h:=Lib.run_append_grow_zeros w 160 3 ty 163 i0 _ .i64 .i64 Tryz.underlying160 Tryz.underlying3 ac ad (some ⟨g,0,none⟩) i cap (m.take (i * 7)) z (n+1 - i) (by omega) (by omega) (by omega) (by omega) (by rw [T];omega) (by rw [T,K];exact growslice_fits hroom (by omega));rw [K] at h;rw [W];exact h
 obtain ⟨G,hG⟩:∃G,G=grownCap w (n+1) cap 163:=⟨_,rfl⟩;obtain ⟨ROW,hROW⟩:∃ROW:Array Value,ROW=(m.take (i * 7)).toArray++Builtin.zeroCells (Value.agg #[.int .i64 0,.int .i64 0,.int .i64 0,.int .i64 0,.int .i64 0,.int .i64 0,.int .i64 0]).cells (n+1 - i)++Builtin.zeroCells (Value.agg #[.int .i64 0,.int .i64 0,.int .i64 0,.int .i64 0,.int .i64 0,.int .i64 0,.int .i64 0]).cells (G - (n+1)):=⟨_,rfl⟩;rw [←hG] at p;rw [←hROW] at p;have R:n+1≤G:=by rw [hG];exact grownCap_ge w _ _ _
 have Y:G≤maxLen:=by rw [hG];exact grownCap_le_maxLen w (n+1) cap 163 (by unfold maxLen;omega)
 have H:ROW.size=G * 7:=by
  rw [hROW];simp [Builtin.zeroCells,Value.cells,a]
  omega
 have U:ROW.toList.take (i * 7)=m.take (i * 7):=by
  rw [hROW];simp only [Array.toList_append,Au];rw [List.take_append_of_le_length (by rw [Aa,a];omega)];rw [Ae (by rw [Aa,a];omega)]
 obtain ⟨r,I⟩:∃r,r=ROW.toList.take (i * 7)++eRT x++ROW.toList.drop (i * 7+(eRT x).length):=⟨_,rfl⟩;obtain ⟨A2,hA2⟩:∃A2,A2=r.take ((i+1) * 7)++m.drop (i * 7)++r.drop ((i+1) * 7+(m.drop (i * 7)).length):=⟨_,rfl⟩;have V:(n+1) * 7≤G * 7:=AF 7 R;have q:ROW.toList.length=G * 7:=by simpa using H
 obtain ⟨S,X,C⟩:=fV (ex:=eRT x) U a (by omega) (kRT x) (by rw [q];exact V) I hA2;obtain ⟨N,hN⟩:∃N,w.heap.size=N:=⟨_,rfl⟩;rw [hN] at p s A hB;obtain ⟨W1,hW1⟩:∃W1,W1=w.drew.alloc (.cells ROW 163):=⟨_,rfl⟩;rw [←hW1] at p;have D:W1.heap[N]?=some (.cells ROW 163 (0,0)):=by rw [hW1,←hN];exact heap_alloc_new w.drew _
 have M:∀k,k<N→W1.heap[k]?=w.heap[k]?:=fun k hk=>by rw [hW1];exact Below.heap_alloc w.drew _ k (by show k<w.heap.size;omega)
 obtain ⟨f,b⟩:∃f,f=W1.setRow N r.toArray:=⟨_,rfl⟩;have O:f.heap[N]?=some (.cells r.toArray 163 (0,0)):=by rw [b];exact setRow_heap W1 N ROW r.toArray 163 (0,0) D
 have F:∀k,k<N→f.heap[k]?=w.heap[k]?:=fun k hk=>by rw [b,setRow_other W1 N k _ (by omega)];exact M k hk
 have Q:∀ty dc,(Builtin.copy_ #[160,160] ty #[.slice (some ⟨N,i * 7,none⟩) (n+1 - i) dc,.slice (some ⟨vb,0,none⟩) 1 1]).run Tryz.prog W1=.ok (goInt (1:Nat)) f:=fun ty dc=>by
  have h:=aE (P:=Tryz.prog) W1 160 160 ty 163 N (i * 7) (n+1 - i) dc ⟨vb,0,none⟩ 1 1 ROW 163 (eRT x) 7 1 Tryz.underlying160 wK D (by simp only [Nat.min_def];split <;> omega) (by rw [kRT]) (fun j u hu=>by
   rw [Aj,Av,AZ (M vb A),hvb.c j];simpa [eRT] using hu) (by rw [kRT,H];omega) (il x)
  rw [h,b,I]
 have y:∀ty dc sc,(Builtin.copy_ #[160,160] ty #[.slice (some ⟨N,(i+1) * 7,none⟩) (n - i) dc,.slice (some ⟨g,i * 7,none⟩) (n - i) sc]).run Tryz.prog f.drew=.ok (goInt (n - i:Nat)) (f.drew.setRow N A2.toArray):=fun ty dc sc=>by
  have h:=aE (P:=Tryz.prog) f.drew 160 160 ty 163 N ((i+1) * 7) (n - i) dc ⟨g,i * 7,none⟩ (n - i) sc r.toArray 163 (m.drop (i * 7)) 7 (n - i) Tryz.underlying160 wK O (by simp only [Nat.min_def];split <;> omega) (by rw [Al,a,Nat.sub_mul]) (fun j u hu=>by
   rw [Aj,AZ (show f.drew.heap[g]?=w.heap[g]? from F g s)];rw [List.getElem?_drop] at hu;exact d _ u hu) (by rw [Al,a];simp only [AP,S,q];omega) (fun u hu=>t u (Bh hu))
  rw [h,hA2]
 have v:Hid (RowNew w (f.drew.setRow N A2.toArray) B 163 7 (.slice (some ⟨g,0,none⟩) n cap) (.slice (some ⟨N,0,none⟩) (n+1) G) (n+1) (flat eRT (insL l i x))):=aa (by
  refine ⟨⟨by rw [aC eRT 7 kRT,E],Or.inr ⟨N,G,A2.toArray,rfl,hB,setRow_heap f.drew N r.toArray A2.toArray 163 (0,0) O,R,Y,by simp [X,q],?_⟩⟩,?_,Or.inr ⟨N,by omega,rfl⟩⟩
  ·rw [J.o];exact C
  ·exact ⟨by rw [b,hW1];rfl,by rw [b,hW1];rfl,by rw [b,hW1];rfl,by rw [b,hW1];simp [World.setRow],fun k hk _=>(setRow_other f.drew N k A2.toArray (by omega)).trans (F k (by omega))⟩)
 obtain ⟨W3,ab⟩:∃W3,W3=f.drew.setRow N A2.toArray:=⟨_,rfl⟩;rw [←ab] at y v;have ao:¬ ((i:Int)=(n:Int)):=by omega
 have ah:IntKind.i64.wrap ((i:Int)+1)=(i:Int)+1:=Ax _ (by omega);have ai:((i:Int)+1).toNat=i+1:=by omega
 have af:(0:Int)≤(i:Int)+1:=by omega
 have al:i≤n:=by omega
 have ak:¬ (cap=i):=by omega
 have am:¬ (G=i):=by omega
 have ap:¬ (G=i+1):=by omega
 have aj:(i:Int)≤(n:Int)+1:=by omega
 have ag:i≤n+1:=by omega
 have an:decide ((cap:Int)<(n:Int)+1)=true:=dT (by omega);unfold maxLen at Y;clear hg htake t L a E Z I hA2 S X C hW1 D M O F hvb J b ab d W K z hG hROW H U V q hm;go_enter Tryz.func189,Tryz.ntmps189;go_wp2_with (first
  | (at_builtin;refine Lib.wpList_append_run _ rfl _ _ _ _ rfl _ _ rfl rfl _ _ (p _) ?_)
  | (at_builtin;refine aV _ rfl _ _ 160 160 rfl _ _ rfl rfl (Q _ _) ?_))
 go_region_law (refine bz rfl _ _ 160 160 rfl _ _ (by simp [Act.eval,Act.put]) (by simp [Act.eval,Act.put]) (y _ _ _) ?_)
 go_wp2_with fail;go_ret;exact ⟨_,rfl,v.o⟩
theorem pj (B vb i:Nat)(v:Value)(l:List RT)(x:RT)(w:World)(ho:w.ownsRow B 163 7 v l.length (flat eRT l))(hi:i≤l.length)(hB:B≤w.heap.size)(hn:l.length≤1000000)(hvb:Blk w vb 163 (cRT x))(hne:∀k,v.ownBlock=some k→vb≠k) :
  Calls Tryz.prog 189 #[v,.int .i64 i,.slice (some ⟨vb,0,none⟩) 1 1] w fun e w'=>∃v',e=.returned v'∧RowNew w w' B 163 7 v v' (l.length+1) (flat eRT (insL l i x)):=by
 by_cases hlt:i<l.length
 ·have b:=ho;obtain ⟨_,a⟩:=ho;rcases a with ⟨_,h0⟩ | ⟨g,cap,cur,rfl,hBg,hg,hnc,hcm,hcur,htake⟩
  ·omega
  ·by_cases hroom:l.length+1≤cap
   ·exact mt B g cap i vb cur l x w hg hcur htake hlt hroom hcm hBg hvb (hne g rfl) hn
   ·exact mu B g cap i vb cur l x w hg htake hlt hnc (by omega) hB hvb hn
 ·obtain rfl:i=l.length:=by omega
  exact pi B vb v l x w ho hB hn hvb
theorem wL:(Tryz.prog.info? 333).map (·.size)=some 5:=by kernel_rfl
theorem Sl.atRH {w:World}{vb:Nat}{x:RH}(h:Blk w vb 333 (cRH x)):Sl eRH 5 w (.slice (some ⟨vb,0,none⟩) 1 1) [x]:=
 ⟨some ⟨vb,0,none⟩,1,rfl,(fun h=>by cases h),by simp,by unfold maxLen;omega,fun _=>⟨vb,0,rfl,h.lt,fun i hi j u hu=>by
  obtain rfl:i=0:=by simp at hi;exact hi
  have e:(⟨vb,0+0 * 5+j,none⟩:Addr)=⟨vb,j,none⟩:=by simp
  rw [e,h.c j];simpa [eRH] using hu⟩⟩
theorem pn (B vb:Nat)(v:Value)(l:List RH)(x:RH)(w:World)(ho:w.ownsRow B 333 5 v l.length (flat eRH l))(hB:B≤w.heap.size)(hn:l.length≤1000000)(hvb:Blk w vb 333 (cRH x)) :
  Calls Tryz.prog 347 #[v,.int .i64 l.length,.slice (some ⟨vb,0,none⟩) 1 1] w fun e w'=>∃v',e=.returned v'∧RowNew w w' B 333 5 v v' (l.length+1) (flat eRH (insL l l.length x)):=by
 obtain ⟨z,A,q,t,m⟩:=info_parts jq;have C:=aa ho;have y:=aa (Sl.atRH hvb);have D:Hid (l++[x]=insL l l.length x):=aa (by rw [fT]);have s:=aa (aJ l l.length x (zY _));have F:=ag ho;obtain ⟨a,cap,rfl⟩:=F;have k:l.length≤cap∧cap≤maxLen∧(a=none→cap=0):=by
  obtain ⟨_,f⟩:=ho;rcases f with ⟨f,u⟩ | ⟨g,c,cur,f,_,_,h3,h4,_⟩
  ·simp at f;unfold maxLen;omega
  ·simp at f;exact ⟨by omega,by omega,by simp [f.1]⟩
 obtain ⟨n,j,i⟩:=k;have E:(Instr.slice 225 (.slice a l.length cap) (some (.int .i64 l.length)) none none).run Tryz.prog w=.ok (.slice (cutA a cap l.length 5) 0 (cap - l.length)) w:=by
  cases a with
  | none=>
   obtain rfl:=i rfl;have u:l.length=0:=by omega
   rw [u];simp [cutA,go_sem,Tryz.underlying225]
  | some ad=>
   unfold cutA;unfold maxLen at j;by_cases hc:cap=l.length
   ·rw [if_pos hc];simp [go_sem,Tryz.underlying225,Tryz.sizeOf333,hc]
   ·rw [if_neg hc];simp [go_sem,Tryz.underlying225,Tryz.sizeOf333,hc,n]
 unfold maxLen at j;clear ho hvb i;go_enter Tryz.func347,Tryz.ntmps347;go_wp2_with (at_builtin;refine aq kRH (by decide) fJ _ rfl _ _ 225 rfl B 333 z (.agg #[.int .i64 0,.int .i64 0,.int .i64 0,.int .i64 0,.int .i64 0]) 40 Tryz.underlying225 A q t m (by rfl) (.slice a l.length cap) l rfl C.o (some ⟨vb,0,none⟩) 1 [x] rfl y.o (by simp only [Ai];unfold maxLen;omega) (by simp only [Ai];omega) hB ?_;intro v' I b d r)
 rw [D.o,s.o] at b;have p:=ag b;obtain ⟨H,G,rfl⟩:=p;go_wp2;go_ret;refine ⟨_,rfl,b,d,?_⟩;rcases r with h | h
 ·exact Or.inl h
 ·exact Or.inr ⟨_,zY _,h⟩
theorem mv (B g cap i vb:Nat)(cur:Array Value)(l:List RH)(x:RH)(w:World)(hg:w.heap[g]?=some (.cells cur 333 (0,0)))(hcur:cur.size=cap * 5)(htake:cur.toList.take (l.length * 5)=flat eRH l)(hi:i<l.length)(hroom:l.length+1≤cap)(hcm:cap≤maxLen)(hB:B≤g)(hvb:Blk w vb 333 (cRH x))(hne:vb≠g)(hn:l.length≤1000000) :
  Calls Tryz.prog 347 #[.slice (some ⟨g,0,none⟩) l.length cap,.int .i64 i,.slice (some ⟨vb,0,none⟩) 1 1] w fun e w'=>∃v',e=.returned v'∧RowNew w w' B 333 5 (.slice (some ⟨g,0,none⟩) l.length cap) v' (l.length+1) (flat eRH (insL l i x)):=by
 have z:=aa (cw eRH 5 kRH l i x);have a:=aC eRH 5 kRH l;obtain ⟨C,A⟩:∃C,flat eRH l=C:=⟨_,rfl⟩;have p:∀u∈C,u.oneCell'=true:=by rw [←A];exact aH fJ l
 rw [A] at htake a z;have s:=aJ l i x (by omega);obtain ⟨n,G⟩:∃n,l.length=n:=⟨_,rfl⟩;rw [G] at htake a hi hroom hn s ⊢;have O:(cur.size=cap * 5):=hcur;have m:cur.toList.length=cap * 5:=by simpa using hcur
 have E:(n+1) * 5≤cap * 5:=AF 5 hroom;obtain ⟨b,v⟩:∃b,b=cur.toList.take ((i+1) * 5)++C.drop (i * 5)++cur.toList.drop ((i+1) * 5+(C.drop (i * 5)).length):=⟨_,rfl⟩;obtain ⟨A2,hA2⟩:∃A2,A2=b.take (i * 5)++eRH x++b.drop (i * 5+(eRH x).length):=⟨_,rfl⟩;obtain ⟨hl1,hl2,hfin⟩:=fU (ex:=eRH x) htake a (by omega) (kRH x) (by rw [m];exact E) v hA2;obtain ⟨W1,hW1⟩:∃W1,W1=w.drew.setRow g b.toArray:=⟨_,rfl⟩;have y:W1.heap[g]?=some (.cells b.toArray 333 (0,0)):=by rw [hW1];exact setRow_heap w.drew g cur b.toArray 333 (0,0) hg
 have f:∀(j:Nat) (u:Value),(C.drop (i * 5))[j]?=some u→w.drew.cell? ((⟨g,i * 5,none⟩:Addr).add j)=some u:=fun j u hu=>by
  rw [Aj];rw [List.getElem?_drop,←htake,AE] at hu;split at hu
  ·simp only [World.cell?];rw [show w.drew.heap[g]?=some (.cells cur 333 (0,0)) from hg];simpa using hu
  ·cases hu
 have d:∀(j:Nat) (u:Value),(eRH x)[j]?=some u→W1.cell? ((⟨vb,0,none⟩:Addr).add j)=some u:=fun j u hu=>by
  rw [Aj,Av];have e:W1.cell? ⟨vb,j,none⟩=w.cell? ⟨vb,j,none⟩:=by
   rw [hW1];exact AZ (setRow_other w.drew g vb b.toArray hne)
  rw [e,hvb.c j];simpa [eRH] using hu
 have F:∀ty dc sc,(Builtin.copy_ #[225,225] ty #[.slice (some ⟨g,(i+1) * 5,none⟩) (n - i) dc,.slice (some ⟨g,i * 5,none⟩) (n+1 - i) sc]).run Tryz.prog w.drew=.ok (goInt (n - i:Nat)) W1:=fun ty dc sc=>by
  have h:=aE (P:=Tryz.prog) w.drew 225 225 ty 333 g ((i+1) * 5) (n - i) dc ⟨g,i * 5,none⟩ (n+1 - i) sc cur 333 (C.drop (i * 5)) 5 (n - i) Tryz.underlying225 wL hg (by simp only [Nat.min_def];split <;> omega) (by rw [Al,a,Nat.sub_mul]) f (by rw [Al,a,←m] at *;simp at *;omega) (fun u hu=>p u (Bh hu));rw [h,hW1,v]
 have r:∀ty dc,(Builtin.copy_ #[225,225] ty #[.slice (some ⟨g,i * 5,none⟩) (n+1 - i) dc,.slice (some ⟨vb,0,none⟩) 1 1]).run Tryz.prog W1=.ok (goInt (1:Nat)) (W1.setRow g A2.toArray):=fun ty dc=>by
  have h:=aE (P:=Tryz.prog) W1 225 225 ty 333 g (i * 5) (n+1 - i) dc ⟨vb,0,none⟩ 1 1 b.toArray 333 (eRH x) 5 1 Tryz.underlying225 wL y (by simp only [Nat.min_def];split <;> omega) (by rw [kRH]) d (by rw [kRH];simp only [AP,hl1,m];omega) (fJ x);rw [h,hA2]
 have I:∀lb cb,(callFunc 368 #[.slice (some ⟨vb,0,none⟩) 1 1,.slice (some ⟨g,(i+1) * 5,none⟩) lb cb]).run Tryz.prog w=.ok (.value (.bool false)) w:=fun lb cb=>by
  rw [run_callFunc_extern Tryz.func368 (by kernel_rfl) (by kernel_rfl) (by kernel_rfl) (e:=Extern.SlicesOverlaps.overlaps #[225,225] #[4]) (by kernel_rfl),
   Lib.run_overlaps_apart w 225 4 333 Tryz.underlying225 5 Tryz.sizeOf333 ⟨vb,0,none⟩ ⟨g,(i+1) * 5,none⟩ 1 1 lb cb hne 333 333 5 cur.size (by unfold Blk at hvb;simp [World.shape?,hvb]) (by simp [World.shape?,hg]) (by omega) (hvb.free 0) (hvb.free 5)]
  rfl
 have q:Hid (RowNew w (W1.setRow g A2.toArray) B 333 5 (.slice (some ⟨g,0,none⟩) n cap) (.slice (some ⟨g,0,none⟩) (n+1) cap) (n+1) (flat eRH (insL l i x))):=aa (by
  refine ⟨⟨by rw [aC eRH 5 kRH,s],Or.inr ⟨g,cap,A2.toArray,rfl,hB,setRow_heap W1 g b.toArray A2.toArray 333 (0,0) y,hroom,hcm,by simp [hl2,hcur],?_⟩⟩,?_,Or.inl rfl⟩
  ·rw [z.o];exact hfin
  ·have t:=aO w.drew g b.toArray;have D:=aO W1 g A2.toArray;rw [←hW1] at t;exact ⟨D.os.trans t.os,D.tape.trans t.tape,D.output.trans t.output,z5 t.size D.size,fun k hk hne=>(D.block k (AR hk t.size) hne).trans (t.block k hk hne)⟩)
 obtain ⟨J,H⟩:∃J,J=W1.setRow g A2.toArray:=⟨_,rfl⟩;rw [←H] at r q;have T:¬ ((i:Int)=(n:Int)):=by omega
 have L:IntKind.i64.wrap ((i:Int)+1)=(i:Int)+1:=Ax _ (by omega);have N:((i:Int)+1).toNat=i+1:=by omega
 have K:(0:Int)≤(i:Int)+1:=by omega
 have U:i≤n:=by omega
 have Q:¬ (cap=i+1):=by omega
 have R:(i:Int)≤(n:Int)+1:=by omega
 have S:¬ (cap=i):=by omega
 have M:decide ((cap:Int)<(n:Int)+1)=false:=dF (by omega);unfold maxLen at hcm;clear hg hcur htake p A a s G m E v hA2 hl1 hl2 hfin hW1 y f d hvb hne O z H;go_enter Tryz.func347,Tryz.ntmps347;go_wp2_with (simp only [I])
 go_region_law (refine bz rfl _ _ 225 225 rfl _ _ (by simp [Act.eval,Act.put]) (by simp [Act.eval,Act.put]) (F _ _ _) ?_)
 go_wp2_with (at_builtin;refine aV _ rfl _ _ 225 225 rfl _ _ rfl rfl (r _ _) ?_)
 go_ret;exact ⟨_,rfl,q.o⟩
theorem mw (B g cap i vb:Nat)(cur:Array Value)(l:List RH)(x:RH)(w:World)(hg:w.heap[g]?=some (.cells cur 333 (0,0)))(htake:cur.toList.take (l.length * 5)=flat eRH l)(hi:i<l.length)(hnc:l.length≤cap)(hroom:cap<l.length+1)(hB:B≤w.heap.size)(hvb:Blk w vb 333 (cRH x))(hn:l.length≤1000000) :
  Calls Tryz.prog 347 #[.slice (some ⟨g,0,none⟩) l.length cap,.int .i64 i,.slice (some ⟨vb,0,none⟩) 1 1] w fun e w'=>∃v',e=.returned v'∧RowNew w w' B 333 5 (.slice (some ⟨g,0,none⟩) l.length cap) v' (l.length+1) (flat eRH (insL l i x)):=by
 obtain ⟨i0,ac,ad,ae,T⟩:=info_parts jq;have s:g<w.heap.size:=by
  rcases Az g w.heap.size with h' | h'
  ·exact h'
  ·simp [AO h'] at hg
 have A:=hvb.lt;have J:=aa (cw eRH 5 kRH l i x);have a:=aC eRH 5 kRH l;obtain ⟨m,L⟩:∃m,flat eRH l=m:=⟨_,rfl⟩;have t:∀u∈m,u.oneCell'=true:=by rw [←L];exact aH fJ l
 rw [L] at htake a J;have E:=aJ l i x (by omega);obtain ⟨n,Z⟩:∃n,l.length=n:=⟨_,rfl⟩;rw [Z] at htake a hi hroom hn E hnc ⊢;have hm:i * 5≤n * 5:=AF 5 (by omega);have d:∀(j:Nat) (u:Value),m[j]?=some u→w.cell? ⟨g,j,none⟩=some u:=fun j u hu=>by
  rw [←htake,AE] at hu;split at hu
  ·simp only [World.cell?];rw [hg];simpa using hu
  ·cases hu
 have W:(n:Int)+1 - (i:Int)=((n+1 - i:Nat):Int):=by omega
 have K:i+(n+1 - i)=n+1:=by omega
 have z:(Builtin.firstCells i0.size i (.slice (some ⟨g,0,none⟩) i cap)).run Tryz.prog w.drew=.ok (m.take (i * 5)).toArray w.drew:=by
  rw [ae];exact run_firstCells_some w.drew 5 i ⟨g,0,none⟩ i cap (m.take (i * 5)) (by rw [Aa,a];omega) (fun j u hj=>by
   rw [Aj,Av];rw [AE] at hj;split at hj
   ·exact d j u hj
   ·cases hj)
 have p:∀ty,(Builtin.append_ #[225,3] ty #[.slice (some ⟨g,0,none⟩) i cap,.int .i64 ((n:Int)+1 - (i:Int))]).run Tryz.prog w =
   .ok (.slice (some ⟨w.heap.size,0,none⟩) (n+1) (grownCap w (n+1) cap 333)) (w.drew.alloc (.cells ((m.take (i * 5)).toArray++Builtin.zeroCells (Value.agg #[.int .i64 0,.int .i64 0,.int .i64 0,.int .i64 0,.int .i64 0]).cells (n+1 - i)++Builtin.zeroCells (Value.agg #[.int .i64 0,.int .i64 0,.int .i64 0,.int .i64 0,.int .i64 0]).cells (grownCap w (n+1) cap 333 - (n+1))) 333)):=fun ty=>by
  have h:=Lib.run_append_grow_zeros w 225 3 ty 333 i0 _ .i64 .i64 Tryz.underlying225 Tryz.underlying3 ac ad (some ⟨g,0,none⟩) i cap (m.take (i * 5)) z (n+1 - i) (by omega) (by omega) (by omega) (by omega) (by rw [T];omega) (by rw [T,K];exact growslice_fits hroom (by omega));rw [K] at h;rw [W];exact h
 obtain ⟨G,hG⟩:∃G,G=grownCap w (n+1) cap 333:=⟨_,rfl⟩;obtain ⟨ROW,hROW⟩:∃ROW:Array Value,ROW=(m.take (i * 5)).toArray++Builtin.zeroCells (Value.agg #[.int .i64 0,.int .i64 0,.int .i64 0,.int .i64 0,.int .i64 0]).cells (n+1 - i)++Builtin.zeroCells (Value.agg #[.int .i64 0,.int .i64 0,.int .i64 0,.int .i64 0,.int .i64 0]).cells (G - (n+1)):=⟨_,rfl⟩;rw [←hG] at p;rw [←hROW] at p;have R:n+1≤G:=by rw [hG];exact grownCap_ge w _ _ _
 have Y:G≤maxLen:=by rw [hG];exact grownCap_le_maxLen w (n+1) cap 333 (by unfold maxLen;omega)
 have H:ROW.size=G * 5:=by
  rw [hROW];simp [Builtin.zeroCells,Value.cells,a]
  omega
 have U:ROW.toList.take (i * 5)=m.take (i * 5):=by
  rw [hROW];simp only [Array.toList_append,Au];rw [List.take_append_of_le_length (by rw [Aa,a];omega)];rw [Ae (by rw [Aa,a];omega)]
 obtain ⟨r,I⟩:∃r,r=ROW.toList.take (i * 5)++eRH x++ROW.toList.drop (i * 5+(eRH x).length):=⟨_,rfl⟩;obtain ⟨A2,hA2⟩:∃A2,A2=r.take ((i+1) * 5)++m.drop (i * 5)++r.drop ((i+1) * 5+(m.drop (i * 5)).length):=⟨_,rfl⟩;have V:(n+1) * 5≤G * 5:=AF 5 R;have q:ROW.toList.length=G * 5:=by simpa using H
 obtain ⟨S,X,C⟩:=fV (ex:=eRH x) U a (by omega) (kRH x) (by rw [q];exact V) I hA2;obtain ⟨N,hN⟩:∃N,w.heap.size=N:=⟨_,rfl⟩;rw [hN] at p s A hB;obtain ⟨W1,hW1⟩:∃W1,W1=w.drew.alloc (.cells ROW 333):=⟨_,rfl⟩;rw [←hW1] at p;have D:W1.heap[N]?=some (.cells ROW 333 (0,0)):=by rw [hW1,←hN];exact heap_alloc_new w.drew _
 have M:∀k,k<N→W1.heap[k]?=w.heap[k]?:=fun k hk=>by rw [hW1];exact Below.heap_alloc w.drew _ k (by show k<w.heap.size;omega)
 obtain ⟨f,b⟩:∃f,f=W1.setRow N r.toArray:=⟨_,rfl⟩;have O:f.heap[N]?=some (.cells r.toArray 333 (0,0)):=by rw [b];exact setRow_heap W1 N ROW r.toArray 333 (0,0) D
 have F:∀k,k<N→f.heap[k]?=w.heap[k]?:=fun k hk=>by rw [b,setRow_other W1 N k _ (by omega)];exact M k hk
 have Q:∀ty dc,(Builtin.copy_ #[225,225] ty #[.slice (some ⟨N,i * 5,none⟩) (n+1 - i) dc,.slice (some ⟨vb,0,none⟩) 1 1]).run Tryz.prog W1=.ok (goInt (1:Nat)) f:=fun ty dc=>by
  have h:=aE (P:=Tryz.prog) W1 225 225 ty 333 N (i * 5) (n+1 - i) dc ⟨vb,0,none⟩ 1 1 ROW 333 (eRH x) 5 1 Tryz.underlying225 wL D (by simp only [Nat.min_def];split <;> omega) (by rw [kRH]) (fun j u hu=>by
   rw [Aj,Av,AZ (M vb A),hvb.c j];simpa [eRH] using hu) (by rw [kRH,H];omega) (fJ x)
  rw [h,b,I]
 have y:∀ty dc sc,(Builtin.copy_ #[225,225] ty #[.slice (some ⟨N,(i+1) * 5,none⟩) (n - i) dc,.slice (some ⟨g,i * 5,none⟩) (n - i) sc]).run Tryz.prog f.drew=.ok (goInt (n - i:Nat)) (f.drew.setRow N A2.toArray):=fun ty dc sc=>by
  have h:=aE (P:=Tryz.prog) f.drew 225 225 ty 333 N ((i+1) * 5) (n - i) dc ⟨g,i * 5,none⟩ (n - i) sc r.toArray 333 (m.drop (i * 5)) 5 (n - i) Tryz.underlying225 wL O (by simp only [Nat.min_def];split <;> omega) (by rw [Al,a,Nat.sub_mul]) (fun j u hu=>by
   rw [Aj,AZ (show f.drew.heap[g]?=w.heap[g]? from F g s)];rw [List.getElem?_drop] at hu;exact d _ u hu) (by rw [Al,a];simp only [AP,S,q];omega) (fun u hu=>t u (Bh hu))
  rw [h,hA2]
 have v:Hid (RowNew w (f.drew.setRow N A2.toArray) B 333 5 (.slice (some ⟨g,0,none⟩) n cap) (.slice (some ⟨N,0,none⟩) (n+1) G) (n+1) (flat eRH (insL l i x))):=aa (by
  refine ⟨⟨by rw [aC eRH 5 kRH,E],Or.inr ⟨N,G,A2.toArray,rfl,hB,setRow_heap f.drew N r.toArray A2.toArray 333 (0,0) O,R,Y,by simp [X,q],?_⟩⟩,?_,Or.inr ⟨N,by omega,rfl⟩⟩
  ·rw [J.o];exact C
  ·exact ⟨by rw [b,hW1];rfl,by rw [b,hW1];rfl,by rw [b,hW1];rfl,by rw [b,hW1];simp [World.setRow],fun k hk _=>(setRow_other f.drew N k A2.toArray (by omega)).trans (F k (by omega))⟩)
 obtain ⟨W3,ab⟩:∃W3,W3=f.drew.setRow N A2.toArray:=⟨_,rfl⟩;rw [←ab] at y v;have ao:¬ ((i:Int)=(n:Int)):=by omega
 have ah:IntKind.i64.wrap ((i:Int)+1)=(i:Int)+1:=Ax _ (by omega);have ai:((i:Int)+1).toNat=i+1:=by omega
 have af:(0:Int)≤(i:Int)+1:=by omega
 have al:i≤n:=by omega
 have ak:¬ (cap=i):=by omega
 have am:¬ (G=i):=by omega
 have ap:¬ (G=i+1):=by omega
 have aj:(i:Int)≤(n:Int)+1:=by omega
 have ag:i≤n+1:=by omega
 have an:decide ((cap:Int)<(n:Int)+1)=true:=dT (by omega);unfold maxLen at Y;clear hg htake t L a E Z I hA2 S X C hW1 D M O F hvb J b ab d W K z hG hROW H U V q hm;go_enter Tryz.func347,Tryz.ntmps347;go_wp2_with (first
  | (at_builtin;refine Lib.wpList_append_run _ rfl _ _ _ _ rfl _ _ rfl rfl _ _ (p _) ?_)
  | (at_builtin;refine aV _ rfl _ _ 225 225 rfl _ _ rfl rfl (Q _ _) ?_))
 go_region_law (refine bz rfl _ _ 225 225 rfl _ _ (by simp [Act.eval,Act.put]) (by simp [Act.eval,Act.put]) (y _ _ _) ?_)
 go_wp2_with fail;go_ret;exact ⟨_,rfl,v.o⟩
theorem po (B vb i:Nat)(v:Value)(l:List RH)(x:RH)(w:World)(ho:w.ownsRow B 333 5 v l.length (flat eRH l))(hi:i≤l.length)(hB:B≤w.heap.size)(hn:l.length≤1000000)(hvb:Blk w vb 333 (cRH x))(hne:∀k,v.ownBlock=some k→vb≠k) :
  Calls Tryz.prog 347 #[v,.int .i64 i,.slice (some ⟨vb,0,none⟩) 1 1] w fun e w'=>∃v',e=.returned v'∧RowNew w w' B 333 5 v v' (l.length+1) (flat eRH (insL l i x)):=by
 by_cases hlt:i<l.length
 ·have b:=ho;obtain ⟨_,a⟩:=ho;rcases a with ⟨_,h0⟩ | ⟨g,cap,cur,rfl,hBg,hg,hnc,hcm,hcur,htake⟩
  ·omega
  ·by_cases hroom:l.length+1≤cap
   ·exact mv B g cap i vb cur l x w hg hcur htake hlt hroom hcm hBg hvb (hne g rfl) hn
   ·exact mw B g cap i vb cur l x w hg htake hlt hnc (by omega) hB hvb hn
 ·obtain rfl:i=l.length:=by omega
  exact pn B vb v l x w ho hB hn hvb
section
attribute [local go_sem ↓] Go.wp_at_zero Go.wp_at_succ
theorem pq {w w2:World}{B g:Nat}{cs:Array Value}{vl v':Value}{l l':List RU}{K:List Nat}(hb:Blk w g 191 cs)(ho:w.ownsRow B 268 2 vl l.length (flat eRU l))(hR:RowNew w w2 B 268 2 vl v' l'.length (flat eRU l'))
  (hB:B≤g) (hKg:g∉K) (hKv:∀k,vl.ownBlock=some k→k∉K):Grew eRU 2 268 w (w2.setCell ⟨g,1,none⟩ v') B g 191 cs 1 vl l' K v':=by
 have a:=hb.grown ho hR.grown (by decide);refine ⟨a.set 1 v',?_,(ModT.grown ho hR.grown (by simp) (zY _) hKv).trans (ModT.set a (by simp) hB hKg),?_⟩
 ·have:=aD a hR.own (by decide)
  exact au (w:=w2) hR.own (fun k hk=>An _ _ _ _ (this k hk))
 ·rcases hR.at_ with hat | ⟨k,h1,h2⟩
  ·exact Or.inl hat
  ·exact Or.inr ⟨k,h1,h2⟩
theorem pt (B g:Nat)(room:Int)(v:Value)(l:List RU)(x:RU)(K:List Nat)(w:World)(hb:Blk w g 191 #[.int .i64 room,v])(hB:B≤g)(hBw:B≤w.heap.size)(ho:w.ownsRow B 268 2 v l.length (flat eRU l))(hn:l.length≤100000)(hs:Rsg RU.rid l)(hKg:g∉K)(hKv:∀k,v.ownBlock=some k→k∉K)
  (hno:hasM RU.rid l x.rid=false) (hroom:(l.length:Int)<room) :
  Calls Tryz.prog 149 #[ptr g,.int .i64 x.rid,.int .i64 x.v] w fun e w'=>∃v',e=.returned (.int .i64 0)∧Grew eRU 2 268 w w' B g 191 #[.int .i64 room,v] 1 v (insL l (posM RU.rid l x.rid) x) K v':=by
 have m:Bw w w:=zZ _ _;have h:=aa (hb.keep m);have d:=aa (ah ho m);have y:=aa hKv;have G:=aa (sr g v room l x.rid _ h.o (Sl.own kRU d.o) (by omega) hs);have j:=aa hno;have b:posM RU.rid l x.rid≤l.length:=List.countP_le_length;obtain ⟨i,f⟩:∃i,posM RU.rid l x.rid=i:=⟨_,rfl⟩;have n:=aa f;rw [f] at b;have Q:=ag ho;obtain ⟨n1,k1,rfl⟩:=Q;obtain ⟨N,hN⟩:∃N,(insL l i x).length=N:=⟨_,rfl⟩;have R:=aa hN;have C:=aa (aJ l i x b);clear hb ho hKv hs hno f hN;go_enter Tryz.func149,Tryz.ntmps149;go_wp2_with (go_at_call 186;refine G.o.mono ?_;rintro e w1 ⟨rfl,c1⟩;rw [n.o,j.o];have p:=aa (h.o.keep c1);have E:=aa (ah d.o c1);have J:=p.o.c 0;have z:=p.o.c 1)
 have F:=m.trans (c1.mono m.size);have P:decide (room≤(l.length:Int))=false:=dF (by omega);clear c1;go_quiet (fail)
 have s:=aa (show Blk (w1.drewN nq) g 191 #[.int .i64 room,.slice n1 l.length k1] from p.o);have q:=aa (show (w1.drewN nq).ownsRow B 268 2 (.slice n1 l.length k1) l.length (flat eRU l) from E.o);have I:=aj F nq;clear J z p E F P h d G j m;generalize w1.drewN nq=X at *;have O:=I.size;have z:=s.o.c 1;have D:=(s.o.alloc (.cells (cRU x) 268)).c 1;go_wp2_with (go_at_call 187;refine (ph B X.heap.size i _ l x _ (by exact q.o.alloc _) b (by simp;omega) (by omega) (by exact Blk.new X 268 (cRU x)) (fun k hk=>by have:=q.o.lt k hk;omega)).mono ?_;rintro e H ⟨v',rfl,a⟩;have t:RowNew (X.alloc (.cells (cRU x) 268)) H B 268 2 (.slice n1 l.length k1) v' (l.length+1) (flat eRU (insL l i x)):=⟨a.own,⟨a.grown.os,a.grown.tape,a.grown.output,a.grown.size,a.grown.block⟩,a.at_⟩;clear a;have u:=aa (Blk.grown (s.o.alloc _) (q.o.alloc _) t.grown (by decide));have r:=aa (pq (s.o.alloc _) (q.o.alloc _) (by rw [C.o];exact t) hB hKg y.o);have A:=ag t.own;obtain ⟨n3,k3,rfl⟩:=A;clear t;have L:=u.o.c 1;have M:=u.o.free 1)
 all_goals
  clear L M u z D;generalize (H.setCell ⟨g,1,none⟩ (.slice n3 (l.length+1) k3))=Y at *;go_wp2_with fail;go_ret;rw [n.o];exact ⟨.slice n3 (l.length+1) k3,rfl,r.o.blk,r.o.own,((ModT.below I).alloc _).trans r.o.mod,r.o.goes.later (by simp;omega)⟩
theorem pu {w w2:World}{B g:Nat}{cs:Array Value}{vl v':Value}{l l':List RT}{K:List Nat}(hb:Blk w g 188 cs)(ho:w.ownsRow B 163 7 vl l.length (flat eRT l))(hR:RowNew w w2 B 163 7 vl v' l'.length (flat eRT l'))
  (hB:B≤g) (hKg:g∉K) (hKv:∀k,vl.ownBlock=some k→k∉K):Grew eRT 7 163 w (w2.setCell ⟨g,1,none⟩ v') B g 188 cs 1 vl l' K v':=by
 have a:=hb.grown ho hR.grown (by decide);refine ⟨a.set 1 v',?_,(ModT.grown ho hR.grown (by simp) (zY _) hKv).trans (ModT.set a (by simp) hB hKg),?_⟩
 ·have:=aD a hR.own (by decide)
  exact au (w:=w2) hR.own (fun k hk=>An _ _ _ _ (this k hk))
 ·rcases hR.at_ with hat | ⟨k,h1,h2⟩
  ·exact Or.inl hat
  ·exact Or.inr ⟨k,h1,h2⟩
theorem pv (B g:Nat)(room:Int)(v:Value)(l:List RT)(x:RT)(K:List Nat)(w:World)(hb:Blk w g 188 #[.int .i64 room,v])(hB:B≤g)(hBw:B≤w.heap.size)(ho:w.ownsRow B 163 7 v l.length (flat eRT l))(hn:l.length≤100000)(hs:Rsg RT.rid l)(hKg:g∉K)(hKv:∀k,v.ownBlock=some k→k∉K)
  (hno:hasM RT.rid l x.rid=false) (hroom:(l.length:Int)<room) :
  Calls Tryz.prog 150 #[ptr g,.int .i64 x.rid,.agg #[.int .i64 x.id,.int .i64 x.byr,.int .i64 x.slr,.int .i64 x.sec,.int .i64 x.qty,.int .i64 x.prc]] w fun e w'=>∃v',e=.returned (.int .i64 0)∧Grew eRT 7 163 w w' B g 188 #[.int .i64 room,v] 1 v (insL l (posM RT.rid l x.rid) x) K v':=by
 have n:Bw w (w.alloc (.cells #[.int .i64 x.id,.int .i64 x.byr,.int .i64 x.slr,.int .i64 x.sec,.int .i64 x.qty,.int .i64 x.prc] 58)):=Bn;have h:=aa (hb.keep n);have d:=aa (ah ho n);have C:=aa hKv;have R:=aa (zm g v room l x.rid _ h.o (Sl.own kRT d.o) (by omega) hs);have p:=aa hno;have j:posM RT.rid l x.rid≤l.length:=List.countP_le_length;have J:=aa (Blk.new w 58 #[.int .i64 x.id,.int .i64 x.byr,.int .i64 x.slr,.int .i64 x.sec,.int .i64 x.qty,.int .i64 x.prc]);obtain ⟨i,f⟩:∃i,posM RT.rid l x.rid=i:=⟨_,rfl⟩;have q:=aa f;rw [f] at j;have hf:=ag ho;obtain ⟨n1,k1,rfl⟩:=hf;obtain ⟨N,hN⟩:∃N,(insL l i x).length=N:=⟨_,rfl⟩;have HN:=aa hN;have E:=aa (aJ l i x j);clear hb ho hKv hs hno f hN;go_enter Tryz.func150,Tryz.ntmps150;go_wp2_with (go_at_call 188;refine R.o.mono ?_;rintro e w1 ⟨rfl,c1⟩;rw [q.o,p.o];have s:=aa (h.o.keep c1);have M:=aa (ah d.o c1);have b:=aa (J.o.keep c1);have I:=b.o.c 0;have L:=b.o.c 1;have H:=b.o.c 2;have G:=b.o.c 3;have Q:=b.o.c 4;have O:=b.o.c 5;have p0:=s.o.c 0;have D:=s.o.c 1)
 have P:=n.trans (c1.mono n.size);have W:decide (room≤(l.length:Int))=false:=dF (by omega);clear c1;go_quiet (fail)
 have u:=aa (show Blk (w1.drewN nq) g 188 #[.int .i64 room,.slice n1 l.length k1] from s.o);have r:=aa (show (w1.drewN nq).ownsRow B 163 7 (.slice n1 l.length k1) l.length (flat eRT l) from M.o);have T:=aj P nq;have m:=aa (show Blk (w1.drewN nq) w.heap.size 58 #[.int .i64 x.id,.int .i64 x.byr,.int .i64 x.slr,.int .i64 x.sec,.int .i64 x.qty,.int .i64 x.prc] from b.o);clear p0 D s M P W h d R p n J b I L H G Q O;generalize w1.drewN nq=X at *;have Z:=T.size;have D:=u.o.c 1;have F:=(u.o.alloc (.cells (cRT x) 163)).c 1;have I:=m.o.c 0;have L:=m.o.c 1;have H:=m.o.c 2;have G:=m.o.c 3;have Q:=m.o.c 4;have O:=m.o.c 5;go_wp2_with fail;go_region_with (go_at_call 189;refine (pj B X.heap.size i _ l x _ (by exact r.o.alloc _) j (by simp;omega) (by omega) (by exact Blk.new X 163 (cRT x)) (fun k hk=>by have:=r.o.lt k hk;omega)).mono ?_;rintro e S ⟨v',rfl,a⟩;have y:RowNew (X.alloc (.cells (cRT x) 163)) S B 163 7 (.slice n1 l.length k1) v' (l.length+1) (flat eRT (insL l i x)):=⟨a.own,⟨a.grown.os,a.grown.tape,a.grown.output,a.grown.size,a.grown.block⟩,a.at_⟩;clear a;have z:=aa (Blk.grown (u.o.alloc _) (r.o.alloc _) y.grown (by decide));have t:=aa (pu (u.o.alloc _) (r.o.alloc _) (by rw [E.o];exact y) hB hKg C.o);have A:=ag y.own;obtain ⟨n3,k3,rfl⟩:=A;clear y;have U:=z.o.c 1;have V:=z.o.free 1)
 all_goals
  clear U V z D F;generalize (S.setCell ⟨g,1,none⟩ (.slice n3 (l.length+1) k3))=Y at *;go_wp2_with fail;go_ret;rw [q.o];exact ⟨.slice n3 (l.length+1) k3,rfl,t.o.blk,t.o.own,((ModT.below T).alloc _).trans t.o.mod,t.o.goes.later (by simp;omega)⟩
theorem iJ {w w2:World}{B g:Nat}{cs:Array Value}{vl v':Value}{l l':List RH}{K:List Nat}(hb:Blk w g 227 cs)(ho:w.ownsRow B 333 5 vl l.length (flat eRH l))(hR:RowNew w w2 B 333 5 vl v' l'.length (flat eRH l'))
  (hB:B≤g) (hKg:g∉K) (hKv:∀k,vl.ownBlock=some k→k∉K):Grew eRH 5 333 w (w2.setCell ⟨g,1,none⟩ v') B g 227 cs 1 vl l' K v':=by
 have a:=hb.grown ho hR.grown (by decide);refine ⟨a.set 1 v',?_,(ModT.grown ho hR.grown (by simp) (zY _) hKv).trans (ModT.set a (by simp) hB hKg),?_⟩
 ·have:=aD a hR.own (by decide)
  exact au (w:=w2) hR.own (fun k hk=>An _ _ _ _ (this k hk))
 ·rcases hR.at_ with hat | ⟨k,h1,h2⟩
  ·exact Or.inl hat
  ·exact Or.inr ⟨k,h1,h2⟩
theorem pw (B g:Nat)(room:Int)(v:Value)(l:List RH)(x:RH)(K:List Nat)(w:World)(hb:Blk w g 227 #[.int .i64 room,v])(hB:B≤g)(hBw:B≤w.heap.size)(ho:w.ownsRow B 333 5 v l.length (flat eRH l))(hn:l.length≤100000)(hs:Rsg RH.rid l)(hKg:g∉K)(hKv:∀k,v.ownBlock=some k→k∉K)
  (hno:hasM RH.rid l x.rid=false) (hroom:(l.length:Int)<room) :
  Calls Tryz.prog 310 #[ptr g,.int .i64 x.rid,.agg #[.int .i64 x.kind,.int .i64 x.mem,.int .i64 x.ass,.int .i64 x.amt]] w fun e w'=>∃v',e=.returned (.int .i64 0)∧Grew eRH 5 333 w w' B g 227 #[.int .i64 room,v] 1 v (insL l (posM RH.rid l x.rid) x) K v':=by
 have m:Bw w (w.alloc (.cells #[.int .i64 x.kind,.int .i64 x.mem,.int .i64 x.ass,.int .i64 x.amt] 182)):=Bn;have f:=aa (hb.keep m);have b:=aa (ah ho m);have C:=aa hKv;have P:=aa (mn g v room l x.rid _ f.o (Sl.own kRH b.o) (by omega) hs);have n:=aa hno;have h:posM RH.rid l x.rid≤l.length:=List.countP_le_length;have J:=aa (Blk.new w 182 #[.int .i64 x.kind,.int .i64 x.mem,.int .i64 x.ass,.int .i64 x.amt]);obtain ⟨i,d⟩:∃i,posM RH.rid l x.rid=i:=⟨_,rfl⟩;have p:=aa d;rw [d] at h;have Z:=ag ho;obtain ⟨n1,k1,rfl⟩:=Z;obtain ⟨N,hN⟩:∃N,(insL l i x).length=N:=⟨_,rfl⟩;have HN:=aa hN;have E:=aa (aJ l i x h);clear hb ho hKv hs hno d hN;go_enter Tryz.func310,Tryz.ntmps310;go_wp2_with (go_at_call 320;refine P.o.mono ?_;rintro e w1 ⟨rfl,c1⟩;rw [p.o,n.o];have r:=aa (f.o.keep c1);have M:=aa (ah b.o c1);have j:=aa (J.o.keep c1);have I:=j.o.c 0;have L:=j.o.c 1;have H:=j.o.c 2;have G:=j.o.c 3;have W:=r.o.c 0;have D:=r.o.c 1)
 have O:=m.trans (c1.mono m.size);have U:decide (room≤(l.length:Int))=false:=dF (by omega);clear c1;go_quiet (fail)
 have t:=aa (show Blk (w1.drewN nq) g 227 #[.int .i64 room,.slice n1 l.length k1] from r.o);have q:=aa (show (w1.drewN nq).ownsRow B 333 5 (.slice n1 l.length k1) l.length (flat eRH l) from M.o);have R:=aj O nq;have y:=aa (show Blk (w1.drewN nq) w.heap.size 182 #[.int .i64 x.kind,.int .i64 x.mem,.int .i64 x.ass,.int .i64 x.amt] from j.o);clear W D r M O U f b P n m J j I L H G;generalize w1.drewN nq=X at *;have V:=R.size;have D:=t.o.c 1;have F:=(t.o.alloc (.cells (cRH x) 333)).c 1;have I:=y.o.c 0;have L:=y.o.c 1;have H:=y.o.c 2;have G:=y.o.c 3;go_wp2_with fail;go_region_with (go_at_call 347;refine (po B X.heap.size i _ l x _ (by exact q.o.alloc _) h (by simp;omega) (by omega) (by exact Blk.new X 333 (cRH x)) (fun k hk=>by have:=q.o.lt k hk;omega)).mono ?_;rintro e Q ⟨v',rfl,a⟩;have u:RowNew (X.alloc (.cells (cRH x) 333)) Q B 333 5 (.slice n1 l.length k1) v' (l.length+1) (flat eRH (insL l i x)):=⟨a.own,⟨a.grown.os,a.grown.tape,a.grown.output,a.grown.size,a.grown.block⟩,a.at_⟩;clear a;have z:=aa (Blk.grown (t.o.alloc _) (q.o.alloc _) u.grown (by decide));have s:=aa (iJ (t.o.alloc _) (q.o.alloc _) (by rw [E.o];exact u) hB hKg C.o);have A:=ag u.own;obtain ⟨n3,k3,rfl⟩:=A;clear u;have S:=z.o.c 1;have T:=z.o.free 1)
 all_goals
  clear S T z D F;generalize (Q.setCell ⟨g,1,none⟩ (.slice n3 (l.length+1) k3))=Y at *;go_wp2_with fail;go_ret;rw [p.o];exact ⟨.slice n3 (l.length+1) k3,rfl,s.o.blk,s.o.own,((ModT.below R).alloc _).trans s.o.mod,s.o.goes.later (by simp;omega)⟩
theorem ModT.putN {B:Nat}{TS:List TypeId}{K:List Nat}{w X W:World}{g:Nat}{T:TypeId}{cs:Array Value}(h:ModT B TS K w X)(p:PutB X g T cs W)(hg:w.heap.size≤g):ModT B TS K w W:=
 ⟨p.mod.os.trans h.os,p.mod.tape.trans h.tape,p.mod.output.trans h.output,z5 h.size p.mod.size,fun k hk hc=>(p.far k (by omega)).trans (h.far k hk hc)⟩
theorem px (g:Nat)(room:Int)(v:Value)(l:List RH)(id:Int)(w:World)(hb:Blk w g 227 #[.int .i64 room,v])(hv:Sl eRH 5 w v l)(hn:l.length≤100000)(hs:Rsg RH.rid l)(hno:hasM RH.rid l id=false) :
  Calls Tryz.prog 261 #[ptr g,.int .i64 id] w fun e w'=>∃x:RH,e=.returned (.tuple #[.agg #[.int .i64 x.kind,.int .i64 x.mem,.int .i64 x.ass,.int .i64 x.amt],.int .i64 8])∧Bw w w':=by
 have b:Bw w (w.alloc (.cells #[.int .i64 0,.int .i64 0,.int .i64 0,.int .i64 0] 182)):=Bn;have q:=aa (iG g room v l id _ (hb.keep b) (hv.keep b) hn hs);have h:=aa (Blk.new w 182 #[.int .i64 0,.int .i64 0,.int .i64 0,.int .i64 0]);have d:=aa hno;clear hb hv hs hno;go_enter Tryz.func261,Tryz.ntmps261;go_wp2_with (first
  | (go_at_call 308;refine q.o.mono ?_;rintro e s ⟨x,rfl,_,f⟩;rw [d.o];have i:=b.trans (f.mono b.size);have k:=aa (h.o.keep f);clear f)
  | (refine aF rfl 182 _ _ rfl rfl w.heap.size #[.int .i64 x.kind,.int .i64 x.mem,.int .i64 x.ass,.int .i64 x.amt] rfl rfl (by kernel_rfl) (by simp [Value.oneCell']) _ (k.o.alloc _) rfl ?_;intro t a;have r:=aa a;have j:=a.row.c 0;have n:=a.row.c 1;have m:=a.row.c 2;have p:=a.row.c 3))
 refine bodyPost_ret (v:=.tuple #[.agg #[.int .i64 x.kind,.int .i64 x.mem,.int .i64 x.ass,.int .i64 x.amt],.int .i64 8]) (by simp [results,Tryz.results261,go_sem,j,n,m,p]) rfl ?_;exact ⟨x,rfl,r.o.low (i.alloc i.size _) (zY _)⟩
theorem mx (B g:Nat)(room:Int)(v:Value)(l:List RH)(id:Int)(K:List Nat)(w:World)(hb:Blk w g 227 #[.int .i64 room,v])(hB:B≤g)(hBw:B≤w.heap.size)(ho:w.ownsRow B 333 5 v l.length (flat eRH l))(hn:l.length≤100000)(hs:Rsg RH.rid l)(hKg:g∉K)(hKv:∀k,v.ownBlock=some k→k∉K)
  (hyes:hasM RH.rid l id=true) :
  Calls Tryz.prog 261 #[ptr g,.int .i64 id] w fun e w'=>∃(x:RH) (v':Value),e=.returned (.tuple #[.agg #[.int .i64 x.kind,.int .i64 x.mem,.int .i64 x.ass,.int .i64 x.amt],.int .i64 0])∧(x∈l∧x.rid=id)∧Grew eRH 5 333 w w' B g 227 #[.int .i64 room,v] 1 v (delL l (posM RH.rid l id)) K v':=by
 obtain ⟨G,_⟩:=iF l id hs hyes;have j:Bw w (w.alloc (.cells #[.int .i64 0,.int .i64 0,.int .i64 0,.int .i64 0] 182)):=Bn;have W:=aa hs;have a:g≠w.heap.size:=Nat.ne_of_lt hb.lt;have d:=aa (hb.keep j);have q:=aa (ah ho j);have F:=aa hKv;have T:=aa (iG g room v l id _ d.o (Sl.own kRH q.o) hn hs);have I:=aa (Blk.new w 182 #[.int .i64 0,.int .i64 0,.int .i64 0,.int .i64 0]);have f:=aa hyes;have hf:=ag ho;obtain ⟨n1,k1,rfl⟩:=hf;obtain ⟨i,hpi⟩:∃i,posM RH.rid l id=i:=⟨_,rfl⟩;have t:=aa hpi;rw [hpi] at G;have D:=aa (kh l i G);clear hb ho hs hyes hKv hpi;go_enter Tryz.func261,Tryz.ntmps261;go_wp2_with (first
  | (go_at_call 308;refine T.o.mono ?_;rintro e J ⟨x,rfl,C,h⟩;have C:=C f.o;rw [f.o];have O:=(j.trans (h.mono j.size)).alloc (j.trans (h.mono j.size)).size (.cells #[.int .i64 x.kind,.int .i64 x.mem,.int .i64 x.ass,.int .i64 x.amt] 182);have X:=aa ((I.o.keep h).alloc (.cells #[.int .i64 x.kind,.int .i64 x.mem,.int .i64 x.ass,.int .i64 x.amt] 182));have V1:=aa (Blk.new J 182 #[.int .i64 x.kind,.int .i64 x.mem,.int .i64 x.ass,.int .i64 x.amt]);have p:g≠J.heap.size:=Nat.ne_of_lt (d.o.keep h).lt;have M:=aa ((d.o.keep h).alloc (.cells #[.int .i64 x.kind,.int .i64 x.mem,.int .i64 x.ass,.int .i64 x.amt] 182));have N:=aa ((ah q.o h).alloc (.cells #[.int .i64 x.kind,.int .i64 x.mem,.int .i64 x.ass,.int .i64 x.amt] 182));have HF:=aa (mn g _ room l id _ M.o (Sl.own kRH N.o) (by omega) W.o);clear h)
  | (go_at_call 320;refine HF.o.mono ?_;rintro e Q ⟨rfl,m⟩;rw [t.o,f.o];have z:=aa (M.o.keep m);have u:=aa (ah N.o m);have R2:=aa (X.o.keep m);have U:=aa (V1.o.keep m);have p1:=z.o.c 1;have s:=O.trans (m.mono O.size);clear m)
  | (go_at_call 321;refine (delRH B i _ l _ u.o G (by omega)).mono ?_;rintro e w3 ⟨v',rfl,b⟩;have P:=aa (Blk.grown z.o u.o b.grown (by decide));have H:=aa (iJ (l':=delL l i) (K:=K) z.o u.o (by rw [D.o];exact b) hB hKg F.o);have L:=aa ((Blk.grown R2.o u.o b.grown (by decide)).far (k:=g) 1 v' (by exact fun e=>a e.symm));have y:=aa ((Blk.grown U.o u.o b.grown (by decide)).far (k:=g) 1 v' (by exact fun e=>p e.symm));have A:=ag b.own;obtain ⟨n3,k3,rfl⟩:=A;clear b;have r1:=P.o.c 1;have f1:=P.o.free 1;have v0:=y.o.c 0;have v1:=y.o.c 1;have v2:=y.o.c 2;have v3:=y.o.c 3)
  | (refine aF rfl 182 _ _ rfl rfl w.heap.size #[.int .i64 x.kind,.int .i64 x.mem,.int .i64 x.ass,.int .i64 x.amt] rfl rfl (by kernel_rfl) (by simp [Value.oneCell']) _ L.o rfl ?_;intro W5 n;have V:=aa n;have R:=n.row.c 0;have Y:=n.row.c 1;have Z:=n.row.c 2;have S:=n.row.c 3))
 refine bodyPost_ret (v:=.tuple #[.agg #[.int .i64 x.kind,.int .i64 x.mem,.int .i64 x.ass,.int .i64 x.amt],.int .i64 0]) (by simp [results,Tryz.results261,go_sem,R,Y,Z,S]) rfl ?_;rw [t.o];have r:=H.o;have b:=L.o;have E:=V.o;have M1:ModT B [227,333] K w Q:=ModT.below s;refine ⟨x,.slice n3 (l.length - 1) k3,rfl,C,?_,?_,(M1.trans r.mod).putN E (zY _),r.goes.later s.size⟩
 ·exact (E.far g a).trans r.blk
 ·exact au r.own fun k hk=>E.far k (aD b r.own (by decide) k hk)
theorem ModT.drewL {B:Nat}{TS:List TypeId}{K:List Nat}{w w':World}(n:Nat)(h:ModT B TS K (w.drewN n) w'):ModT B TS K w w':=⟨h.os,h.tape,h.output,h.size,h.far⟩
theorem wM (x:Tm)(B g:Nat)(room:Int)(v:Value)(l:List Tm)(K:List Nat)(w:World)(hb:Blk w g 150 #[.int .i64 room,v])(hB:B≤g)(hBw:B≤w.heap.size)(ho:w.ownsRow B 197 4 v l.length (flat eTm l))(hx:x∉l)(hr:(l.length:Int)<room)(hn:l.length≤1000)(hKg:g∉K)(hKv:∀k,v.ownBlock=some k→k∉K) :
  Calls Tryz.prog 101 #[ptr g,vTm x] w fun e w'=>∃v',e=.returned (.int .i64 0)∧Grew eTm 4 197 w w' B g 150 #[.int .i64 room,v] 1 v (l++[x]) K v':=by
 obtain ⟨i0,hi,O,H,L⟩:=info_parts fK;have p:Bw w (w.alloc (.cells (cTm x) 197)):=Bn;have n:=aa (Blk.new w 197 (cTm x));have m:=aa (hb.keep p);have j:=aa (ah ho p);have I:=aa hKv;have C:Hid (decide (x∈l)=false):=aa (dF hx);obtain ⟨n1,k1,rfl⟩:=ag ho;have F:(w.alloc (.cells (cTm x) 197)).cell? ⟨g,1,none⟩=some (.slice n1 l.length k1)∧(w.alloc (.cells (cTm x) 197)).cell? ⟨w.heap.size,0,none⟩=some (.int .i64 x.due)∧(w.alloc (.cells (cTm x) 197)).cell? ⟨w.heap.size,1,none⟩=some (.int .i64 x.kind)∧(w.alloc (.cells (cTm x) 197)).cell? ⟨w.heap.size,2,none⟩=some (.int .i64 x.mem)∧(w.alloc (.cells (cTm x) 197)).cell? ⟨w.heap.size,3,none⟩=some (.int .i64 x.level):=⟨m.o.c 1,n.o.c 0,n.o.c 1,n.o.c 2,n.o.c 3⟩;clear hb ho hKv hx;go_enter Tryz.func101,Tryz.ntmps101;go_wp2_with fail;dsimp only [cTm] at p n m j F;generalize G:w.alloc (.cells #[.int .i64 x.due,.int .i64 x.kind,.int .i64 x.mem,.int .i64 x.level] 197)=W0 at *;clear G;go_region_held3 (fun W=>W.cell? ⟨g,1,none⟩=some (.slice n1 l.length k1)∧W.cell? ⟨w.heap.size,0,none⟩=some (.int .i64 x.due)∧W.cell? ⟨w.heap.size,1,none⟩=some (.int .i64 x.kind)∧W.cell? ⟨w.heap.size,2,none⟩=some (.int .i64 x.mem)∧W.cell? ⟨w.heap.size,3,none⟩=some (.int .i64 x.level)) (first | exact F | assumption | go_keep)
  (first | (go_at_call 142;refine (jt _ l x _ (Sl.own kTm j.o).d (by omega)).mono ?_;rintro e h ⟨rfl,s⟩;rw [C.o];have r:=aa (m.o.keepD s);have q:=aa (n.o.keepD s);have S:=aa (bD j.o s);have R:Bw w h:=(aB p s p.size);have E:h.cell? ⟨g,1,none⟩=some (.slice n1 l.length k1)∧h.cell? ⟨w.heap.size,0,none⟩=some (.int .i64 x.due)∧h.cell? ⟨w.heap.size,1,none⟩=some (.int .i64 x.kind)∧h.cell? ⟨w.heap.size,2,none⟩=some (.int .i64 x.mem)∧h.cell? ⟨w.heap.size,3,none⟩=some (.int .i64 x.level):=⟨r.o.c 1,q.o.c 0,q.o.c 1,q.o.c 2,q.o.c 3⟩))
 rename_i i
 clear i E F s;have U:=r.o.c 0;have P:=r.o.c 1;have hd:decide (room≤(l.length:Int))=false:=dF (by omega);go_wp2_with fail;go_quiet (fail)
 have y:=aa (show Blk (h.drewN nq) g 150 #[.int .i64 room,.slice n1 l.length k1] from r.o);have u:=aa (show Blk (h.drewN nq) w.heap.size 197 #[.int .i64 x.due,.int .i64 x.kind,.int .i64 x.mem,.int .i64 x.level] from q.o);have A:=aa (show (h.drewN nq).ownsRow B 197 4 (.slice n1 l.length k1) l.length (flat eTm l) from S.o);have T:=aj R nq;clear U P r q S R hd n m j p;generalize h.drewN nq=X at *;have ab:=T.size;have P:=y.o.c 1;have a0:=u.o.c 0;have a1:=u.o.c 1;have a2:=u.o.c 2;have a3:=u.o.c 3;have J:=(y.o.alloc (.cells (cTm x) 197)).c 1;obtain ⟨N,Q⟩:∃N,(l++[x]).length=N:=⟨_,rfl⟩;have M:=aa Q;clear Q;go_wp2_with fail
 go_region_law ((refine aS kTm (by decide) oneTm _ (by rfl) _ _ 148 (by rfl) B 197 i0 (.agg #[.int .i64 0,.int .i64 0,.int .i64 0,.int .i64 0]) 32 Tryz.underlying148 hi O H L (by rfl) (.slice n1 l.length k1) l (by rfl) (by exact A.o.alloc _) (some ⟨X.heap.size,0,none⟩) 1 1 [x] (by rfl) (by rfl) (by exact Sl.oneTm _ x) (by simp only [Ai];unfold maxLen;omega) (by simp only [Ai];omega) (by simp;omega) ?_;intro v' w2 f a t;have z:=aa (bU (w:=X.alloc (.cells (cTm x) 197)) (off:=1) (K:=K) (y.o.alloc _) (by exact A.o.alloc _) (by exact ⟨a.os,a.tape,a.output,a.size,a.block⟩) f (by exact t) (by decide) hB hKg I.o);have D:=aa (Blk.grown (w:=X.alloc (.cells (cTm x) 197)) (y.o.alloc _) (by exact A.o.alloc _) (by exact ⟨a.os,a.tape,a.output,a.size,a.block⟩) (by decide));have b:=f;rw [M.o] at b;obtain ⟨n3,k3,rfl⟩:=ag b;clear b;have V:=D.o.c 1;have Z:=D.o.free 1))
 all_goals
  clear a t f V Z D P J a0 a1 a2 a3;generalize (w2.setCell ⟨g,1,none⟩ (.slice n3 N k3))=Y at *;go_wp2_with fail;go_ret;refine ⟨.slice n3 N k3,rfl,z.o.blk,z.o.own,((ModT.below T).alloc _).trans z.o.mod,z.o.goes.later (by simp;omega)⟩
theorem sy {ms na:Nat}{bal:List Int}(h:All64 bal)(a:Ac)(ass:Int):In64 (balM ms na bal a ass).1:=by
 unfold balM;split
 ·dsimp only;rw [Ah];cases hq:bal[(plM ms na a ass).1.toNat]? with
  | none=>decide
  | some x=>
   obtain ⟨b,rfl⟩:=AA.1 hq;exact h _ (Ag b)
 ·decide
def unheldM (ms na:Nat)(hlds:List RH)(bal:List Int)(a:Ac)(ass:Int):Int×Int:=
 if (balM ms na bal a ass).2≠0 then (0,(balM ms na bal a ass).2) else fitM ((balM ms na bal a ass).1 - heldM hlds a ass)
theorem fY (B gv gb gh:Nat)(vb vh:Value)(ms na:Nat)(hms:ms≤16)(hna:na≤9)(bal:List Int)(hl:bal.length=na * (6+3 * ms))(pst room:Int)(hlds:List RH)(a:Ac)(ass:Int)(w:World)
  (hV:VtA w B gv gb gh vb vh ms na bal pst room hlds) :
  Calls Tryz.prog 89 #[ptr gv,aval a,.int .i64 ass] w fun e w'=>e=.returned (.tuple #[.int .i64 (balM ms na bal a ass).1,.int .i64 (balM ms na bal a ass).2])∧Bw w w':=
 zd gv gb #[ptr gb,ptr gh] rfl a ass _ _ w hV.blk (fun W hW=>fO B gb vb ms na bal pst hms hna hl a ass W (hV.book.keep hW))
theorem bF (B gv gb gh:Nat)(vb vh:Value)(ms na:Nat)(hms:ms≤16)(hna:na≤9)(bal:List Int)(hl:bal.length=na * (6+3 * ms))(hbl:All64 bal)(pst room:Int)(hlds:List RH)(hn:hlds.length≤1000)(a:Ac)(ass:Int)(w:World)
  (hV:VtA w B gv gb gh vb vh ms na bal pst room hlds) :
  Calls Tryz.prog 307 #[ptr gv,aval a,.int .i64 ass] w fun e w'=>e=.returned (.tuple #[.int .i64 (unheldM ms na hlds bal a ass).1,.int .i64 (unheldM ms na hlds bal a ass).2])∧Bw w w':=by
 have g:=sy (ms:=ms) (na:=na) hbl a ass;have p:=wI hlds a ass;obtain ⟨⟨n,q⟩,b⟩:∃r,balM ms na bal a ass=r:=⟨_,rfl⟩;obtain ⟨hh,hhm⟩:∃r,heldM hlds a ass=r:=⟨_,rfl⟩;have l:=aa b;have x:=aa hhm;have s:Hid (unheldM ms na hlds bal a ass=if q≠0 then (0,q) else fitM (n - hh)):=aa (by unfold unheldM;rw [b,hhm]);rw [b] at g;rw [hhm] at p;dsimp only at g;obtain ⟨k,m⟩:=a;have j:Bw w (w.alloc (.cells (acs ⟨k,m⟩) 81)):=Bn;have A:=aa (hV.keep j);have F:=aa (Blk.new w 81 (acs ⟨k,m⟩));have z:=aa (fY B gv gb gh vb vh ms na hms hna bal hl pst room hlds ⟨k,m⟩ ass _ A.o);clear hV b hhm;by_cases her:q=0
 ·subst her;obtain ⟨⟨E,G⟩,y⟩:∃r,fitM (n - hh)=r:=⟨_,rfl⟩;have d:Hid (unheldM ms na hlds bal ⟨k,m⟩ ass=(E,G)):=aa (by rw [s.o,if_neg (by simp),y]);have I:=aa y;clear s y;go_enter Tryz.func307,Tryz.ntmps307;go_wp2_with (first
   | (go_at_call 89;refine z.o.mono ?_;rintro e D ⟨rfl,i⟩;rw [l.o];have t:=j.trans (i.mono j.size);have f:=aa (A.o.keep i);have h:=F.o.keep i;have K:=h.c 0;have M:=h.c 1;clear i h)
   | (go_at_call 228;refine (ke gv gb gh vh room hlds ⟨k,m⟩ ass _ f.o.blk f.o.hblk (Sl.own kRH f.o.hown) hn).mono ?_;rintro e J ⟨rfl,C⟩;rw [x.o];have v:=t.trans (C.mono t.size);clear C)
   | (go_at_call 204;refine (fz n hh g p _).mono ?_;rintro e L ⟨rfl,u⟩;rw [I.o];try subst u))
  go_ret2;exact ⟨by rw [d.o];rfl,v⟩
 ·have H:(q != 0)=true:=by simpa using her
  have d:Hid (unheldM ms na hlds bal ⟨k,m⟩ ass=(0,q)):=aa (by rw [s.o,if_pos her]);clear s her;go_enter Tryz.func307,Tryz.ntmps307;go_wp2_with (go_at_call 89;refine z.o.mono ?_;rintro e D ⟨rfl,i⟩;rw [l.o];have t:=j.trans (i.mono j.size))
  go_ret2;exact ⟨by rw [d.o];rfl,t⟩
def vplaceM (ms na:Nat)(room:Int)(hlds:List RH)(bal:List Int)(h:RH):Int×List RH:=
 if h.amt<0∨freeM ⟨h.kind,h.mem⟩=true then (1,hlds)
 else if (unheldM ms na hlds bal ⟨h.kind,h.mem⟩ h.ass).2≠0 then ((unheldM ms na hlds bal ⟨h.kind,h.mem⟩ h.ass).2,hlds)
 else if hasM RH.rid hlds h.rid=true then (7,hlds)
 else if room≤hlds.length then (6,hlds)
 else if (unheldM ms na hlds bal ⟨h.kind,h.mem⟩ h.ass).1<h.amt then (13,hlds)
 else (0,insL hlds (posM RH.rid hlds h.rid) h)
def HPost (B gv gb gh:Nat)(vb:Value)(ms na:Nat)(bal:List Int)(pst room:Int)(K:List Nat)(vh:Value)(r:Int×List RH)(w:World)(e:Ending)(w':World):Prop:=
 ∃vh',e=.returned (.int .i64 r.1)∧VtA w' B gv gb gh vb vh' ms na bal pst room r.2∧ModT B [227,333] K w w'∧Goes w vh vh'
theorem Blk.d {w wd:World}{g:Nat}{T:TypeId}{cs:Array Value}(h:Blk w g T cs)(e:wd.heap=w.heap:=by rfl):Blk wd g T cs:=by unfold Blk;rw [e];exact h
theorem be {w wd:World}{base:Nat}{e:TypeId}{size:Nat}{v:Value}{n:Nat}{xs:List Value}(h:w.ownsRow base e size v n xs)(eh:wd.heap=w.heap:=by rfl):wd.ownsRow base e size v n xs:=au h fun k hk=>by rw [eh]
theorem VtA.d {w wd:World}{B gv gb gh:Nat}{vb vh:Value}{ms na:Nat}{bal:List Int}{pst room:Int}{hlds:List RH}(h:VtA w B gv gb gh vb vh ms na bal pst room hlds)(e:wd.heap=w.heap:=by rfl):VtA wd B gv gb gh vb vh ms na bal pst room hlds:=
 ⟨h.blk.d e,⟨h.book.blk.d e,be h.book.own e⟩,h.hblk.d e,be h.hown e,h.l1,h.l2,h.l3⟩
theorem HPost.same {B gv gb gh:Nat}{vb vh:Value}{ms na:Nat}{bal:List Int}{pst room:Int}{hlds:List RH}{K:List Nat}{n:Int}{w w':World}(hV:VtA w B gv gb gh vb vh ms na bal pst room hlds)(c:Bw w w'):HPost B gv gb gh vb ms na bal pst room K vh (n,hlds) w (.returned (.int .i64 n)) w':=
 ⟨vh,rfl,hV.keep c,ModT.below c,Or.inl rfl⟩
theorem VtA.grew {w w':World}{B gv gb gh:Nat}{vb vh vh':Value}{ms na:Nat}{bal:List Int}{pst room:Int}{hlds l:List RH}{K:List Nat}(hV:VtA w B gv gb gh vb vh ms na bal pst room hlds)(h:Grew eRH 5 333 w w' B gh 227 #[.int .i64 room,vh] 1 vh l K vh'):VtA w' B gv gb gh vb vh' ms na bal pst room l:=
 ⟨hV.blk.modT h.mod (by decide),⟨hV.book.blk.modT h.mod (by decide),ai hV.book.own h.mod (by decide)⟩,h.blk,h.own,hV.l1,hV.l2,hV.l3⟩
theorem ki (B gv gb gh:Nat)(vb vh:Value)(ms na:Nat)(hms:ms≤16)(hna:na≤9)(bal:List Int)(hl:bal.length=na * (6+3 * ms))(hbl:All64 bal)(pst room:Int)(hroom:room≤1000)(hlds:List RH)(hn:(hlds.length:Int)≤room)(hs:Rsg RH.rid hlds)(h:RH)(K:List Nat)(w:World)
  (hV:VtA w B gv gb gh vb vh ms na bal pst room hlds) (hKg:gh∉K) (hKv:∀k,vh.ownBlock=some k→k∉K) (hBw:B≤w.heap.size) :
  Calls Tryz.prog 251 #[ptr gv,.int .i64 h.rid,.agg #[.int .i64 h.kind,.int .i64 h.mem,.int .i64 h.ass,.int .i64 h.amt]] w (HPost B gv gb gh vb ms na bal pst room K vh (vplaceM ms na room hlds bal h) w):=by
 obtain ⟨n,k,m,ass,amt⟩:=h;obtain ⟨⟨free,er⟩,hu⟩:∃r,unheldM ms na hlds bal ⟨k,m⟩ ass=r:=⟨_,rfl⟩;obtain ⟨fr,hfr⟩:∃r,freeM ⟨k,m⟩=r:=⟨_,rfl⟩;obtain ⟨hs7,hh7⟩:∃r,hasM RH.rid hlds n=r:=⟨_,rfl⟩;have M:=aa hu;have z:=aa hfr;have E:=aa hh7;have j:Hid (vplaceM ms na room hlds bal ⟨n,k,m,ass,amt⟩=if amt<0∨fr=true then (1,hlds) else if er≠0 then (er,hlds) else if hs7=true then (7,hlds) else if room≤hlds.length then (6,hlds) else if free<amt then (13,hlds) else (0,insL hlds (posM RH.rid hlds n) ⟨n,k,m,ass,amt⟩)):=aa (by unfold vplaceM;dsimp only;rw [hu,hfr,hh7]);obtain ⟨W1,hW1⟩:∃W1,W1=w.alloc (.cells #[.int .i64 k,.int .i64 m,.int .i64 ass,.int .i64 amt] 182):=⟨_,rfl⟩;have t:Bw w W1:=by rw [hW1];exact Bn
 have A:Blk W1 w.heap.size 182 #[.int .i64 k,.int .i64 m,.int .i64 ass,.int .i64 amt]:=by rw [hW1];exact Blk.new _ _ _
 have b0:=A.c 0;have b1:=A.c 1;have b2:=A.c 2;have b3:=A.c 3;have C:∀W:World,Bw W (W.alloc (.cells (acs ⟨k,m⟩) 81)):=fun W=>Bn
 have L:=aa A;have v:=aa hV;have J:=aa (hV.keep t);have D:=aa hs;have ac:=aa hKv;clear hu hfr hh7 A hV hs hKv;have H:∀(x:RH) (W:World),Bw W (W.alloc (.cells #[.int .i64 x.kind,.int .i64 x.mem,.int .i64 x.ass,.int .i64 x.amt] 182)):=fun x W=>Bn
 subst hW1;dsimp only;by_cases hneg:amt<0
 ·have hd:=dT hneg;have y:Hid (vplaceM ms na room hlds bal ⟨n,k,m,ass,amt⟩=(1,hlds)):=aa (by rw [j.o,if_pos (Or.inl hneg)]);have ab:=aa t;clear j hneg t;go_enter Tryz.func251,Tryz.ntmps251;go_wp2_with fail;go_ret;rw [y.o];exact HPost.same v.o ab.o
 have hd:=dF hneg;cases fr with
 | true=>
  have y:Hid (vplaceM ms na room hlds bal ⟨n,k,m,ass,amt⟩=(1,hlds)):=aa (by rw [j.o,if_pos (Or.inr rfl)]);clear j hneg;go_enter Tryz.func251,Tryz.ntmps251;go_wp2_with (first | (go_at_call 227;refine (aU ⟨k,m⟩ _).mono ?_;rintro e R ⟨rfl,rfl⟩;rw [z.o];have s:=t.alloc t.size (.cells (acs ⟨k,m⟩) 81);have g:=aa (J.o.keep (C _));have a:=aa (L.o.keep (C _));have N:=a.o.c 0;have P:=a.o.c 1;have Q:=a.o.c 2;have T:=a.o.c 3))
  go_ret;rw [y.o];exact HPost.same v.o s
 | false=>
 by_cases her:er=0
 case neg=>
  have ae:(er != 0)=true:=by simpa using her
  have y:Hid (vplaceM ms na room hlds bal ⟨n,k,m,ass,amt⟩=(er,hlds)):=aa (by rw [j.o,if_neg (by simpa using hneg),if_pos her]);clear j hneg her;go_enter Tryz.func251,Tryz.ntmps251;go_wp2_with (first | (go_at_call 227;refine (aU ⟨k,m⟩ _).mono ?_;rintro e R ⟨rfl,rfl⟩;rw [z.o];have s:=t.alloc t.size (.cells (acs ⟨k,m⟩) 81);have g:=aa (J.o.keep (C _));have a:=aa (L.o.keep (C _));have N:=a.o.c 0;have P:=a.o.c 1;have Q:=a.o.c 2;have T:=a.o.c 3) | (go_at_call 307;refine (bF B gv gb gh vb vh ms na hms hna bal hl hbl pst room hlds (by omega) ⟨k,m⟩ ass _ g.o).mono ?_;rintro e x4 ⟨rfl,c4⟩;rw [M.o];have b:=aa (g.o.keep c4);have q:=aa (a.o.keep c4);have l:=s.trans (c4.mono s.size);have U:=b.o.blk.c 1;clear c4))
  go_ret;rw [y.o];exact HPost.same v.o l
 subst her;cases hs7 with
 | true=>
  have y:Hid (vplaceM ms na room hlds bal ⟨n,k,m,ass,amt⟩=(7,hlds)):=aa (by rw [j.o,if_neg (by simpa using hneg)];simp);clear j hneg;go_enter Tryz.func251,Tryz.ntmps251;go_wp2_with (first | (go_at_call 227;refine (aU ⟨k,m⟩ _).mono ?_;rintro e R ⟨rfl,rfl⟩;rw [z.o];have s:=t.alloc t.size (.cells (acs ⟨k,m⟩) 81);have g:=aa (J.o.keep (C _));have a:=aa (L.o.keep (C _));have N:=a.o.c 0;have P:=a.o.c 1;have Q:=a.o.c 2;have T:=a.o.c 3) | (go_at_call 307;refine (bF B gv gb gh vb vh ms na hms hna bal hl hbl pst room hlds (by omega) ⟨k,m⟩ ass _ g.o).mono ?_;rintro e x4 ⟨rfl,c4⟩;rw [M.o];have b:=aa (g.o.keep c4);have q:=aa (a.o.keep c4);have l:=s.trans (c4.mono s.size);have U:=b.o.blk.c 1;clear c4) | (go_at_call 308;refine (iG gh room vh hlds n _ b.o.hblk (Sl.own kRH b.o.hown) (by omega) D.o).mono ?_;rintro e x6 ⟨x,rfl,_,c6⟩;rw [E.o];have f:=aa ((b.o.keep c6).keep (H x _));have u:=aa ((q.o.keep c6).keep (H x _));have F:=(l.trans (c6.mono l.size)).alloc (l.trans (c6.mono l.size)).size (.cells #[.int .i64 x.kind,.int .i64 x.mem,.int .i64 x.ass,.int .i64 x.amt] 182);have p2:=f.o.blk.c 1;clear c6))
  go_ret;rw [y.o];exact HPost.same v.o F
 | false=>
 by_cases hful:room≤hlds.length
 ·have y:Hid (vplaceM ms na room hlds bal ⟨n,k,m,ass,amt⟩=(6,hlds)):=aa (by rw [j.o,if_neg (by simpa using hneg)];simp [hful]);have hz:(room - (hlds.length:Int)==0)=true:=by simp;omega
  clear j hneg hful;go_enter Tryz.func251,Tryz.ntmps251;go_wp2_with (first | (go_at_call 227;refine (aU ⟨k,m⟩ _).mono ?_;rintro e R ⟨rfl,rfl⟩;rw [z.o];have s:=t.alloc t.size (.cells (acs ⟨k,m⟩) 81);have g:=aa (J.o.keep (C _));have a:=aa (L.o.keep (C _));have N:=a.o.c 0;have P:=a.o.c 1;have Q:=a.o.c 2;have T:=a.o.c 3) | (go_at_call 307;refine (bF B gv gb gh vb vh ms na hms hna bal hl hbl pst room hlds (by omega) ⟨k,m⟩ ass _ g.o).mono ?_;rintro e x4 ⟨rfl,c4⟩;rw [M.o];have b:=aa (g.o.keep c4);have q:=aa (a.o.keep c4);have l:=s.trans (c4.mono s.size);have U:=b.o.blk.c 1;clear c4) | (go_at_call 308;refine (iG gh room vh hlds n _ b.o.hblk (Sl.own kRH b.o.hown) (by omega) D.o).mono ?_;rintro e x6 ⟨x,rfl,_,c6⟩;rw [E.o];have f:=aa ((b.o.keep c6).keep (H x _));have u:=aa ((q.o.keep c6).keep (H x _));have F:=(l.trans (c6.mono l.size)).alloc (l.trans (c6.mono l.size)).size (.cells #[.int .i64 x.kind,.int .i64 x.mem,.int .i64 x.ass,.int .i64 x.amt] 182);have p2:=f.o.blk.c 1;clear c6) | (go_at_call 309;refine (mo gh vh room hlds _ f.o.hblk (Sl.own kRH f.o.hown) (by omega) (by omega)).mono ?_;rintro e x8 ⟨rfl,c8⟩;have p:=aa (f.o.keep c8);have i:=aa (u.o.keep c8);have I:=F.trans (c8.mono F.size);have p3:=p.o.blk.c 1;have e0:=i.o.c 0;have e1:=i.o.c 1;have Y:=i.o.c 2;have V:=i.o.c 3;clear c8))
  go_ret;rw [y.o];exact HPost.same v.o I
 have hz:(room - (hlds.length:Int)==0)=false:=by simp;omega
 by_cases hmuch:free<amt
 ·have y:Hid (vplaceM ms na room hlds bal ⟨n,k,m,ass,amt⟩=(13,hlds)):=aa (by rw [j.o,if_neg (by simpa using hneg)];simp [hful,hmuch]);have X:=dT hmuch;clear j hneg hful;go_enter Tryz.func251,Tryz.ntmps251
  go_wp2_with (first | (go_at_call 227;refine (aU ⟨k,m⟩ _).mono ?_;rintro e R ⟨rfl,rfl⟩;rw [z.o];have s:=t.alloc t.size (.cells (acs ⟨k,m⟩) 81);have g:=aa (J.o.keep (C _));have a:=aa (L.o.keep (C _));have N:=a.o.c 0;have P:=a.o.c 1;have Q:=a.o.c 2;have T:=a.o.c 3) | (go_at_call 307;refine (bF B gv gb gh vb vh ms na hms hna bal hl hbl pst room hlds (by omega) ⟨k,m⟩ ass _ g.o).mono ?_;rintro e x4 ⟨rfl,c4⟩;rw [M.o];have b:=aa (g.o.keep c4);have q:=aa (a.o.keep c4);have l:=s.trans (c4.mono s.size);have U:=b.o.blk.c 1;clear c4) | (go_at_call 308;refine (iG gh room vh hlds n _ b.o.hblk (Sl.own kRH b.o.hown) (by omega) D.o).mono ?_;rintro e x6 ⟨x,rfl,_,c6⟩;rw [E.o];have f:=aa ((b.o.keep c6).keep (H x _));have u:=aa ((q.o.keep c6).keep (H x _));have F:=(l.trans (c6.mono l.size)).alloc (l.trans (c6.mono l.size)).size (.cells #[.int .i64 x.kind,.int .i64 x.mem,.int .i64 x.ass,.int .i64 x.amt] 182);have p2:=f.o.blk.c 1;clear c6) | (go_at_call 309;refine (mo gh vh room hlds _ f.o.hblk (Sl.own kRH f.o.hown) (by omega) (by omega)).mono ?_;rintro e x8 ⟨rfl,c8⟩;have p:=aa (f.o.keep c8);have i:=aa (u.o.keep c8);have I:=F.trans (c8.mono F.size);have p3:=p.o.blk.c 1;have e0:=i.o.c 0;have e1:=i.o.c 1;have Y:=i.o.c 2;have V:=i.o.c 3;clear c8))
  go_ret;rw [y.o];exact HPost.same v.o I
 have y:Hid (vplaceM ms na room hlds bal ⟨n,k,m,ass,amt⟩=(0,insL hlds (posM RH.rid hlds n) ⟨n,k,m,ass,amt⟩)):=aa (by rw [j.o,if_neg (by simpa using hneg)];simp [hful,hmuch]);have X:=dF hmuch;have O:(hlds.length:Int)<room:=by omega
 clear j hneg hful hmuch;go_enter Tryz.func251,Tryz.ntmps251;go_wp2_with (first | (go_at_call 227;refine (aU ⟨k,m⟩ _).mono ?_;rintro e R ⟨rfl,rfl⟩;rw [z.o];have s:=t.alloc t.size (.cells (acs ⟨k,m⟩) 81);have g:=aa (J.o.keep (C _));have a:=aa (L.o.keep (C _));have N:=a.o.c 0;have P:=a.o.c 1;have Q:=a.o.c 2;have T:=a.o.c 3) | (go_at_call 307;refine (bF B gv gb gh vb vh ms na hms hna bal hl hbl pst room hlds (by omega) ⟨k,m⟩ ass _ g.o).mono ?_;rintro e x4 ⟨rfl,c4⟩;rw [M.o];have b:=aa (g.o.keep c4);have q:=aa (a.o.keep c4);have l:=s.trans (c4.mono s.size);have U:=b.o.blk.c 1;clear c4) | (go_at_call 308;refine (iG gh room vh hlds n _ b.o.hblk (Sl.own kRH b.o.hown) (by omega) D.o).mono ?_;rintro e x6 ⟨x,rfl,_,c6⟩;rw [E.o];have f:=aa ((b.o.keep c6).keep (H x _));have u:=aa ((q.o.keep c6).keep (H x _));have F:=(l.trans (c6.mono l.size)).alloc (l.trans (c6.mono l.size)).size (.cells #[.int .i64 x.kind,.int .i64 x.mem,.int .i64 x.ass,.int .i64 x.amt] 182);have p2:=f.o.blk.c 1;clear c6) | (go_at_call 309;refine (mo gh vh room hlds _ f.o.hblk (Sl.own kRH f.o.hown) (by omega) (by omega)).mono ?_;rintro e x8 ⟨rfl,c8⟩;have p:=aa (f.o.keep c8);have i:=aa (u.o.keep c8);have I:=F.trans (c8.mono F.size);have p3:=p.o.blk.c 1;have e0:=i.o.c 0;have e1:=i.o.c 1;have Y:=i.o.c 2;have V:=i.o.c 3;clear c8))
 have Z:hasM RH.rid hlds n=false:=E.o;go_region_held3 (fun W=>W.cell? ⟨gv,1,none⟩=some (ptr gh)∧W.cell? ⟨w.heap.size,0,none⟩=some (.int .i64 k)∧W.cell? ⟨w.heap.size,1,none⟩=some (.int .i64 m)∧W.cell? ⟨w.heap.size,2,none⟩=some (.int .i64 ass)∧W.cell? ⟨w.heap.size,3,none⟩=some (.int .i64 amt)) (first | exact ⟨p3,e0,e1,Y,V⟩ | exact ⟨p4,g0,g1,g2,g3⟩ | assumption | go_keep)
  (first | (go_at_call 310;refine (pw B gh room vh hlds ⟨n,k,m,ass,amt⟩ K _ (by exact p.o.hblk) p.o.l3 (by exact z5 hBw I.size) (by exact p.o.hown) (by omega) D.o hKg ac.o Z O).mono ?_;rintro e x9 ⟨v',rfl,hG⟩;have S:=aa (VtA.grew p.o.d hG);have G:=aa (Blk.modT (show Blk x8.drew w.heap.size 182 _ from i.o) hG.mod (by decide));have HG:=aa hG;have p4:=S.o.blk.c 1;have g0:=G.o.c 0;have g1:=G.o.c 1;have g2:=G.o.c 2;have g3:=G.o.c 3;have ad:=And.intro p4 (And.intro g0 (And.intro g1 (And.intro g2 g3)))))
 go_wp2_with fail;go_ret;rw [y.o];exact ⟨v',rfl,S.o,(ModT.below I).trans (ModT.drewL 1 HG.o.mod),HG.o.goes.later I.size⟩
def vdropM (hlds:List RH)(id:Int):Int×List RH:=if hasM RH.rid hlds id=true then (0,delL hlds (posM RH.rid hlds id)) else (8,hlds)
theorem kj (B gv gb gh:Nat)(vb vh:Value)(ms na:Nat)(bal:List Int)(pst room:Int)(hlds:List RH)(hn:hlds.length≤1000)(hs:Rsg RH.rid hlds)(id:Int)(K:List Nat)(w:World)
  (hV:VtA w B gv gb gh vb vh ms na bal pst room hlds) (hKg:gh∉K) (hKv:∀k,vh.ownBlock=some k→k∉K) (hBw:B≤w.heap.size) :
  Calls Tryz.prog 211 #[ptr gv,.int .i64 id] w (HPost B gv gb gh vb ms na bal pst room K vh (vdropM hlds id) w):=by
 have l:=hV.blk.c 1;have h:=aa hV;cases hh:hasM RH.rid hlds id with
 | true=>
  have b:=aa (mx B gh room vh hlds id K w hV.hblk hV.l3 hBw hV.hown (by omega) hs hKg hKv hh);have d:Hid (vdropM hlds id=(0,delL hlds (posM RH.rid hlds id))):=aa (by unfold vdropM;rw [if_pos hh]);clear hV hs hKv hh;go_enter Tryz.func211,Tryz.ntmps211;go_wp2_with (go_at_call 261;refine b.o.mono ?_;rintro e g ⟨x,j,rfl,_,i⟩;have f:=aa i;clear i)
  go_ret;rw [d.o];have a:∀o,Bw g (g.alloc o):=fun o=>Bn
  exact ⟨j,rfl,(h.o.grew f.o).keep (a _),f.o.mod.trans (ModT.below (a _)),f.o.goes⟩
 | false=>
  have b:=aa (px gh room vh hlds id w hV.hblk (Sl.own kRH hV.hown) (by omega) hs hh);have d:Hid (vdropM hlds id=(8,hlds)):=aa (by unfold vdropM;rw [if_neg (by rw [hh];decide)]);clear hV hs hKv hh;go_enter Tryz.func211,Tryz.ntmps211;go_wp2_with (go_at_call 261;refine b.o.mono ?_;rintro e g ⟨x,rfl,a⟩)
  go_ret;rw [d.o];exact HPost.same h.o (a.alloc a.size _)
theorem Sl.oneK (w:World)(T:TypeId)(n:Int)(b:Nat)(hb:w.heap.size=b):Sl eI 1 (w.alloc (.cells #[.int .i64 n] T)) (.slice (some ⟨b,0,none⟩) 1 1) [n]:=by
 subst hb;refine ⟨some ⟨w.heap.size,0,none⟩,1,rfl,(fun h=>by cases h),by simp,by unfold maxLen;omega,fun _=>⟨w.heap.size,0,rfl,by simp,fun i hi j u hu=>?_⟩⟩;have d:i=0:=by simpa using hi
 subst d;have a:j=0:=by
  have:=(AA.1 hu).1
  simpa [eI] using this
 subst a;have:=(Blk.new w T #[.int .i64 n]).c 0
 simp [eI] at hu
 subst hu;simp
theorem py (B gv gb gh:Nat)(vb vh:Value)(ms na:Nat)(bal:List Int)(pst room:Int)(hlds:List RH)(hn:hlds.length≤1000)(w:World)
  (hV:VtA w B gv gb gh vb vh ms na bal pst room hlds) :
  Calls Tryz.prog 210 #[ptr gv] w fun e w'=>∃v,e=.returned v∧w'.ownsRow w.heap.size 2 1 v hlds.length (flat eI (hlds.map RH.rid))∧Bw w w':=by
 have p1:=hV.blk.c 1;have V:=aa (iC gh vh room hlds w hV.hblk (Sl.own kRH hV.hown) (by omega));obtain ⟨W,Y,L,F,J⟩:=info_parts cT;clear hV;go_enter Tryz.func210,Tryz.ntmps210;go_wp2_with (go_at_call 260;refine V.o.mono ?_;rintro e w1 ⟨v1,rfl,a,c1⟩;have hf:=ag a;obtain ⟨n1,k1,rfl⟩:=hf)
 have X:=aa (Sl.own kRH a);have C:=c1.size;clear a;go_loopw [3,14] (fun vo vi wr=>∃k:Nat,k≤hlds.length∧vi=.int .i64 k∧wr.ownsRow w1.heap.size 2 1 vo k (flat eI ((hlds.take k).map RH.rid))∧Bw w1 wr) (fun _ vi _=>hlds.length - (intOf vi).toNat)
 case atStart=>exact ⟨0,Af _,rfl,⟨by simp [flat],Or.inl ⟨rfl,rfl⟩⟩,zZ _ _⟩
 case round=>
  obtain ⟨k,hk,rfl,a,d⟩:=hrel;have I:=aa a;obtain ⟨no,ko,rfl⟩:=ag a;clear a;by_cases hlt:k<hlds.length
  ·obtain ⟨R,u,n,_,U,H,r⟩:=X.o;obtain ⟨e1,e2⟩:n1=R∧k1=u:=by simpa using n
   subst e1 e2;obtain ⟨b,g,rfl,f,t⟩:=r (by omega);obtain ⟨q0,q1,q2,q3,q4⟩:=atRH (t k hlt);have P:=(d.c (p:=⟨b,g+k * 5,none⟩) f).trans q0;have Q:=(d.c (p:=⟨b,g+k * 5+1,none⟩) f).trans q1;have S:=(d.c (p:=⟨b,g+k * 5+2,none⟩) f).trans q2;have T:=(d.c (p:=⟨b,g+k * 5+3,none⟩) f).trans q3;have N:=(d.c (p:=⟨b,g+k * 5+4,none⟩) f).trans q4;have ab:(0:Int)≤(k:Int):=by omega
   have Z:(k:Int)<(hlds.length:Int):=by omega
   unfold maxLen at H;have l:Hid ((hlds.take k).map RH.rid++[hlds[k].rid]=(hlds.take (k+1)).map RH.rid):=aa (by rw [z9 hlt,AI];rfl);have i:Hid (((hlds.take k).map RH.rid).length=k):=aa (by simp;omega);clear t q0 q1 q2 q3 q4 r n;generalize hlds[k]=x at *;obtain ⟨h,D,G,E,K⟩:=x;dsimp only at P Q S T N l;have M:=d.alloc d.size (.cells (cRH ⟨h,D,G,E,K⟩) 333);have y:=I.o.alloc (.cells (cRH ⟨h,D,G,E,K⟩) 333);have z:=y.alloc (.cells #[.int .i64 h] 2);have s:=aa z;have j:Hid (Bw w1 ((wr.alloc (.cells (cRH ⟨h,D,G,E,K⟩) 333)).alloc (.cells #[.int .i64 h] 2))):=aa (M.alloc M.size _);clear y z;go_wp2_with (at_builtin;refine aq kI (by decide) dL _ rfl _ _ 45 rfl w1.heap.size 2 W (.int .i64 0) 8 Tryz.underlying45 Y L F J (by rfl) (.slice no k ko) ((hlds.take k).map RH.rid) rfl (by rw [i.o];exact s.o) (some ⟨wr.heap.size+1,0,none⟩) 1 [h] rfl (Sl.oneK _ 2 h _ (by simp)) (by rw [i.o];show k+1≤maxLen;unfold maxLen;omega) (by rw [i.o];show (k+1) * 8≤_;omega) j.o.size ?_;intro v' w2 a hgrow hat)
   rw [l.o] at a;have m:((hlds.take (k+1)).map RH.rid).length=k+1:=by simp;omega
   rw [m] at a;have b4:Bw w1 w2:=j.o.grown hgrow (by exact j.o.size) (fun q hq=>(s.o.lt q hq).1);obtain ⟨n2,k2,rfl⟩:=ag a;go_wp2_with fail;go_roundw
   case rel=>exact ⟨k+1,by omega,by go_num,a,b4⟩
   case measure=>simp [intOf];omega
  ·obtain rfl:k=hlds.length:=by omega
   have O:¬ ((hlds.length:Int)<(hlds.length:Int)):=by omega
   have A:hlds.take hlds.length=hlds:=Ae (zY _);rw [A] at I;go_wp2_with fail;go_ret;exact ⟨_,rfl,aw I.o C,c1.trans (d.mono c1.size)⟩
end
end Go.Proofs.YtmhohaanddglbaaGreatDoor
namespace Go.Proofs
open Go.Shelf
def Tryz.l290_ren:Go.Shelf.Ren:=⟨fun | 6=>290 | n=>n,fun | 22=>64 | 23=>71 | 25=>358 | 3=>3 | 0=>0 | 4=>4 | n=>n,fun | n=>n⟩
theorem Tryz.l290:Go.Proofs.SlLaysH0.n6 Tryz.prog Tryz.l290_ren:={
 mixed:=by kernel_rfl
 f6:=⟨Tryz.f290.name,by decide,Tryz.func290.trans (congrArg some (by kernel_rfl))⟩
 t0:=Tryz.underlying0
 a0:=Tryz.isAgg0
 z0:=Tryz.sizeOf0
 v0:=Tryz.zeroValue0
 t3:=Tryz.underlying3
 a3:=Tryz.isAgg3
 z3:=Tryz.sizeOf3
 v3:=Tryz.zeroValue3
 t4:=Tryz.underlying4
 a4:=Tryz.isAgg4
 z4:=Tryz.sizeOf4
 v4:=Tryz.zeroValue4
 t22:=Tryz.underlying64
 a22:=Tryz.isAgg64
 z22:=Tryz.sizeOf64
 v22:=Tryz.zeroValue64
 t25:=Tryz.underlying358
 a25:=Tryz.isAgg358
 z25:=Tryz.sizeOf358
 v25:=Tryz.zeroValue358 }
def Tryz.l304_ren:Go.Shelf.Ren:=⟨fun | 8=>304 | 6=>290 | n=>n,fun | 22=>64 | 23=>71 | 25=>358 | 4=>4 | 3=>3 | 0=>0 | n=>n,fun | n=>n⟩
theorem Tryz.l304:Go.Proofs.SlLaysH0.n8 Tryz.prog Tryz.l304_ren:={
 mixed:=by kernel_rfl
 f6:=⟨Tryz.f290.name,by decide,Tryz.func290.trans (congrArg some (by kernel_rfl))⟩
 f8:=⟨Tryz.f304.name,by decide,Tryz.func304.trans (congrArg some (by kernel_rfl))⟩
 t0:=Tryz.underlying0
 a0:=Tryz.isAgg0
 z0:=Tryz.sizeOf0
 v0:=Tryz.zeroValue0
 t3:=Tryz.underlying3
 a3:=Tryz.isAgg3
 z3:=Tryz.sizeOf3
 v3:=Tryz.zeroValue3
 t4:=Tryz.underlying4
 a4:=Tryz.isAgg4
 z4:=Tryz.sizeOf4
 v4:=Tryz.zeroValue4
 t22:=Tryz.underlying64
 a22:=Tryz.isAgg64
 z22:=Tryz.sizeOf64
 v22:=Tryz.zeroValue64
 t25:=Tryz.underlying358
 a25:=Tryz.isAgg358
 z25:=Tryz.sizeOf358
 v25:=Tryz.zeroValue358 }
def Tryz.l345_ren:Go.Shelf.Ren:=⟨fun | 8=>345 | 6=>367 | n=>n,fun | 22=>66 | 23=>120 | 25=>422 | 4=>4 | 3=>3 | 0=>0 | n=>n,fun | n=>n⟩
theorem Tryz.l345:Go.Proofs.SlLaysH0.n8 Tryz.prog Tryz.l345_ren:={
 mixed:=by kernel_rfl
 f6:=⟨Tryz.f367.name,by decide,Tryz.func367.trans (congrArg some (by kernel_rfl))⟩
 f8:=⟨Tryz.f345.name,by decide,Tryz.func345.trans (congrArg some (by kernel_rfl))⟩
 t0:=Tryz.underlying0
 a0:=Tryz.isAgg0
 z0:=Tryz.sizeOf0
 v0:=Tryz.zeroValue0
 t3:=Tryz.underlying3
 a3:=Tryz.isAgg3
 z3:=Tryz.sizeOf3
 v3:=Tryz.zeroValue3
 t4:=Tryz.underlying4
 a4:=Tryz.isAgg4
 z4:=Tryz.sizeOf4
 v4:=Tryz.zeroValue4
 t22:=Tryz.underlying66
 a22:=Tryz.isAgg66
 z22:=Tryz.sizeOf66
 v22:=Tryz.zeroValue66
 t25:=Tryz.underlying422
 a25:=Tryz.isAgg422
 z25:=Tryz.sizeOf422
 v25:=Tryz.zeroValue422 }
def Tryz.l374_ren:Go.Shelf.Ren:=⟨fun | 8=>374 | 6=>393 | n=>n,fun | 22=>45 | 23=>2 | 25=>110 | 4=>4 | 3=>3 | 0=>0 | n=>n,fun | n=>n⟩
theorem Tryz.l374:Go.Proofs.SlLaysH.n8 Tryz.prog Tryz.l374_ren:={
 mixed:=by kernel_rfl
 f6:=⟨Tryz.f393.name,by decide,Tryz.func393.trans (congrArg some (by kernel_rfl))⟩
 f8:=⟨Tryz.f374.name,by decide,Tryz.func374.trans (congrArg some (by kernel_rfl))⟩
 t0:=Tryz.underlying0
 a0:=Tryz.isAgg0
 z0:=Tryz.sizeOf0
 v0:=Tryz.zeroValue0
 t3:=Tryz.underlying3
 a3:=Tryz.isAgg3
 z3:=Tryz.sizeOf3
 v3:=Tryz.zeroValue3
 t4:=Tryz.underlying4
 a4:=Tryz.isAgg4
 z4:=Tryz.sizeOf4
 v4:=Tryz.zeroValue4
 t22:=Tryz.underlying45
 a22:=Tryz.isAgg45
 z22:=Tryz.sizeOf45
 v22:=Tryz.zeroValue45
 a23:=Tryz.isAgg2
 z23:=Tryz.sizeOf2
 t25:=Tryz.underlying110
 a25:=Tryz.isAgg110
 z25:=Tryz.sizeOf110
 v25:=Tryz.zeroValue110 }
def Tryz.l365_ren:Go.Shelf.Ren:=⟨fun | 20=>365 | n=>n,fun | 24=>3 | 22=>74 | 3=>3 | 25=>205 | 4=>4 | 0=>0 | n=>n,fun | n=>n⟩
theorem Tryz.l365:Go.Proofs.SlLaysF.n20 Tryz.prog Tryz.l365_ren:={
 mixed:=by kernel_rfl
 f20:=⟨Tryz.f365.name,by decide,Tryz.func365.trans (congrArg some (by kernel_rfl))⟩
 t0:=Tryz.underlying0
 a0:=Tryz.isAgg0
 z0:=Tryz.sizeOf0
 v0:=Tryz.zeroValue0
 t3:=Tryz.underlying3
 a3:=Tryz.isAgg3
 z3:=Tryz.sizeOf3
 v3:=Tryz.zeroValue3
 t4:=Tryz.underlying4
 a4:=Tryz.isAgg4
 z4:=Tryz.sizeOf4
 v4:=Tryz.zeroValue4
 t22:=Tryz.underlying74
 a22:=Tryz.isAgg74
 z22:=Tryz.sizeOf74
 v22:=Tryz.zeroValue74
 a24:=Tryz.isAgg3
 z24:=Tryz.sizeOf3
 t25:=Tryz.underlying205
 a25:=Tryz.isAgg205
 z25:=Tryz.sizeOf205
 v25:=Tryz.zeroValue205 }
end Go.Proofs
