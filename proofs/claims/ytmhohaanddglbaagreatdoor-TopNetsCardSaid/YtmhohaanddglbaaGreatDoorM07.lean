/- Texts of the proof of TopNets, joined: First, First2, Reg2, Legs, Legs2, Reg3, Reg, RSum, Pay0, Room, LNets, LReg, LTop, LOrd, Pay, Pay2, Form, Day0, Plan. -/
import Derived.Test.YtmhohaanddglbaaGreatDoorM00
import Derived.Test.YtmhohaanddglbaaGreatDoorM01
import Derived.Test.YtmhohaanddglbaaGreatDoorM03
import Derived.Test.YtmhohaanddglbaaGreatDoorM06
import Derived.Deep.DrawnRows
import Derived.StillTailTactics
set_option linter.all false
set_option maxRecDepth 100000
set_option maxHeartbeats 16000000
namespace Go.Proofs.YtmhohaanddglbaaGreatDoor
open Go.RowKit
section
attribute [local go_sem ↓] Go.wp_at_zero Go.wp_at_succ
theorem eg158:∀args w,(callFunc 158 args).run Tryz.prog w=.ok (.enter 158 args) w:=enters_of Tryz.func158 (by kernel_rfl) rfl
theorem eg205:∀args w,(callFunc 205 args).run Tryz.prog w=.ok (.enter 205 args) w:=enters_of Tryz.func205 (by kernel_rfl) rfl
def ofMember (kind mem:Int)(x:Tm):Bool:=decide (x.kind=kind)&&decide (x.mem=mem)
theorem pX (g1 g2:Nat)(kind mem:Int)(w:World)(h1:Blk w g1 3 #[.int .i64 kind])(h2:Blk w g2 3 #[.int .i64 mem]):PredTm 158 #[ptr g1,ptr g2] (ofMember kind mem) w:=by
 intro W x f;have a:Bw W (W.alloc (.cells (cTm x) 197)):=Bn;have i:=((h1.keep f).keep a).c 0;have j:=((h2.keep f).keep a).c 0;have d:Hid (ofMember kind mem x=(decide (x.kind=kind)&&decide (x.mem=mem))):=aa rfl;show Calls Tryz.prog 158 #[vTm x,ptr g1,ptr g2] W _
 clear h1 h2;by_cases e1:x.kind=kind
 ·by_cases e2:x.mem=mem
  ·have g:=beq_iff_eq.2 e1;have h:=beq_iff_eq.2 e2;have b:Hid (ofMember kind mem x=true):=aa (by rw [d.o];simp [e1,e2]);clear e1 e2;go_enter Tryz.func158,Tryz.ntmps158;go_wp2;go_ret;exact ⟨by rw [b.o];rfl,a⟩
  ·have g:=beq_iff_eq.2 e1;have h:=beq_eq_false_iff_ne.2 e2;have b:Hid (ofMember kind mem x=false):=aa (by rw [d.o];simp [e2]);clear e1 e2;go_enter Tryz.func158,Tryz.ntmps158;go_wp2;go_ret;exact ⟨by rw [b.o];rfl,a⟩
 ·have g:=beq_eq_false_iff_ne.2 e1;have b:Hid (ofMember kind mem x=false):=aa (by rw [d.o];simp [e1]);clear e1;go_enter Tryz.func158,Tryz.ntmps158;go_wp2;go_ret;exact ⟨by rw [b.o];rfl,a⟩
def LeftPost (B g:Nat)(room:Int)(l:List Tm)(K:List Nat)(p:Tm→Bool)(r:Int)(w:World)(e:Ending)(w':World):Prop:=∃v,e=.returned (.int .i64 r)∧WheelAt w' B g room v (l.filter fun x=>!p x)∧Fresh w v∧ModT B [150] K w w'
theorem pY {w:World}{B g:Nat}{room:Int}{v:Value}{l:List Tm}(h:WheelAt w B g room v l)(hn:l.length≤9000)(K:List Nat)(hK:g∉K)(hB:B≤w.heap.size)(kind mem:Int):Calls Tryz.prog 111 #[ptr g,.int .i64 kind,.int .i64 mem] w (LeftPost B g room l K (ofMember kind mem) (l.filter (ofMember kind mem)).length w):=by
 obtain ⟨b,a⟩:∃b,(w.alloc (.cells #[.int .i64 kind] 3)).alloc (.cells #[.int .i64 mem] 3)=b:=⟨_,rfl⟩;have c:Bw w b:=by rw [←a];exact Bn.alloc (by simp) _
 have m:Blk b w.heap.size 3 #[.int .i64 kind]:=by rw [←a];exact (Blk.new w 3 _).alloc _
 have n:Blk b (w.heap.size+1) 3 #[.int .i64 mem]:=by rw [←a];exact heap_alloc2_new _ _ _
 have r:=aa (kL (h.keep c) hn K hK (z5 hB c.size) 158 #[ptr w.heap.size,ptr (w.heap.size+1)] eg158 (ofMember kind mem) (pX _ _ kind mem b m n));have i:=aa a;obtain ⟨N,j⟩:∃N,(l.filter (ofMember kind mem)).length=N:=⟨_,rfl⟩;have p:=aa j;rw [j];clear h m n a j;go_enter Tryz.func111,Tryz.ntmps111;go_wp2_with fail;rw [show (w.alloc (.cells #[.int .i64 kind] 3)).alloc (.cells #[.int .i64 mem] 3)=b from i.o];go_wp2_with (go_at_call 157;refine r.o.mono ?_;rintro e w2 ⟨v2,u2,P,rfl,hp,hx,ho,hw,hfr,hm⟩;have d:=aa hw;have q:=aa hm;have f:Hid (P.length=N):=aa (by have:=hp.length_eq;rw [List.length_range,p.o] at this;exact this);rw [Ad] at ho;obtain ⟨n2,k2,rfl⟩:=ag ho;rw [f.o];clear hp hx ho hw hm)
 go_ret;exact ⟨_,rfl,d.o,fun k hk=>z5 c.size (hfr k hk),(ModT.below c).trans q.o⟩
theorem kM (g1:Nat)(t:Tm)(w:World)(h1:Blk w g1 197 (cTm t)):PredTm 205 #[ptr g1] (fun x=>decide (x=t)) w:=by
 intro W x i;have d:Bw W (W.alloc (.cells (cTm x) 197)):=Bn;have a:=(h1.keep i).keep d;have m:=a.c 0;have l:=a.c 1;have q:=a.c 2;have j:=a.c 3;show Calls Tryz.prog 205 #[vTm x,ptr g1] W fun e w'=>e=.returned (.bool (decide (x=t)))∧Bw W w'
 clear h1 a;by_cases he:x=t
 ·have g:Hid (decide (x=t)=true):=aa (decide_eq_true he);rw [g.o];subst he;go_enter Tryz.func205,Tryz.ntmps205;go_wp2;go_ret;exact ⟨rfl,d⟩
 ·have g:Hid (decide (x=t)=false):=aa (decide_eq_false he);have b:=aa (om he);clear he;rw [g.o];obtain ⟨r,k,p,n⟩:=x;obtain ⟨td,tk,tm,tl⟩:=t;dsimp only at b;rcases b.o with h | ⟨e1,h⟩ | ⟨e1,e2,h⟩ | ⟨e1,e2,e3,h⟩
  ·have f:=beq_eq_false_iff_ne.2 h;clear h b;go_enter Tryz.func205,Tryz.ntmps205;go_wp2;go_ret;exact ⟨rfl,d⟩
  ·have f:=beq_eq_false_iff_ne.2 h;clear h b;subst e1;go_enter Tryz.func205,Tryz.ntmps205;go_wp2;go_ret;exact ⟨rfl,d⟩
  ·have f:=beq_eq_false_iff_ne.2 h;clear h b;subst e1 e2;go_enter Tryz.func205,Tryz.ntmps205;go_wp2;go_ret;exact ⟨rfl,d⟩
  ·have f:=beq_eq_false_iff_ne.2 h;clear h b;subst e1 e2 e3;go_enter Tryz.func205,Tryz.ntmps205;go_wp2;go_ret;exact ⟨rfl,d⟩
def theTm (t:Tm)(x:Tm):Bool:=decide (x=t)
theorem kN {w:World}{B g:Nat}{room:Int}{v:Value}{l:List Tm}(h:WheelAt w B g room v l)(hn:l.length≤9000)(K:List Nat)(hK:g∉K)(hB:B≤w.heap.size)(t:Tm):Calls Tryz.prog 169 #[ptr g,vTm t] w (LeftPost B g room l K (theTm t) (if t∈l then 0 else 8) w):=by
 obtain ⟨i,b⟩:∃i,w.alloc (.cells (cTm t) 197)=i:=⟨_,rfl⟩;have p:Bw w i:=by rw [←b];exact Bn
 have C:Blk i w.heap.size 197 (cTm t):=by rw [←b];exact Blk.new w 197 _
 have E:=aa (kL (h.keep p) hn K hK (z5 hB p.size) 205 #[ptr w.heap.size] eg205 (theTm t) (kM _ t i C));have s:=aa b;obtain ⟨N,A⟩:∃N,(l.filter (theTm t)).length=N:=⟨_,rfl⟩;have D:=aa A;have a:t∈l↔N≠0:=by
  rw [←A];constructor
  ·intro c d;have:t∈l.filter (theTm t):=AS.2 ⟨c,by unfold theTm;simp⟩
   rw [List.length_eq_zero_iff.1 d] at this;simp at this
  ·intro d;obtain ⟨x,u⟩:=List.exists_mem_of_length_pos (Nat.pos_of_ne_zero d);obtain ⟨hx1,hx2⟩:=AS.1 u;unfold theTm at hx2;rw [←of_decide_eq_true hx2];exact hx1
 clear h C b A;by_cases d:N=0
 ·have z:Hid ((if t∈l then (0:Int) else 8)=8):=aa (if_neg (fun c=>a.1 c d));clear a;rw [z.o];go_enter Tryz.func169,Tryz.ntmps169;go_wp2_with fail;rw [show w.alloc (.cells #[.int .i64 t.due,.int .i64 t.kind,.int .i64 t.mem,.int .i64 t.level] 197)=i from s.o];go_wp2_with (go_at_call 157;refine E.o.mono ?_;rintro e J ⟨H,F,P,rfl,q,u,j,r,f,c⟩;have m:=aa r;have y:=aa c;have n:Hid (P.length=0):=aa (by have:=q.length_eq;rw [List.length_range,D.o,d] at this;exact this);rw [Ad] at j;obtain ⟨n2,k2,rfl⟩:=ag j;rw [n.o];clear q u j r c)
  go_ret;exact ⟨_,rfl,m.o,fun k hk=>z5 p.size (f k hk),(ModT.below p).trans y.o⟩
 ·have z:Hid ((if t∈l then (0:Int) else 8)=0):=aa (if_pos (a.2 d));have I:((N:Int)==0)=false:=by simpa using d
  have G:¬ (N:Int)=0:=by omega
  clear a;rw [z.o];go_enter Tryz.func169,Tryz.ntmps169;go_wp2_with fail;rw [show w.alloc (.cells #[.int .i64 t.due,.int .i64 t.kind,.int .i64 t.mem,.int .i64 t.level] 197)=i from s.o];go_wp2_with (go_at_call 157;refine E.o.mono ?_;rintro e J ⟨H,F,P,rfl,q,u,j,r,f,c⟩;have m:=aa r;have y:=aa c;have n:Hid (P.length=N):=aa (by have:=q.length_eq;rw [List.length_range,D.o] at this;exact this);rw [Ad] at j;obtain ⟨n2,k2,rfl⟩:=ag j;rw [n.o];clear q u j r c)
  go_ret;exact ⟨_,rfl,m.o,fun k hk=>z5 p.size (f k hk),(ModT.below p).trans y.o⟩
def headM (S:List Tm)(now:Int):Option Tm:=match S with
 | []=>none
 | t :: _=>if now<t.due then none else some t
def firstM (l:List Tm)(P:List Nat)(now:Int):Option Tm:=headM (P.map fun i=>l.getD i zTm) now
def afterM (l:List Tm)(o:Option Tm):List Tm:=match o with
 | none=>l
 | some t=>l.filter fun x=>!theTm t x
theorem kO {B:Nat}{TS:List TypeId}{K:List Nat}{w w2 W:World}{T:TypeId}{cs:Array Value}(h:PutB w2 w.heap.size T cs W)(b:Bw w w2):ModT B TS K w W:=
 ⟨h.mod.os.trans b.os,h.mod.tape.trans b.tape,h.mod.output.trans b.output,by rw [h.size];exact b.size,fun k hk _=>(h.far k (by omega)).trans (b.block k hk)⟩
theorem tJ {B:Nat}{TS:List TypeId}{K:List Nat}{w w3 W:World}{T:TypeId}{cs:Array Value}(m:ModT B TS K w w3)(h:PutB w3 w.heap.size T cs W):ModT B TS K w W:=
 ⟨h.mod.os.trans m.os,h.mod.tape.trans m.tape,h.mod.output.trans m.output,by rw [h.size];exact m.size,fun k hk hc=>(h.far k (by omega)).trans (m.far k hk hc)⟩
theorem kP {W:World}{b off c n:Nat}{t:Tm}{r:List Tm}(h:Sl eTm 4 W (.slice (some ⟨b,off,none⟩) n c) (t :: r)):W.cell? ⟨b,off,none⟩=some (.int .i64 t.due)∧W.cell? ⟨b,off+1,none⟩=some (.int .i64 t.kind)∧W.cell? ⟨b,off+2,none⟩=some (.int .i64 t.mem)∧W.cell? ⟨b,off+3,none⟩=some (.int .i64 t.level):=by
 obtain ⟨j,f,a,_,i,g,d⟩:=h;obtain ⟨b',off',ha,hbb,hcl⟩:=d (by simp);have e:b=b'∧off=off':=by
  have:=a
  rw [ha] at this;simp at this;exact ⟨this.1.1,this.1.2⟩
 obtain ⟨rfl,rfl⟩:=e;obtain ⟨q0,q1,q2,q3⟩:=jV (hcl 0 (by simp));rw [Nat.zero_mul,AU] at q0 q1 q2 q3;exact ⟨q0,q1,q2,q3⟩
structure GA where
 gr:Nat
 gt:Nat
 gu:Nat
 vm:Value
 vs:Value
 vc:Value
 vt:Value
 vu:Value
structure GS where
 C:Cfg
 trades:List RT
 used:List RU
 acd:Int
structure RegAt (w:World)(B:Nat)(A:GA)(D:GS):Prop where
 blk:Blk w A.gr 144 (regC A.vm A.vs A.vc D.C A.gt A.gu D.acd)
 cfg:COw w B A.vm A.vs A.vc D.C
 tblk:Blk w A.gt 188 #[.int .i64 D.C.trades,A.vt]
 ublk:Blk w A.gu 191 #[.int .i64 (D.C.trades * D.C.cyc.length),A.vu]
 trades:w.ownsRow B 163 7 A.vt D.trades.length (flat eRT D.trades)
 used:w.ownsRow B 268 2 A.vu D.used.length (flat eRU D.used)
 l1:B≤A.gr
 l2:B≤A.gt
 l3:B≤A.gu
theorem RegAt.keep {w w':World}{B:Nat}{A:GA}{D:GS}(h:RegAt w B A D)(c:Bw w w'):RegAt w' B A D:=
 ⟨h.blk.keep c,h.cfg.keep c,h.tblk.keep c,h.ublk.keep c,ah h.trades c,ah h.used c,h.l1,h.l2,h.l3⟩
structure GOk (D:GS):Prop where
 cfg:Valid D.C
 tn:D.trades.length≤64
 un:D.used.length≤256
 tr:Rsg RT.rid D.trades
 ur:Rsg RU.rid D.used
theorem eO (g:Nat)(v:Value)(room:Int)(l:List RT)(w:World)(hb:Blk w g 188 #[.int .i64 room,v])(hv:Sl eRT 7 w v l)(hn:l.length≤1000000):Calls Tryz.prog 84 #[ptr g] w (CPo eRT 163 7 l w):=by
 have i:=hb.c 1;have d:=aa hv;obtain ⟨a,f,rfl,_⟩:=hv;clear hb;go_enter Tryz.func84,Tryz.ntmps84;go_wp2_with (go_at_call 120;refine (wl _ l _ d.o hn).mono ?_;rintro e w1 ⟨v1,rfl,hown,c1⟩)
 have b:=ag hown;obtain ⟨j,h,rfl⟩:=b;go_ret;exact ⟨_,rfl,hown,c1⟩
def trF (x:RT):Option Tr:=some ⟨x.id,x.byr,x.slr,x.sec,x.qty,x.prc⟩
def GS.list (D:GS):List Tr:=D.trades.filterMap trF
theorem fg {B:Nat}{A:GA}{D:GS}{w:World}(h:RegAt w B A D)(ok:GOk D):Calls Tryz.prog 50 #[ptr A.gr] w (RPo eTr 58 6 D.list w):=by
 have p8:w.cell? ⟨A.gr,8,none⟩=some (ptr A.gt):=h.blk.c 8;have I:=aa (eO A.gt A.vt _ D.trades w h.tblk (Sl.own kRT h.trades) (by have:=ok.tn;omega));have hn:=ok.tn;have J:Hid (D.list=D.trades.filterMap trF):=aa rfl;obtain ⟨Q,W,y,C,E⟩:=info_parts rC;rw [J.o];generalize D.trades=l at *;clear h ok J;go_enter Tryz.func50,Tryz.ntmps50;go_wp2_with (go_at_call 84;refine I.o.mono ?_;rintro e w1 ⟨v1,rfl,a,c1'⟩;have R:=ag a;obtain ⟨n1,k1,rfl⟩:=R)
 have U:=aa (Sl.own kRT a);have v:=c1';have Y:=v.size;clear a c1' I;go_loopw [3,14] (fun vo vi wr=>∃k:Nat,k≤l.length∧vi=.int .i64 k∧wr.ownsRow w1.heap.size 58 6 vo ((l.take k).filterMap trF).length (flat eTr ((l.take k).filterMap trF))∧Bw w1 wr) (fun _ vi _=>l.length - (intOf vi).toNat)
 case atStart=>exact ⟨0,Af _,rfl,⟨by simp [flat],Or.inl ⟨rfl,rfl⟩⟩,zZ _ _⟩
 case round=>
  obtain ⟨k,hk,rfl,a,d⟩:=hrel;have G:=aa a;obtain ⟨no,ko,rfl⟩:=ag a;clear a;by_cases hlt:k<l.length
  ·obtain ⟨P,m,n,_,V,F,s⟩:=U.o;obtain ⟨e1,e2⟩:n1=P∧k1=m:=by simpa using n
   subst e1 e2;obtain ⟨b,g,rfl,f,u⟩:=s (by omega);obtain ⟨q0,q1,q2,q3,q4,q5,q6⟩:=atRT (u k hlt);have r0:=(d.c (p:=⟨b,g+k * 7,none⟩) f).trans q0;have r1:=(d.c (p:=⟨b,g+k * 7+1,none⟩) f).trans q1;have r2:=(d.c (p:=⟨b,g+k * 7+2,none⟩) f).trans q2;have Z:=(d.c (p:=⟨b,g+k * 7+3,none⟩) f).trans q3;have r4:=(d.c (p:=⟨b,g+k * 7+4,none⟩) f).trans q4;have r5:=(d.c (p:=⟨b,g+k * 7+5,none⟩) f).trans q5;have r6:=(d.c (p:=⟨b,g+k * 7+6,none⟩) f).trans q6;have K:(0:Int)≤(k:Int):=by omega
   have N:(k:Int)<(l.length:Int):=by omega
   unfold maxLen at F;have r:=aa (bC trF l k hlt);have M:((l.take k).filterMap trF).length≤k:=z5 (Ak _ _) (by rw [Aa];omega);clear u q0 q1 q2 q3 q4 q5 q6 s n;generalize (l.take k).filterMap trF=L at *;generalize l[k]=x at *;have j:=d.alloc d.size (.cells (cRT x) 163);have HX:=aa (Blk.new wr 163 (cRT x));have t:=aa (G.o.alloc (.cells (cRT x) 163))
   ·have X:True:=trivial;have S:Hid (L++[⟨x.id,x.byr,x.slr,x.sec,x.qty,x.prc⟩]=(l.take (k+1)).filterMap trF):=aa (by rw [r.o,show trF x=some ⟨x.id,x.byr,x.slr,x.sec,x.qty,x.prc⟩ from rfl];rfl);clear r;go_wp2_with (first | (at_builtin;refine aq kTr (by decide) yK _ rfl _ _ 49 rfl w1.heap.size 58 Q (.agg #[.int .i64 0,.int .i64 0,.int .i64 0,.int .i64 0,.int .i64 0,.int .i64 0]) 48 Tryz.underlying49 W y C E (by rfl) (.slice no L.length ko) L rfl (t.o.alloc _) (some ⟨wr.heap.size+1,0,none⟩) 1 [⟨x.id,x.byr,x.slr,x.sec,x.qty,x.prc⟩] rfl (Sl.one1b eTr kTr _ 58 _ (by rfl) _ (by simp)) (by show L.length+1≤maxLen;unfold maxLen;omega) (by show (L.length+1) * 48≤_;omega) (j.alloc j.size (.cells #[.int .i64 (x.id),.int .i64 (x.byr),.int .i64 (x.slr),.int .i64 (x.sec),.int .i64 (x.qty),.int .i64 (x.prc)] 58)).size ?_;intro v' w2 a i z;have T:=(j.alloc j.size (.cells #[.int .i64 (x.id),.int .i64 (x.byr),.int .i64 (x.slr),.int .i64 (x.sec),.int .i64 (x.qty),.int .i64 (x.prc)] 58)).grown i (j.alloc j.size _).size (fun q hq=>(t.o.lt q hq).1);rw [S.o] at a;obtain ⟨n2,k2,rfl⟩:=ag a;clear i z))
    go_roundw
    case rel=>exact ⟨k+1,by omega,by go_num,a,T⟩
    case measure=>simp [intOf];omega
  ·obtain rfl:k=l.length:=by omega
   have O:¬ ((l.length:Int)<(l.length:Int)):=by omega
   have H:l.take l.length=l:=Ae (zY _);rw [H] at G;go_wp2_with fail;go_ret;exact ⟨_,rfl,aw G.o v.size,v.trans (d.mono v.size)⟩
theorem cE {B:Nat}{A:GA}{D:GS}{w:World}(h:RegAt w B A D)(ok:GOk D)(id:Int):Calls Tryz.prog 146 #[ptr A.gr,.int .i64 id] w fun e w'=>e=.returned (.bool (hasM RU.rid D.used id))∧Bw w w':=by
 have k:w.cell? ⟨A.gr,9,none⟩=some (ptr A.gu):=h.blk.c 9;have b:=aa (getRU A.gu _ A.vu D.used id w h.ublk (Sl.own kRU h.used) (by have:=ok.un;omega) ok.ur);clear h ok;obtain ⟨y,a⟩:∃y,hasM RU.rid D.used id=y:=⟨_,rfl⟩;have d:=aa a;obtain ⟨z,hz⟩:∃z:Int,(if hasM RU.rid D.used id then (0:Int) else 8)=z:=⟨_,rfl⟩;have f:=aa hz;have g:(z==0)=y:=by
  rw [←hz,a];cases y <;> rfl
 clear a hz;go_enter Tryz.func146,Tryz.ntmps146;go_wp2_with (go_at_call 182;refine b.o.mono ?_;rintro e j ⟨x,rfl,_,i⟩;rw [f.o])
 go_ret;exact ⟨by rw [d.o];rfl,i⟩
structure TrGood (t:Tr):Prop where
 fit:TrFit t
 val:(valM t).2=0
 v0:0≤(valM t).1∧(valM t).1≤288230376151711744
 q0:0≤t.qty∧t.qty≤274877906944
def lg4 (t:Tr):List Lg:=[⟨t.byr,0,(valM t).1⟩,⟨t.byr,t.sec,-t.qty⟩,⟨t.slr,0,-(valM t).1⟩,⟨t.slr,t.sec,t.qty⟩]
def LegsPost (t:Tr)(w:World)(e:Ending)(w':World):Prop:=∃b,e=.returned (.tuple #[.slice (some ⟨b,0,none⟩) 4 4,.int .i64 0])∧w'.ownsRow w.heap.size 120 3 (.slice (some ⟨b,0,none⟩) 4 4) 4 (flat eLg (lg4 t))∧Bw w w'
theorem tK (t:Tr)(h:TrGood t)(w:World):Calls Tryz.prog 253 #[vTr t] w (LegsPost t w):=by
 have x:Bw w (w.alloc (.cells (cTr t) 58)):=Bn;have u:=aa (eH t h.fit (w.alloc (.cells (cTr t) 58)));obtain ⟨⟨v,H⟩,b⟩:∃r,valM t=r:=⟨_,rfl⟩;have k:=h.val;have g:=h.v0;have y:=h.q0;rw [b] at k g;dsimp only at k g;subst k;have A:=aa b;have n:Hid (lg4 t=[⟨t.byr,0,v⟩,⟨t.byr,t.sec,-t.qty⟩,⟨t.slr,0,-v⟩,⟨t.slr,t.sec,t.qty⟩]):=aa (by unfold lg4;rw [b]);have s:fitM (-v)=(-v,0):=bV (by unfold In64;omega);have q:fitM (-t.qty)=(-t.qty,0):=bV (by unfold In64;omega);have d:=aa s;have i:=aa q;have p:In64 v:=by unfold In64;omega
 have l:In64 t.qty:=by unfold In64;omega
 have j:=aa p;have f:=aa l;have B:=aa (Blk.new w 58 (cTr t));rw [b] at u;have a:=aa ((B.o).alloc (.cells (cTr t) 58));obtain ⟨I,C,F,G,E,D⟩:_∧_∧_∧_∧_∧_:=⟨a.o.c 0,a.o.c 1,a.o.c 2,a.o.c 3,a.o.c 4,a.o.c 5⟩;clear h b g y s q p l;go_enter Tryz.func253,Tryz.ntmps253;go_wp2_with (first | (go_at_call 181;refine u.o.mono ?_;rintro e w1 ⟨rfl,rfl⟩) | (go_at_call 312;(first | (refine (bW v j.o _).mono ?_;rintro e w2 ⟨rfl,rfl⟩;rw [d.o]) | (refine (bW t.qty f.o _).mono ?_;rintro e w2 ⟨rfl,rfl⟩;rw [i.o]))))
 go_ret2;have m:=Blk.new ((w.alloc (.cells (cTr t) 58)).alloc (.cells (cTr t) 58)) 120 #[.int .i64 t.byr,.int .i64 0,.int .i64 v,.int .i64 t.byr,.int .i64 t.sec,.int .i64 (-t.qty),.int .i64 t.slr,.int .i64 0,.int .i64 (-v),.int .i64 t.slr,.int .i64 t.sec,.int .i64 t.qty];have z:((w.alloc (.cells (cTr t) 58)).alloc (.cells (cTr t) 58)).heap.size=w.heap.size+1+1:=by simp
 rw [z] at m;refine ⟨_,rfl,⟨by rw [n.o];rfl,Or.inr ⟨w.heap.size+1+1,4,_,rfl,by omega,m,zY _,by unfold maxLen;omega,rfl,by rw [n.o];rfl⟩⟩,((x.alloc x.size _).alloc (by simp;omega) _)⟩
def GS.legs (D:GS):List Lg:=D.list.flatMap lg4
def legsK (l:List Tr)(k:Nat):List Lg:=(l.take k).flatMap lg4
theorem gC (l:List Tr)(k:Nat)(h:k<l.length):legsK l (k+1)=legsK l k++lg4 l[k]:=by
 unfold legsK;rw [z9 h,List.flatMap_append];simp
theorem iT (l:List Tr)(k:Nat):(legsK l k).length≤4 * k:=by
 unfold legsK;have:∀(m:List Tr),(m.flatMap lg4).length=4 * m.length:=by
  intro m;induction m with
  | nil=>rfl
  | cons x m ih=>
   rw [List.flatMap_cons,z8,ih];show 4+4 * m.length=4 * (m.length+1)
   omega
 rw [this,Aa];omega
theorem pZ {B:Nat}{A:GA}{D:GS}{w:World}(h:RegAt w B A D)(ok:GOk D)(hg:∀t∈D.list,TrGood t):Calls Tryz.prog 207 #[ptr A.gr] w (RPo eLg 120 3 D.legs w):=by
 have N:=aa (fg h ok);have hl:D.list.length≤64:=z5 (Ak _ _) ok.tn;have O:=aa hg;have K:Hid (D.legs=legsK D.list D.list.length):=aa (by unfold legsK;rw [Ap];rfl);obtain ⟨V,hi,s,v,y⟩:=info_parts bt;rw [K.o];generalize D.list=l at *;clear h ok hg K;go_enter Tryz.func207,Tryz.ntmps207;go_wp2_with (go_at_call 50;refine N.o.mono ?_;rintro e w1 ⟨v1,rfl,a,c1⟩;have Y:=aa (Sl.own kTr a);obtain ⟨n1,k1,rfl⟩:=ag a;clear a)
 go_loopw [3,11] (fun vo vi wr=>∃k:Nat,k≤l.length∧vi=.int .i64 k∧wr.ownsRow w1.heap.size 120 3 vo (legsK l k).length (flat eLg (legsK l k))∧Bw w1 wr) (fun _ vi _=>l.length - (intOf vi).toNat)
 case atStart=>exact ⟨0,Af _,rfl,⟨by simp [flat,legsK],Or.inl ⟨rfl,rfl⟩⟩,zZ _ _⟩
 case round=>
  obtain ⟨k,hk,rfl,a,d⟩:=hrel;have J:=aa a;obtain ⟨no,ko,rfl⟩:=ag a;clear a;by_cases hlt:k<l.length
  ·obtain ⟨S,i,j,_,X,C,m⟩:=Y.o;obtain ⟨e1,e2⟩:n1=S∧k1=i:=by simpa using j
   subst e1 e2;obtain ⟨b,g,rfl,f,r⟩:=m (by omega);obtain ⟨q0,q1,q2,q3,q4,q5⟩:=l4 (r k hlt);have r0:=(d.c (p:=⟨b,g+k * 6,none⟩) f).trans q0;have r1:=(d.c (p:=⟨b,g+k * 6+1,none⟩) f).trans q1;have r2:=(d.c (p:=⟨b,g+k * 6+2,none⟩) f).trans q2;have r3:=(d.c (p:=⟨b,g+k * 6+3,none⟩) f).trans q3;have r4:=(d.c (p:=⟨b,g+k * 6+4,none⟩) f).trans q4;have r5:=(d.c (p:=⟨b,g+k * 6+5,none⟩) f).trans q5;have M:(0:Int)≤(k:Int):=by omega
   have Q:(k:Int)<(l.length:Int):=by omega
   unfold maxLen at C;have u:=aa (gC l k hlt);have P:=iT l k;have HX:=aa (O.o _ (Ag hlt));clear r q0 q1 q2 q3 q4 q5 m j;generalize legsK l k=L at *;generalize l[k]=x at *;have T:Bw wr (wr.alloc (.cells (cTr x) 58)):=Bn;have H:=d.trans (T.mono d.size);have F:=aa (J.o.alloc (.cells (cTr x) 58));have E:=aa (tK x HX.o (wr.alloc (.cells (cTr x) 58)));go_wp2_with (first | (go_at_call 253;refine E.o.mono ?_;rintro e w2 ⟨Z,rfl,I,z⟩;have G:=H.trans (z.mono H.size);have n:=aa (ah F.o z);have U:=aa (Sl.own kLg (l:=lg4 x) I);clear I z) | (at_builtin;refine aq kLg (by decide) bL _ rfl _ _ 66 rfl w1.heap.size 120 V (.agg #[.int .i64 0,.int .i64 0,.int .i64 0]) 24 Tryz.underlying66 hi s v y (by rfl) (.slice no L.length ko) L rfl n.o (some ⟨Z,0,none⟩) 4 (lg4 x) rfl U.o (by show L.length+4≤maxLen;unfold maxLen;omega) (by show (L.length+4) * 24≤_;omega) G.size ?_;intro v' w4 a hgrow hat;have W:=G.grown hgrow G.size (fun q hq=>(n.o.lt q hq).1);rw [←u.o] at a;obtain ⟨n6,k6,rfl⟩:=ag a;clear hgrow hat))
   go_roundw
   case rel=>exact ⟨k+1,by omega,by go_num,a,W⟩
   case measure=>simp [intOf];omega
  ·obtain rfl:k=l.length:=by omega
   have R:¬ ((l.length:Int)<(l.length:Int)):=by omega
   go_wp2_with fail;go_ret;exact ⟨_,rfl,aw J.o c1.size,c1.trans (d.mono c1.size)⟩
abbrev GTS:List TypeId:=[144,188,191,163,268]
structure GStep (B:Nat)(K:List Nat)(w w':World)(A A':GA)(D':GS):Prop where
 at':RegAt w' B A' D'
 mod:ModT B GTS K w w'
 gr:A'.gr=A.gr
theorem RegAt.modT {B:Nat}{TS:List TypeId}{K:List Nat}{w w':World}{A:GA}{D:GS}(h:RegAt w B A D)(m:ModT B TS K w w')(h1:144∉TS)(h2:188∉TS)(h3:191∉TS)(h4:163∉TS)(h5:268∉TS)(h6:125∉TS)(h7:127∉TS)(h8:63∉TS):RegAt w' B A D:=
 ⟨h.blk.modT m h1,h.cfg.modT m h6 h7 h8,h.tblk.modT m h2,h.ublk.modT m h3,ai h.trades m h4,ai h.used m h5,h.l1,h.l2,h.l3⟩
end
theorem gD (t:Tr)(h:TrFit t)(w:World):Calls Tryz.prog 184 #[vTr t] w fun e w'=>e=.returned (.int .i64 (valM t).1)∧Bw w w':=by
 have a:Bw w ((w.alloc (.cells (cTr t) 58)).alloc (.cells (cTr t) 58)):=Bn.alloc (by simp) _;have b:=aa h;clear h;go_enter Tryz.func184,Tryz.ntmps184;go_wp2_with fail;refine (eH t b.o _).mono ?_;rintro e c ⟨rfl,rfl⟩;go_wp2_with fail;go_ret;exact ⟨rfl,a⟩
def unitsM (s:Int)(t:Tr):Int:=if t.sec=s then t.qty else 0
theorem qa (s:Int)(t:Tr)(w:World):Calls Tryz.prog 185 #[.agg #[.int .i64 s],vTr t] w fun e w'=>e=.returned (.int .i64 (unitsM s t))∧Bw w w':=by
 by_cases h:t.sec=s
 ·have b:Hid (unitsM s t=t.qty):=aa (by unfold unitsM;rw [if_pos h]);have a:(t.sec != s)=false:=by simpa using h
  clear h;go_enter Tryz.func185,Tryz.ntmps185;go_wp2;try go_quiet (fail)
  try go_wp2
  go_ret;exact ⟨by rw [b.o];rfl,by first | exact Bn.alloc (by simp) _ | exact aj (Bn.alloc (by simp) _) _⟩
 ·have b:Hid (unitsM s t=0):=aa (by unfold unitsM;rw [if_neg h]);have a:(t.sec != s)=true:=by simpa using h
  clear h;go_enter Tryz.func185,Tryz.ntmps185;go_wp2;try go_quiet (fail)
  try go_wp2
  go_ret;exact ⟨by rw [b.o];rfl,by first | exact Bn.alloc (by simp) _ | exact aj (Bn.alloc (by simp) _) _⟩
section
attribute [local go_sem ↓] Go.wp_at_zero Go.wp_at_succ
def trR (x:RT):Tr:=⟨x.id,x.byr,x.slr,x.sec,x.qty,x.prc⟩
def sumK (f:Tr→Int)(more:Int)(l:List RT)(k:Nat):List Int:=more :: (l.take k).map fun x=>f (trR x)
theorem iU (f:Tr→Int)(more:Int)(l:List RT)(k:Nat)(h:k<l.length):sumK f more l (k+1)=sumK f more l k++[f (trR l[k])]:=by
 unfold sumK;rw [z9 h,AI];rfl
theorem ey (f:Tr→Int)(more:Int)(l:List RT)(k:Nat):(sumK f more l k).length≤k+1:=by
 unfold sumK;simp
 omega
theorem xA {B:Nat}{A:GA}{D:GS}{w:World}(h:RegAt w B A D)(ok:GOk D)(more:Int)(hm:In64 more)(hf:∀x∈D.trades,TrFit (trR x))(h64:∀x∈D.trades,In64 ((fun t=>(valM t).1) (trR x))):Calls Tryz.prog 183 #[ptr A.gr,.func (.func 184) #[] #[],.int .i64 more] w fun e w'=>e=.returned (.tuple #[.int .i64 (sumM (sumK (fun t=>(valM t).1) more D.trades D.trades.length)).1,.int .i64 (sumM (sumK (fun t=>(valM t).1) more D.trades D.trades.length)).2])∧Bw w w':=by
 obtain ⟨g,f⟩:∃g,w.alloc (.cells #[.int .i64 more] 2)=g:=⟨_,rfl⟩;have u:Bw w g:=by rw [←f];exact Bn
 have v:Blk g w.heap.size 2 #[.int .i64 more]:=by rw [←f];exact Blk.new w 2 _
 have R:Hid (g.ownsRow w.heap.size 2 1 (.slice (some ⟨w.heap.size,0,none⟩) 1 1) (sumK (fun t=>(valM t).1) more D.trades 0).length (flat eI (sumK (fun t=>(valM t).1) more D.trades 0))):=aa ⟨rfl,Or.inr ⟨w.heap.size,1,_,rfl,zY _,v,zY _,by unfold maxLen;omega,rfl,rfl⟩⟩;have p8:g.cell? ⟨A.gr,8,none⟩=some (ptr A.gt):=(h.keep u).blk.c 8;have ac:(w.alloc (.cells #[.int .i64 more] 2)).cell? ⟨A.gr,8,none⟩=some (ptr A.gt):=by rw [f];exact p8
 have HR:=aa (eO A.gt A.vt _ D.trades g (h.keep u).tblk (Sl.own kRT (h.keep u).trades) (by have:=ok.tn;omega));have z:=ok.tn;have HF:=aa hf;have I:Hid (All64 (sumK (fun t=>(valM t).1) more D.trades D.trades.length)):=aa (by
  intro n z;unfold sumK at z;rcases Aq.1 z with rfl | z
  ·exact hm
  ·obtain ⟨x,hx,rfl⟩:=AD.1 z;exact h64 x (List.mem_of_mem_take hx))
 obtain ⟨i0,hi,F,O,P⟩:=info_parts cT;have T:=aa f;generalize D.trades=l at *;clear h ok hf h64 f v;go_enter Tryz.func183,Tryz.ntmps183;go_wp2_with fail;rw [show w.alloc (.cells #[.int .i64 more] 2)=g from T.o];go_wp2_with (go_at_call 84;refine HR.o.mono ?_;rintro e w1 ⟨v1,rfl,a,c2⟩;have HS:=aa a;obtain ⟨n1,k1,rfl⟩:=ag a;have C1:=u.trans (c2.mono u.size);have S:=aa (ah R.o c2);clear a c2)
 go_loopw [8,19] (fun vo vi wr=>∃k:Nat,k≤l.length∧vi=.int .i64 k∧wr.ownsRow w.heap.size 2 1 vo (sumK (fun t=>(valM t).1) more l k).length (flat eI (sumK (fun t=>(valM t).1) more l k))∧Bw w wr∧wr.ownsRow g.heap.size 163 7 (.slice n1 l.length k1) l.length (flat eRT l)) (fun _ vi _=>l.length - (intOf vi).toNat)
 case atStart=>exact ⟨0,Af _,rfl,S.o,C1,HS.o⟩
 case round=>
  obtain ⟨k,hk,rfl,a,d,i⟩:=hrel;have X:=aa a;have J:=aa i;have M:=Sl.own kRT i;obtain ⟨no,ko,rfl⟩:=ag a;clear a;by_cases hlt:k<l.length
  ·obtain ⟨a',p,r,_,ak,Q,s⟩:=M;obtain ⟨e1,e2⟩:n1=a'∧k1=p:=by simpa using r
   subst e1 e2;obtain ⟨b,aj,rfl,ai,C⟩:=s (by omega);obtain ⟨r0,r1,r2,r3,r4,r5,r6⟩:=atRT (C k hlt);have ab:(0:Int)≤(k:Int):=by omega
   have ae:(k:Int)<(l.length:Int):=by omega
   unfold maxLen at Q;have N:=aa (iU (fun t=>(valM t).1) more l k hlt);have ad:=ey (fun t=>(valM t).1) more l k;have HX:=aa (HF.o _ (Ag hlt));clear C s r;generalize sumK (fun t=>(valM t).1) more l k=L at *;generalize l[k]=x at *;have W:Bw wr (wr.alloc (.cells (cRT x) 163)):=Bn;have V:=d.trans (W.mono d.size);have U:=aa (X.o.alloc (.cells (cRT x) 163));have K:=aa (gD (trR x) HX.o (wr.alloc (.cells (cRT x) 163)));obtain ⟨y,hy⟩:∃y,(valM (trR x)).1=y:=⟨_,rfl⟩;have Y:=aa hy;go_wp2_with (first | (go_at_call 184;refine K.o.mono ?_;rintro e w2 ⟨rfl,c2⟩;rw [Y.o];have Z:=V.trans (c2.mono V.size);have H:=Z.alloc Z.size (.cells #[.int .i64 y] 2);have m:=aa ((ah U.o c2).alloc (.cells #[.int .i64 y] 2));have j:=aa (ah (ah (ah J.o W) c2) ((zZ w2.heap.size w2).alloc (zY _) (.cells #[.int .i64 y] 2)))) | (at_builtin;refine aq kI (by decide) dL _ rfl _ _ 45 rfl w.heap.size 2 i0 (.int .i64 0) 8 Tryz.underlying45 hi F O P (by rfl) (.slice no L.length ko) L rfl m.o (some ⟨w2.heap.size,0,none⟩) 1 [y] rfl (Sl.one1b eI kI _ 2 _ (by rfl) _ rfl) (by show L.length+1≤maxLen;unfold maxLen;omega) (by show (L.length+1) * 8≤_;omega) H.size ?_;intro v' w4 a hgrow hat;have b4:=H.grown hgrow H.size (fun q hq=>(m.o.lt q hq).1);have E:=aa (au j.o fun q hq=>Mod.grown hgrow q (j.o.lt q hq).2 (fun e=>aR j.o m.o (by decide) q hq q e rfl));rw [←Y.o,←N.o] at a;obtain ⟨n6,k6,rfl⟩:=ag a;clear hgrow hat))
   go_roundw
   case rel=>exact ⟨k+1,by omega,by go_num,a,b4,E.o⟩
   case measure=>simp [intOf];omega
  ·obtain rfl:k=l.length:=by omega
   have af:¬ ((l.length:Int)<(l.length:Int)):=by omega
   have al:=ey (fun t=>(valM t).1) more l l.length;have G:=aa (aW _ _ wr (Sl.own kI X.o) I.o (by omega));go_wp2_with (go_at_call 230;refine G.o.mono ?_;rintro e w3 ⟨rfl,c3⟩)
   go_ret2;exact ⟨rfl,d.trans (c3.mono d.size)⟩
theorem xB {B:Nat}{A:GA}{D:GS}{w:World}(h:RegAt w B A D)(ok:GOk D)(s:Int)(more:Int)(hm:In64 more)(hf:∀x∈D.trades,TrFit (trR x))(h64:∀x∈D.trades,In64 ((fun t=>unitsM s t) (trR x))):Calls Tryz.prog 183 #[ptr A.gr,.func (.func 185) #[.agg #[.int .i64 s]] #[],.int .i64 more] w fun e w'=>e=.returned (.tuple #[.int .i64 (sumM (sumK (fun t=>unitsM s t) more D.trades D.trades.length)).1,.int .i64 (sumM (sumK (fun t=>unitsM s t) more D.trades D.trades.length)).2])∧Bw w w':=by
 obtain ⟨g,f⟩:∃g,w.alloc (.cells #[.int .i64 more] 2)=g:=⟨_,rfl⟩;have v:Bw w g:=by rw [←f];exact Bn
 have z:Blk g w.heap.size 2 #[.int .i64 more]:=by rw [←f];exact Blk.new w 2 _
 have S:Hid (g.ownsRow w.heap.size 2 1 (.slice (some ⟨w.heap.size,0,none⟩) 1 1) (sumK (fun t=>unitsM s t) more D.trades 0).length (flat eI (sumK (fun t=>unitsM s t) more D.trades 0))):=aa ⟨rfl,Or.inr ⟨w.heap.size,1,_,rfl,zY _,z,zY _,by unfold maxLen;omega,rfl,rfl⟩⟩;have p8:g.cell? ⟨A.gr,8,none⟩=some (ptr A.gt):=(h.keep v).blk.c 8;have ac:(w.alloc (.cells #[.int .i64 more] 2)).cell? ⟨A.gr,8,none⟩=some (ptr A.gt):=by rw [f];exact p8
 have HR:=aa (eO A.gt A.vt _ D.trades g (h.keep v).tblk (Sl.own kRT (h.keep v).trades) (by have:=ok.tn;omega));have C:=ok.tn;have HF:=aa hf;have J:Hid (All64 (sumK (fun t=>unitsM s t) more D.trades D.trades.length)):=aa (by
  intro n C;unfold sumK at C;rcases Aq.1 C with rfl | C
  ·exact hm
  ·obtain ⟨x,hx,rfl⟩:=AD.1 C;exact h64 x (List.mem_of_mem_take hx))
 obtain ⟨i0,hi,G,P,Q⟩:=info_parts cT;have U:=aa f;generalize D.trades=l at *;clear h ok hf h64 f z;go_enter Tryz.func183,Tryz.ntmps183;go_wp2_with fail;rw [show w.alloc (.cells #[.int .i64 more] 2)=g from U.o];go_wp2_with (go_at_call 84;refine HR.o.mono ?_;rintro e w1 ⟨v1,rfl,a,c2⟩;have HS:=aa a;obtain ⟨n1,k1,rfl⟩:=ag a;have C1:=v.trans (c2.mono v.size);have T:=aa (ah S.o c2);clear a c2)
 go_loopw [8,19] (fun vo vi wr=>∃k:Nat,k≤l.length∧vi=.int .i64 k∧wr.ownsRow w.heap.size 2 1 vo (sumK (fun t=>unitsM s t) more l k).length (flat eI (sumK (fun t=>unitsM s t) more l k))∧Bw w wr∧wr.ownsRow g.heap.size 163 7 (.slice n1 l.length k1) l.length (flat eRT l)) (fun _ vi _=>l.length - (intOf vi).toNat)
 case atStart=>exact ⟨0,Af _,rfl,T.o,C1,HS.o⟩
 case round=>
  obtain ⟨k,hk,rfl,a,d,i⟩:=hrel;have Y:=aa a;have K:=aa i;have N:=Sl.own kRT i;obtain ⟨no,ko,rfl⟩:=ag a;clear a;by_cases hlt:k<l.length
  ·obtain ⟨a',p,r,_,ak,R,u⟩:=N;obtain ⟨e1,e2⟩:n1=a'∧k1=p:=by simpa using r
   subst e1 e2;obtain ⟨b,aj,rfl,ai,E⟩:=u (by omega);obtain ⟨r0,r1,r2,r3,r4,r5,r6⟩:=atRT (E k hlt);have ab:(0:Int)≤(k:Int):=by omega
   have ae:(k:Int)<(l.length:Int):=by omega
   unfold maxLen at R;have O:=aa (iU (fun t=>unitsM s t) more l k hlt);have ad:=ey (fun t=>unitsM s t) more l k;have HX:=aa (HF.o _ (Ag hlt));clear E u r;generalize sumK (fun t=>unitsM s t) more l k=L at *;generalize l[k]=x at *;have X:Bw wr (wr.alloc (.cells (cRT x) 163)):=Bn;have W:=d.trans (X.mono d.size);have V:=aa (Y.o.alloc (.cells (cRT x) 163));have M:=aa (qa s (trR x) (wr.alloc (.cells (cRT x) 163)));obtain ⟨y,hy⟩:∃y,unitsM s (trR x)=y:=⟨_,rfl⟩;have Z:=aa hy;go_wp2_with (first | (go_at_call 185;refine M.o.mono ?_;rintro e w2 ⟨rfl,c2⟩;rw [Z.o];have bB:=W.trans (c2.mono W.size);have I:=bB.alloc bB.size (.cells #[.int .i64 y] 2);have m:=aa ((ah V.o c2).alloc (.cells #[.int .i64 y] 2));have j:=aa (ah (ah (ah K.o X) c2) ((zZ w2.heap.size w2).alloc (zY _) (.cells #[.int .i64 y] 2)))) | (at_builtin;refine aq kI (by decide) dL _ rfl _ _ 45 rfl w.heap.size 2 i0 (.int .i64 0) 8 Tryz.underlying45 hi G P Q (by rfl) (.slice no L.length ko) L rfl m.o (some ⟨w2.heap.size,0,none⟩) 1 [y] rfl (Sl.one1b eI kI _ 2 _ (by rfl) _ rfl) (by show L.length+1≤maxLen;unfold maxLen;omega) (by show (L.length+1) * 8≤_;omega) I.size ?_;intro v' w4 a hgrow hat;have b4:=I.grown hgrow I.size (fun q hq=>(m.o.lt q hq).1);have F:=aa (au j.o fun q hq=>Mod.grown hgrow q (j.o.lt q hq).2 (fun e=>aR j.o m.o (by decide) q hq q e rfl));rw [←Z.o,←O.o] at a;obtain ⟨n6,k6,rfl⟩:=ag a;clear hgrow hat))
   go_roundw
   case rel=>exact ⟨k+1,by omega,by go_num,a,b4,F.o⟩
   case measure=>simp [intOf];omega
  ·obtain rfl:k=l.length:=by omega
   have af:¬ ((l.length:Int)<(l.length:Int)):=by omega
   have al:=ey (fun t=>unitsM s t) more l l.length;have H:=aa (aW _ _ wr (Sl.own kI Y.o) J.o (by omega));go_wp2_with (go_at_call 230;refine H.o.mono ?_;rintro e w3 ⟨rfl,c3⟩)
   go_ret2;exact ⟨rfl,d.trans (c3.mono d.size)⟩
end
theorem jI (n:Int):In64 (fitM n).1:=by
 unfold fitM;split
 ·assumption
 ·unfold In64;simp
theorem xC (ms na:Nat)(bl:List Int)(p:Sp×List Int):In64 (chg1 ms na bl p).2.now:=by
 unfold chg1;split
 ·split
  ·exact jI _
  ·unfold In64;simp
 ·unfold In64;simp
theorem zu:∀(cs:List Ch) (bl:List Int),All64 bl→(∀y∈cs,In64 y.now)→All64 (putM bl cs):=by
 intro cs;induction cs with
 | nil=>intro bl h _;exact h
 | cons x cs ih=>
  intro bl h a;refine ih _ (fun n hn=>?_) fun y hy=>a y (AG _ hy)
  rcases List.mem_or_eq_of_mem_set hn with h1 | h1
  ·exact h n h1
  ·rw [h1];exact a x (As ..)
theorem xD {ms na:Nat}{bl:List Int}{l:List En}(h:All64 bl):All64 (postM ms na bl l).2:=by
 unfold postM;split
 ·exact h
 split
 ·exact h
 ·refine zu _ _ h fun y hy=>?_
  unfold changesM at hy;split at hy
  ·simp at hy
  split at hy
  ·simp at hy
  split at hy
  ·simp at hy
  obtain ⟨x,_,_,rfl⟩:=eq _ _ y hy;exact xC _ _ _ _
theorem kQ {ms na:Nat}{hlds:List RH}{bl:List Int}{l:List En}(h:All64 bl):All64 (vpostM ms na hlds bl l).2:=by
 unfold vpostM;split
 ·exact h
 split
 ·exact h
 ·exact xD h
theorem iV {ms na:Nat}{hlds:List RH}{bl:List Int}{l:List En}:(vpostM ms na hlds bl l).2.length=bl.length:=by
 unfold vpostM;split
 ·rfl
 split
 ·rfl
 ·exact kf
theorem tL {ms na:Nat}{hlds:List RH}{bl:List Int}{a b:Ac}{ass amt:Int}(h:All64 bl):All64 (vmoveM ms na hlds bl a b ass amt).2:=by
 unfold vmoveM;split
 ·exact h
 ·exact kQ h
theorem qb {ms na:Nat}{hlds:List RH}{bl:List Int}{a b:Ac}{ass amt:Int}:(vmoveM ms na hlds bl a b ass amt).2.length=bl.length:=by
 unfold vmoveM;split
 ·rfl
 ·exact iV
variable {B:Nat}{K:List Nat}{A:DA}{D:DS}{w:World}
def DS.move (D:DS)(a b:Ac)(ass amt:Int):DS:={ D with bal:=(vmoveM D.C.mem.length (D.C.secs.length+1) D.hlds D.bal a b ass amt).2 }
theorem DOk.move (ok:DOk D)(a b:Ac)(ass amt:Int):DOk (D.move a b ass amt):=
 ⟨ok.cfg,(qb).trans ok.bal,tL ok.b64,ok.hlds,ok.rise,ok.obs,ok.o64,ok.who⟩
theorem iW (h:DkA w B A D)(ok:DOk D)(hK:KOk w K A)(hB:B≤w.heap.size)(a b:Ac)(ass amt:Int)(h64:In64 amt) :
  Calls Tryz.prog 167 #[ptr A.gv,aval a,aval b,.int .i64 ass,.int .i64 amt] w fun e w'=>∃gb vb p r,e=.returned (.int .i64 r)∧DSp B K w w' A { A with gb:=gb,vb:=vb,pst:=p } (D.move a b ass amt):=
 (pd B A.gv A.gb A.gh A.vb A.vh _ _ ok.cfg.m2 ok.na D.bal ok.bal ok.b64 A.pst _ D.hlds ok.hn K w h.vault (hK.blk h.vault.blk (by decide)) hB a b ass amt h64).mono fun _ _ ⟨gb,vb,p,he,hv,hm⟩=>⟨gb,vb,p,_,he,h.vaultP hm hv⟩
def DS.post (D:DS)(l:List En):DS:={ D with bal:=(vpostM D.C.mem.length (D.C.secs.length+1) D.hlds D.bal l).2 }
theorem DOk.post (ok:DOk D)(l:List En):DOk (D.post l):=
 ⟨ok.cfg,(iV).trans ok.bal,kQ ok.b64,ok.hlds,ok.rise,ok.obs,ok.o64,ok.who⟩
theorem qc (h:DkA w B A D)(ok:DOk D)(hK:KOk w K A)(hB:B≤w.heap.size)(v:Value)(l:List En)(hv:Sl eEn 4 w v l)(hn:l.length≤1000000)(h64:∀x∈l,In64 x.amt) :
  Calls Tryz.prog 141 #[ptr A.gv,v] w fun e w'=>∃gb vb p,e=.returned (.int .i64 (vpostM D.C.mem.length (D.C.secs.length+1) D.hlds D.bal l).1)∧DSp B K w w' A { A with gb:=gb,vb:=vb,pst:=p } (D.post l):=
 (iE B A.gv A.gb A.gh A.vb A.vh v _ _ ok.cfg.m2 ok.na D.bal ok.bal ok.b64 A.pst _ D.hlds ok.hn l K w h.vault hv hn h64 (hK.blk h.vault.blk (by decide)) hB).mono fun _ _ ⟨gb,vb,p,he,hv,hm⟩=>⟨gb,vb,p,he,h.vaultP hm hv⟩
theorem SPost.step {r:Int×List Ob}{e:Ending}{w':World}(h:DkA w B A D)(hs:SPost B A.gs A.vo K r w e w'):e=.returned (.int .i64 r.1)∧DSp B K w w' A { A with vo:=A.vo } { D with obs:=r.2 }:=
 ⟨hs.1,h.sheetS (hs.2.2.mono (by decide)) hs.2.1⟩
theorem kR (h:DkA w B A D)(ok:DOk D)(hK:KOk w K A)(m a amt:Int):Calls Tryz.prog 154 #[ptr A.gs,.int .i64 m,.int .i64 a,.int .i64 amt] w fun e w'=>e=.returned (.int .i64 (payM D.obs m a amt).1)∧DSp B K w w' A A { D with obs:=(payM D.obs m a amt).2 }:=
 (wP B A.gs A.vo D.obs m a amt K w h.sheet (by have:=ok.obs;omega) (hK.own h.sheet.own (by decide))).mono fun _ _ hs=>SPost.step h hs
def LeftIs (l:List Ob)(m a x y:Int):Prop:=(y=0∨y=8)∧(y=0↔0≤fnd (openM m a) l)∧(0≤fnd (openM m a) l→x=wrap64 (sizeM (obAt l (fnd (openM m a) l)) - (obAt l (fnd (openM m a) l)).done))
theorem qd (h:DkA w B A D)(ok:DOk D)(m a:Int):Calls Tryz.prog 194 #[ptr A.gs,.int .i64 m,.int .i64 a] w fun e w'=>∃x y:Int,e=.returned (.tuple #[.int .i64 x,.int .i64 y])∧LeftIs D.obs m a x y∧Bw w w':=
 (sE B A.gs A.vo D.obs m a w h.sheet (by have:=ok.obs;omega)).mono fun _ _ ⟨x,y,he,h1,h2,h3,hb⟩=>⟨x,y,he,⟨h1,h2,h3⟩,hb⟩
theorem DOk.obs' {l:List Ob}(ok:DOk D)(h1:l.length≤1024)(h2:∀x∈l,In64 x.net):DOk { D with obs:=l }:=⟨ok.cfg,ok.bal,ok.b64,ok.hlds,ok.rise,h1,h2,ok.who⟩
theorem oB {l:List Ob}{i:Nat}{x:Ob}(h1:l.length≤1024)(h2:∀x∈l,In64 x.net)(hx:In64 x.net):(l.set i x).length≤1024∧∀y∈l.set i x,In64 y.net:=by
 refine ⟨by rw [AH];exact h1,fun y hy=>?_⟩;rcases List.mem_or_eq_of_mem_set hy with h | h
 ·exact h2 y h
 ·rw [h];exact hx
theorem oC {l:List Ob}(h2:∀x∈l,In64 x.net)(i:Int):In64 (obAt l i).net:=by
 unfold obAt;rw [Ah];cases h:l[i.toNat]? with
 | none=>decide
 | some x=>exact h2 x (List.mem_of_getElem? h)
theorem jJ (ok:DOk D)(m a amt:Int):DOk { D with obs:=(payM D.obs m a amt).2 }:=by
 have h:(payM D.obs m a amt).2.length≤1024∧∀x∈(payM D.obs m a amt).2,In64 x.net:=by
  unfold payM;split
  ·exact ⟨ok.obs,ok.o64⟩
  split
  ·exact ⟨ok.obs,ok.o64⟩
  ·refine oB ok.obs ok.o64 ?_;exact oC ok.o64 (fnd (openM m a) D.obs)
 exact ok.obs' h.1 h.2
theorem gE (ok:DOk D)(m a s d:Int):DOk { D with obs:=(markM D.obs m a s d).2 }:=by
 have h:(markM D.obs m a s d).2.length≤1024∧∀x∈(markM D.obs m a s d).2,In64 x.net:=by
  unfold markM;split
  ·exact ⟨ok.obs,ok.o64⟩
  split
  ·exact ⟨ok.obs,ok.o64⟩
  ·refine oB ok.obs ok.o64 ?_;exact oC ok.o64 (fnd (openM m a) D.obs)
 exact ok.obs' h.1 h.2
theorem xE {α:Type}(l:List α)(i:Nat):(delL l i).Sublist l:=by
 unfold delL;have a:(l.drop (i+1)).Sublist (l.drop i):=by
  rw [show l.drop (i+1)=(l.drop i).drop 1 from by rw [List.drop_drop]];exact List.drop_sublist _ _
 have h:=(List.Sublist.refl (l.take i)).append a;rwa [List.take_append_drop] at h
def DS.release (D:DS)(id:Int):DS:={ D with hlds:=(vdropM D.hlds id).2 }
theorem xF (ok:DOk D)(id:Int):DOk (D.release id):=by
 have h:(vdropM D.hlds id).2.Sublist D.hlds:=by
  unfold vdropM;split
  ·exact xE _ _
  ·exact List.Sublist.refl _
 exact ⟨ok.cfg,ok.bal,ok.b64,z5 h.length_le ok.hlds,ok.rise.sublist h,ok.obs,ok.o64,ok.who⟩
theorem jK (h:DkA w B A D)(ok:DOk D)(hK:KOk w K A)(hB:B≤w.heap.size)(id:Int):Calls Tryz.prog 211 #[ptr A.gv,.int .i64 id] w fun e w'=>∃vh r,e=.returned (.int .i64 r)∧DSp B K w w' A { A with vh:=vh } (D.release id):=
 (kj B A.gv A.gb A.gh A.vb A.vh _ _ D.bal A.pst _ D.hlds ok.hn ok.rise id K w h.vault (hK.blk h.vault.hblk (by decide)) (hK.own h.vault.hown (by decide)) hB).mono fun _ _ ⟨vh,he,hv,hm,_⟩=>⟨vh,_,he,h.vaultH hm hv⟩
theorem mW (h:DkA w B A D)(ok:DOk D):Calls Tryz.prog 210 #[ptr A.gv] w (RPo eI 2 1 (D.hlds.map RH.rid) w):=
 (py B A.gv A.gb A.gh A.vb A.vh _ _ D.bal A.pst _ D.hlds ok.hn w h.vault).mono fun _ _ ⟨v,he,ho,hb⟩=>⟨v,he,by rw [Ad];exact ho,hb⟩
section
attribute [local go_sem ↓] Go.wp_at_zero Go.wp_at_succ
def GS.gross (D:GS)(t:Tr):Int×Int:=sumM (sumK (fun t=>(valM t).1) (valM t).1 D.trades D.trades.length)
def GS.many (D:GS)(t:Tr):Int×Int:=sumM (sumK (fun x=>unitsM t.sec x) t.qty D.trades D.trades.length)
def GS.room (D:GS)(t:Tr):Int:=if (D.gross t).2≠0∨(D.many t).2≠0∨288230376151711744<(D.gross t).1∨274877906944<(D.many t).1 then 2 else 0
theorem kS {B:Nat}{A:GA}{D:GS}{w:World}(h:RegAt w B A D)(ok:GOk D)(t:Tr)(ht:TrFit t)(hf:∀x∈D.trades,TrFit (trR x)):Calls Tryz.prog 148 #[ptr A.gr,vTr t] w fun e w'=>e=.returned (.int .i64 (D.room t))∧Bw w w':=by
 have k:Bw w (w.alloc (.cells (cTr t) 58)):=Bn;have H:=aa (h.keep k);have Q:=aa ok;have P:=aa hf;have O:=aa ht;have G:=aa (gD t ht (w.alloc (.cells (cTr t) 58)));have y:=aa (Blk.new w 58 (cTr t));have s:∀x:Tr,In64 (valM x).1:=fun x=>jI _
 have u:∀x∈D.trades,In64 ((fun x=>unitsM t.sec x) (trR x)):=fun x hx=>by
  have:=(hf x hx).q
  show In64 (unitsM t.sec (trR x))
  unfold unitsM;split
  ·exact this
  ·unfold In64;omega
 have v:=aa s;have C:=aa u;obtain ⟨⟨N,K⟩,M⟩:∃r,D.gross t=r:=⟨_,rfl⟩;obtain ⟨⟨m1,m2⟩,hm⟩:∃r,D.many t=r:=⟨_,rfl⟩;have T:=aa M;have S:=aa hm;have E:Hid (D.room t=if K≠0∨m2≠0∨288230376151711744<N∨274877906944<m1 then 2 else 0):=aa (by unfold GS.room;rw [M,hm]);have i:=aa (fun (W:World) (hW:RegAt W B A D)=>by
  have z:=xA hW Q.o (valM t).1 (v.o t) P.o (fun x _=>v.o _);rw [show sumM (sumK (fun t=>(valM t).1) (valM t).1 D.trades D.trades.length)=(N,K) from T.o] at z;exact z)
 have j:=aa (fun (W:World) (hW:RegAt W B A D)=>by
  have z:=xB hW Q.o t.sec t.qty O.o.q P.o C.o;rw [show sumM (sumK (fun x=>unitsM t.sec x) t.qty D.trades D.trades.length)=(m1,m2) from S.o] at z;exact z)
 clear h ok hf ht s u M hm;by_cases e1:K=0
 rotate_left
 ·have X:(K != 0)=true:=by simpa using e1
  have l:Hid (D.room t=2):=aa (by rw [E.o,if_pos (Or.inl e1)]);clear e1;go_enter Tryz.func148,Tryz.ntmps148;go_wp2_with (first | (go_at_call 184;refine G.o.mono ?_;rintro e I ⟨rfl,a⟩;have d:=aa (H.o.keep a);have m:=aa (y.o.keep a);have f:=k.trans (a.mono k.size)) | (go_at_call 183;(first | (refine (j.o _ p.o).mono ?_;rintro e w3 ⟨rfl,c3⟩;have n:=b.trans (c3.mono b.size)) | (refine (i.o _ d.o).mono ?_;rintro e w2 ⟨rfl,c2⟩;have p:=aa (d.o.keep c2);have g:=aa (m.o.keep c2);have b:=f.trans (c2.mono f.size);have J:=g.o.c 3;have L:=g.o.c 4))))
  go_ret;exact ⟨by rw [l.o];rfl,n⟩
 ·subst e1;by_cases e2:m2=0
  rotate_left
  ·have V:(m2 != 0)=true:=by simpa using e2
   have l:Hid (D.room t=2):=aa (by rw [E.o,if_pos (Or.inr (Or.inl e2))]);clear e2;go_enter Tryz.func148,Tryz.ntmps148;go_wp2_with (first | (go_at_call 184;refine G.o.mono ?_;rintro e I ⟨rfl,a⟩;have d:=aa (H.o.keep a);have m:=aa (y.o.keep a);have f:=k.trans (a.mono k.size)) | (go_at_call 183;(first | (refine (j.o _ p.o).mono ?_;rintro e w3 ⟨rfl,c3⟩;have n:=b.trans (c3.mono b.size)) | (refine (i.o _ d.o).mono ?_;rintro e w2 ⟨rfl,c2⟩;have p:=aa (d.o.keep c2);have g:=aa (m.o.keep c2);have b:=f.trans (c2.mono f.size);have J:=g.o.c 3;have L:=g.o.c 4))))
   go_ret;exact ⟨by rw [l.o];rfl,n⟩
  ·subst e2;by_cases e3:288230376151711744<N
   ·have R:=dT e3;have l:Hid (D.room t=2):=aa (by rw [E.o,if_pos (Or.inr (Or.inr (Or.inl e3)))]);clear e3;go_enter Tryz.func148,Tryz.ntmps148;go_wp2_with (first | (go_at_call 184;refine G.o.mono ?_;rintro e I ⟨rfl,a⟩;have d:=aa (H.o.keep a);have m:=aa (y.o.keep a);have f:=k.trans (a.mono k.size)) | (go_at_call 183;(first | (refine (j.o _ p.o).mono ?_;rintro e w3 ⟨rfl,c3⟩;have n:=b.trans (c3.mono b.size)) | (refine (i.o _ d.o).mono ?_;rintro e w2 ⟨rfl,c2⟩;have p:=aa (d.o.keep c2);have g:=aa (m.o.keep c2);have b:=f.trans (c2.mono f.size);have J:=g.o.c 3;have L:=g.o.c 4))))
    go_ret;exact ⟨by rw [l.o];rfl,n⟩
   ·have R:=dF e3;by_cases e4:274877906944<m1
    ·have U:=dT e4;have l:Hid (D.room t=2):=aa (by rw [E.o,if_pos (Or.inr (Or.inr (Or.inr e4)))]);clear e3 e4;go_enter Tryz.func148,Tryz.ntmps148;go_wp2_with (first | (go_at_call 184;refine G.o.mono ?_;rintro e I ⟨rfl,a⟩;have d:=aa (H.o.keep a);have m:=aa (y.o.keep a);have f:=k.trans (a.mono k.size)) | (go_at_call 183;(first | (refine (j.o _ p.o).mono ?_;rintro e w3 ⟨rfl,c3⟩;have n:=b.trans (c3.mono b.size)) | (refine (i.o _ d.o).mono ?_;rintro e w2 ⟨rfl,c2⟩;have p:=aa (d.o.keep c2);have g:=aa (m.o.keep c2);have b:=f.trans (c2.mono f.size);have J:=g.o.c 3;have L:=g.o.c 4))))
     go_ret;exact ⟨by rw [l.o];rfl,n⟩
    ·have U:=dF e4;have l:Hid (D.room t=0):=aa (by rw [E.o,if_neg (by simp only [ne_eq,not_true_eq_false,false_or];intro F;rcases F with F | F;exact e3 F;exact e4 F)]);clear e3 e4;go_enter Tryz.func148,Tryz.ntmps148;go_wp2_with (first | (go_at_call 184;refine G.o.mono ?_;rintro e I ⟨rfl,a⟩;have d:=aa (H.o.keep a);have m:=aa (y.o.keep a);have f:=k.trans (a.mono k.size)) | (go_at_call 183;(first | (refine (j.o _ p.o).mono ?_;rintro e w3 ⟨rfl,c3⟩;have n:=b.trans (c3.mono b.size)) | (refine (i.o _ d.o).mono ?_;rintro e w2 ⟨rfl,c2⟩;have p:=aa (d.o.keep c2);have g:=aa (m.o.keep c2);have b:=f.trans (c2.mono f.size);have J:=g.o.c 3;have L:=g.o.c 4))))
     go_ret;exact ⟨by rw [l.o];rfl,n⟩
end
end Go.Proofs.YtmhohaanddglbaaGreatDoor
namespace Go.Proofs.YtmhohaanddglbaaGreatDoor
def amtL (L:List Lg)(k:Sd):List Int:=(L.filter fun x=>decide (sdOf x=k)).map (·.amt)
def netOf (L:List Lg)(k:Sd):Int:=sumL (amtL L k)
def getG (k:Sd)(G:List (Sd×List Int)):List Int:=match G with
 | []=>[]
 | p :: l=>if k=p.1 then p.2 else getG k l
theorem tM (k k':Sd)(x:Int):∀G,getG k (addG k' x G)=if k=k' then getG k G++[x] else getG k G:=by
 intro G;induction G with
 | nil=>by_cases h:k=k' <;> simp [addG,getG,h]
 | cons p G ih=>
  by_cases h1:k'=p.1
  ·by_cases h2:k=k'
   ·subst h2;simp [addG,getG,h1]
   ·have a:¬ k=p.1:=fun h=>h2 (h.trans h1.symm)
    simp [addG,getG,h1,a]
  ·by_cases h2:k=p.1
   ·have a:¬ k=k':=fun h=>h1 (h.symm.trans h2)
    have b:¬ p.1=k':=fun h=>h1 h.symm
    simp [addG,getG,h1,h2,b]
   ·by_cases a:k=k'
    ·subst a;simp only [addG,h1,if_false,getG,ih,if_true]
    ·simp only [addG,h1,if_false,getG,h2,ih,a]
theorem qe (k:Sd):∀(L:List Lg) (G:List (Sd×List Int)),getG k (L.foldl (fun G x=>addG (sdOf x) x.amt G) G)=getG k G++amtL L k:=by
 intro L;induction L with
 | nil=>intro G;simp [amtL]
 | cons x L ih=>
  intro G;rw [List.foldl_cons,ih,tM];unfold amtL;by_cases h:k=sdOf x
  ·subst h;simp
  ·have a:¬ sdOf x=k:=fun e=>h e.symm
   simp [h,a]
theorem dp (L:List Lg)(k:Sd):getG k (gpN L)=amtL L k:=by
 unfold gpN;rw [qe];simp [getG]
theorem tN:∀(G:List (Sd×List Int)),(G.map (·.1)).Nodup→∀p∈G,getG p.1 G=p.2:=by
 intro G;induction G with
 | nil=>intro _ p a;simp at a
 | cons q G ih=>
  intro b p a;rw [Am,List.nodup_cons] at b;rcases Aq.1 a with rfl | a
  ·simp [getG]
  ·have h:¬ p.1=q.1:=fun e=>b.1 (e ▸ AD.2 ⟨p,a,rfl⟩)
   simp only [getG,h,if_false];exact ih b.2 p a
theorem kT:∀(G:List (Sd×List Int)) (k:Sd),getG k G≠[]→∃p∈G,p.1=k:=by
 intro G;induction G with
 | nil=>intro k h;exact absurd rfl h
 | cons q G ih=>
  intro k h;by_cases h1:k=q.1
  ·exact ⟨q,As ..,h1.symm⟩
  ·simp only [getG,h1,if_false] at h;obtain ⟨p,a,e⟩:=ih k h;exact ⟨p,AG _ a,e⟩
theorem gF (L:List Lg)(p:Sd×List Int)(hp:p∈gpN L):p.2=amtL L p.1:=by
 rw [←dp,tN _ (cc L) p hp]
def totA (a:Int)(G:List (Sd×List Int)):Int:=(G.map fun p=>if p.1.ass=a then sumL p.2 else 0).sum
def posA (a:Int)(G:List (Sd×List Int)):Int:=(G.map fun p=>if p.1.ass=a then max (sumL p.2) 0 else 0).sum
theorem iX (l:List Int)(x:Int):sumL (l++[x])=sumL l+x:=by simp [sumL]
theorem tP (a:Int)(k:Sd)(x:Int):∀G,totA a (addG k x G)=totA a G+if k.ass=a then x else 0:=by
 intro G;induction G with
 | nil=>simp [totA,addG,sumL]
 | cons p G ih=>
  unfold totA at *;by_cases hk:k=p.1
  ·simp only [addG,hk,if_true,Am,AB,iX];split <;> omega
  ·simp only [addG,hk,if_false,Am,AB,ih];omega
theorem tQ (a:Int)(k:Sd)(x:Int):∀G,posA a (addG k x G)≤posA a G+if k.ass=a then max x 0 else 0:=by
 intro G;induction G with
 | nil=>simp [posA,addG,sumL]
 | cons p G ih=>
  unfold posA at *;by_cases hk:k=p.1
  ·simp only [addG,hk,if_true,Am,AB,iX];split <;> omega
  ·simp only [addG,hk,if_false,Am,AB];omega
theorem iY (a:Int):∀(L:List Lg) (G:List (Sd×List Int)),totA a (L.foldl (fun G x=>addG (sdOf x) x.amt G) G)=totA a G+(L.map fun x=>if x.ass=a then x.amt else 0).sum:=by
 intro L;induction L with
 | nil=>intro G;simp
 | cons x L ih=>
  intro G;rw [List.foldl_cons,ih,tP,Am,AB];show _+(if x.ass=a then x.amt else 0)+_=_
  omega
theorem iZ (a:Int):∀(L:List Lg) (G:List (Sd×List Int)),posA a (L.foldl (fun G x=>addG (sdOf x) x.amt G) G)≤posA a G+(L.map fun x=>if x.ass=a then max x.amt 0 else 0).sum:=by
 intro L;induction L with
 | nil=>intro G;simp
 | cons x L ih=>
  intro G;rw [List.foldl_cons,Am,AB];have d:=ih (addG (sdOf x) x.amt G);have c:=tQ a (sdOf x) x.amt G;have b:(sdOf x).ass=x.ass:=rfl;rw [b] at c;omega
def grL (T:List Tr):Int:=(T.map fun t=>(valM t).1).sum
def unL (T:List Tr)(a:Int):Int:=(T.map fun t=>if t.sec=a then t.qty else 0).sum
theorem gG (a:Int):∀(T:List Tr),((T.flatMap lg4).map fun x=>if x.ass=a then x.amt else 0).sum=0:=by
 intro T;induction T with
 | nil=>simp
 | cons t T ih=>
  rw [List.flatMap_cons,AI,List.sum_append,ih];simp only [lg4,Am,List.map_nil,AB,List.sum_nil];split <;> split <;> omega
theorem kU (a:Int):∀(T:List Tr),(∀t∈T,TrGood t∧t.sec≠0)→((T.flatMap lg4).map fun x=>if x.ass=a then max x.amt 0 else 0).sum=if a=0 then grL T else unL T a:=by
 intro T;induction T with
 | nil=>intro _;simp [grL,unL]
 | cons t T ih=>
  intro h;rw [List.flatMap_cons,AI,List.sum_append,ih fun x hx=>h x (AG _ hx)];obtain ⟨h1,h2⟩:=h t (As ..);have c:=h1.v0;have d:=h1.q0;simp only [lg4,Am,List.map_nil,AB,List.sum_nil,grL,unL];by_cases ha:a=0
  ·subst ha;simp only [if_true,h2,if_false];omega
  ·have b:¬ (0:Int)=a:=fun e=>ha e.symm
   simp only [ha,b,if_false];split <;> omega
theorem kW (a:Int):∀(G:List (Sd×List Int)),(∀p∈G,In64 (sumL p.2))→((G.filterMap netF).map fun x=>if x.ass=a then x.amt else 0).sum=totA a G:=by
 intro G;induction G with
 | nil=>intro _;simp [totA]
 | cons p G ih=>
  intro h;have b:=ih fun q hq=>h q (AG _ hq)
  have c:(sumM p.2).1=sumL p.2:=by unfold sumM fitM;rw [if_pos (h p (As ..))]
  unfold totA at *;rw [List.filterMap_cons];by_cases h3:sumL p.2=0
  ·have e:netF p=none:=by unfold netF;rw [c,h3];simp
   simp only [e,Am,AB,h3,b];split <;> omega
  ·have e:netF p=some ⟨p.1.mem,p.1.ass,sumL p.2⟩:=by unfold netF;rw [c];simp [h3]
   simp only [e,Am,AB,b]
theorem kX (a:Int):∀(G:List (Sd×List Int)),(∀p∈G,In64 (sumL p.2))→((G.filterMap netF).map fun x=>if x.ass=a then max x.amt 0 else 0).sum=posA a G:=by
 intro G;induction G with
 | nil=>intro _;simp [posA]
 | cons p G ih=>
  intro h;have b:=ih fun q hq=>h q (AG _ hq)
  have c:(sumM p.2).1=sumL p.2:=by unfold sumM fitM;rw [if_pos (h p (As ..))]
  unfold posA at *;rw [List.filterMap_cons];by_cases h3:sumL p.2=0
  ·have e:netF p=none:=by unfold netF;rw [c,h3];simp
   simp only [e,Am,AB,h3,b];split <;> omega
  ·have e:netF p=some ⟨p.1.mem,p.1.ass,sumL p.2⟩:=by unfold netF;rw [c];simp [h3]
   simp only [e,Am,AB,b]
theorem qf (a:Int):∀(l:List Lg),sumL (((l.filterMap (nmineF a)).filterMap ndebtF).filterMap (ntotF a))=(l.map fun x=>if x.ass=a then max x.amt 0 else 0).sum:=by
 intro l;induction l with
 | nil=>rfl
 | cons x l ih=>
  rw [Am,AB,←ih];by_cases h1:x.ass=a
  ·by_cases h2:0<x.amt
   ·have e:max x.amt 0=x.amt:=by omega
    simp [nmineF,ndebtF,ntotF,h1,h2,sumL,e]
   ·have e:max x.amt 0=0:=by omega
    simp [nmineF,ndebtF,ntotF,h1,h2,sumL,e]
  ·simp [nmineF,h1]
theorem jL (a:Int):∀(l:List Lg),sumL (((l.filterMap (nmineF a)).filterMap nclaimF).filterMap (ntotF a))=(l.map fun x=>if x.ass=a then max x.amt 0 else 0).sum - (l.map fun x=>if x.ass=a then x.amt else 0).sum:=by
 intro l;induction l with
 | nil=>rfl
 | cons x l ih=>
  rw [Am,AB,Am,AB];by_cases h1:x.ass=a
  ·by_cases h2:x.amt<0
   ·have e:max x.amt 0=0:=by omega
    simp [nmineF,nclaimF,ntotF,h1,h2,sumL,e] at ih ⊢
    omega
   ·have e:max x.amt 0=x.amt:=by omega
    simp [nmineF,nclaimF,ntotF,h1,h2,sumL,e] at ih ⊢
    omega
  ·simp [nmineF,h1,sumL] at ih ⊢
   omega
theorem kY (C:Cfg):∀(l:List Lg),(∀x∈l,legM C x.mem x.ass=0)→firstBad C l=0:=by
 intro l;induction l with
 | nil=>intro _;rfl
 | cons x l ih=>
  intro h;unfold firstBad;rw [if_neg (by simpa using h x (As ..))];exact ih fun y hy=>h y (AG _ hy)
structure Accept (C:Cfg)(T:List Tr):Prop where
 good:∀t∈T,TrGood t
 who:∀t∈T,okM C t.byr∧okM C t.slr∧okS C t.sec
 n:T.length≤64
 gross:grL T≤288230376151711744
 units:∀a,unL T a≤274877906944
theorem eP:∀(T:List Tr),(T.flatMap lg4).length=4 * T.length:=by
 intro T;induction T with
 | nil=>rfl
 | cons t T ih=>
  rw [List.flatMap_cons,z8,ih];show 4+4 * T.length=4 * (T.length+1)
  omega
theorem fw {α β γ:Type}(f:α→Option β)(k:α→γ)(k':β→γ)(hk:∀x y,f x=some y→k' y=k x):∀(l:List α),(l.map k).Nodup→((l.filterMap f).map k').Nodup:=by
 intro l;induction l with
 | nil=>intro _;simp
 | cons x l ih=>
  intro h;rw [Am,List.nodup_cons] at h;rw [List.filterMap_cons];split
  ·exact ih h.2
  ·rename_i y e
   rw [Am,List.nodup_cons];refine ⟨fun hm=>h.1 ?_,ih h.2⟩;obtain ⟨z,b,a⟩:=AD.1 hm;obtain ⟨u,hu,hf⟩:=AN.1 b;rw [hk x y e,hk u z hf] at a;exact AD.2 ⟨u,hu,a⟩
theorem kZ {C:Cfg}{T:List Tr}(h:Accept C T):∀p∈gpN (T.flatMap lg4),In64 (sumL p.2):=by
 intro p c;have j:posA p.1.ass (gpN (T.flatMap lg4))≤288230376151711744:=by
  have:=iZ p.1.ass (T.flatMap lg4) []
  rw [kU _ T fun t ht=>⟨h.good t ht,by have:=(h.who t ht).2.2.1;omega⟩] at this;have m:=h.gross;have l:=h.units p.1.ass;unfold gpN;simp only [posA,List.map_nil,List.sum_nil,Int.zero_add] at this ⊢;split at this <;> omega
 have f:totA p.1.ass (gpN (T.flatMap lg4))=0:=by
  have:=iY p.1.ass (T.flatMap lg4) []
  rw [gG] at this;simpa [totA,gpN] using this
 have d:∀(G:List (Sd×List Int)) (a:Int),(∀q∈G,q.1.ass=a→sumL q.2≤posA a G∧totA a G - posA a G≤sumL q.2)∧0≤posA a G∧totA a G≤posA a G:=by
  intro G a;induction G with
  | nil=>simp [posA,totA]
  | cons q G ih=>
   obtain ⟨b,k,i⟩:=ih;unfold posA totA at *;simp only [Am,AB];refine ⟨fun r hr ha=>?_,?_,?_⟩
   ·rcases Aq.1 hr with rfl | hr
    ·simp only [ha,if_true];omega
    ·have:=b r hr ha
     split <;> omega
   ·split <;> omega
   ·split <;> omega
 have g:=(d (gpN (T.flatMap lg4)) p.1.ass).1 p c rfl;unfold In64;omega
structure NetsOk (C:Cfg)(T:List Tr)(nets:List Lg):Prop where
 whole:wholeM (C.secs.length+1) nets=0
 len:nets.length≤1024
 nd:(nets.map sdOf).Nodup
 is:∀x∈nets,x.amt=netOf (T.flatMap lg4) (sdOf x)∧x.amt≠0
 all:∀k,netOf (T.flatMap lg4) k≠0→(⟨k.mem,k.ass,netOf (T.flatMap lg4) k⟩:Lg)∈nets
 twice:twiceAny nets=false
 n64:∀x∈nets,-9223372036854775808<x.amt∧x.amt≤9223372036854775807
theorem cF {l m:List Int}(h:l.Perm m):l.sum=m.sum:=by
 induction h with
 | nil=>rfl
 | cons x _ ih=>simp [ih]
 | swap x y l=>simp only [AB];omega
 | trans _ _ h1 h2=>exact h1.trans h2
theorem xG {C:Cfg}{T:List Tr}(h:Accept C T){nets:List Lg}{r:Int}(hr:NetsIs C (T.flatMap lg4) nets r):r=0∧NetsOk C T nets:=by
 have E:=kZ h;have S:=eP T;have hn:=h.n;unfold NetsIs at hr;rw [if_neg (by omega),if_neg,if_neg] at hr;rotate_left
 ·intro m;obtain ⟨p,g,he⟩:=At.1 m;have:(sumM p.2).2=0:=by unfold sumM fitM;rw [if_pos (E p g)]
  simp [this] at he
 ·rw [kY]
  ·simp
  ·intro x c;obtain ⟨t,ht,c⟩:=List.mem_flatMap.1 c;obtain ⟨w1,w2,w3⟩:=h.who t ht;simp only [lg4,Aq,Be,or_false] at c;unfold legM;rcases c with rfl | rfl | rfl | rfl
   ·simp [w1]
   ·simp [w1,w3]
   ·simp [w2]
   ·simp [w2,w3]
 obtain ⟨Z,Q,X,rfl⟩:=hr;refine ⟨Z,?_⟩;generalize U:(Q.map fun i=>(gpN (T.flatMap lg4)).getD i zG)=G;have b:G.Perm (gpN (T.flatMap lg4)):=by
  rw [←U];refine (X.map _).trans (List.Perm.of_eq ?_);apply List.ext_getElem
  ·simp
  ·intro i d B;simp at d;simp [Ah,d]
 have l:∀p,p∈G↔p∈gpN (T.flatMap lg4):=fun p=>b.mem_iff
 have f:∀p∈G,In64 (sumL p.2):=fun p g=>E p ((l p).1 g)
 have I:(G.map (·.1)).Nodup:=(b.map _).nodup_iff.2 (cc _);have o:∀a,totA a G=0:=fun a=>by
  have e:totA a G=totA a (gpN (T.flatMap lg4)):=by unfold totA;exact cF (b.map _)
  have:=iY a (T.flatMap lg4) []
  rw [gG] at this;rw [e];simpa [totA,gpN] using this
 have s:∀a,posA a G≤if a=0 then grL T else unL T a:=fun a=>by
  have e:posA a G=posA a (gpN (T.flatMap lg4)):=by unfold posA;exact cF (b.map _)
  have:=iZ a (T.flatMap lg4) []
  rw [kU _ T fun t ht=>⟨h.good t ht,by have:=(h.who t ht).2.2.1;omega⟩] at this;rw [e];unfold gpN;simpa [posA] using this
 have D:∀a,0≤posA a G:=fun a=>by
  unfold posA;clear U b l f I o s;induction G with
  | nil=>simp
  | cons p G ih=>simp only [Am,AB];split <;> omega
 have u:∀a,nsidesM (G.filterMap netF) a=(posA a G,posA a G,0):=fun a=>by
  have V:=qf a (G.filterMap netF);have O:=jL a (G.filterMap netF);rw [kX a G f] at V O;rw [kW a G f,o a] at O;have d:=s a;have B:=D a;have W:=h.gross;have hu:=h.units a;have P:In64 (posA a G):=by unfold In64;split at d <;> omega
  unfold nsidesM;simp only [sumM,V,O,Int.sub_zero];unfold fitM;rw [if_pos P];simp
 have q:∀a,posA a G≤mostM a:=fun a=>by
  have d:=s a;have W:=h.gross;have hu:=h.units a;unfold mostM;split at d <;> simp_all <;> omega
 have v:∀x∈G.filterMap netF,x.amt=netOf (T.flatMap lg4) (sdOf x)∧x.amt≠0∧In64 x.amt:=by
  intro x c;obtain ⟨p,g,he⟩:=AN.1 c;have d:=gF _ p ((l p).1 g);have B:(sumM p.2).1=sumL p.2:=by unfold sumM fitM;rw [if_pos (f p g)]
  unfold netF at he;rw [B] at he;split at he
  ·rename_i R
   cases he
   refine ⟨?_,R,f p g⟩;show sumL p.2=sumL (amtL _ (sdOf ⟨p.1.mem,p.1.ass,sumL p.2⟩))
   rw [show sdOf ⟨p.1.mem,p.1.ass,sumL p.2⟩=p.1 from rfl,←d]
  ·cases he
 have A:((G.filterMap netF).map sdOf).Nodup:=fw netF (·.1) sdOf (fun p x he=>by
  unfold netF at he;split at he
  ·cases he;rfl
  ·cases he) G I
 have L:∀x∈G.filterMap netF,-9223372036854775808<x.amt:=by
  intro x c;have R:∀(H:List Lg) (a:Int),(∀y∈H,y.ass=a→(H.map fun x=>if x.ass=a then x.amt else 0).sum - (H.map fun x=>if x.ass=a then max x.amt 0 else 0).sum≤y.amt)∧(H.map fun x=>if x.ass=a then x.amt else 0).sum≤(H.map fun x=>if x.ass=a then max x.amt 0 else 0).sum:=by
   intro H a;induction H with
   | nil=>simp
   | cons y H ih=>
    obtain ⟨i1,i2⟩:=ih;simp only [Am,AB];refine ⟨fun z hz ha=>?_,?_⟩
    ·rcases Aq.1 hz with rfl | hz
     ·simp only [ha,if_true];omega
     ·have:=i1 z hz ha
      split <;> omega
    ·split <;> omega
  have Y:=(R _ x.ass).1 x c rfl;rw [kW _ G f,kX _ G f,o] at Y;have d:=q x.ass;unfold mostM at d;split at d <;> omega
 refine ⟨?_,?_,A,fun x c=>⟨(v x c).1,(v x c).2.1⟩,fun k hk=>?_,?_,fun x c=>⟨L x c,(v x c).2.2.2⟩⟩
 ·unfold wholeM ruleK;rw [if_neg,if_neg]
  ·intro m;obtain ⟨a,_,ha⟩:=At.1 m;unfold neA at ha;rw [u] at ha;simp at ha
  ·intro m;obtain ⟨a,_,ha⟩:=At.1 m;unfold badA at ha;rw [u] at ha;have:=q (a:Int)
   simp at ha;omega
 ·refine z5 (Ak _ _) ?_;have d:=b.length_eq;have B:=(bI (T.flatMap lg4)).1;omega
 ·have F:amtL (T.flatMap lg4) k≠[]:=fun e=>hk (by unfold netOf;rw [e];rfl)
  rw [←dp] at F;obtain ⟨p,g,rfl⟩:=kT _ _ F;have d:=gF _ p g;refine AN.2 ⟨p,(l p).2 g,?_⟩;have B:(sumM p.2).1=sumL p.2:=by unfold sumM fitM;rw [if_pos (E p g)]
  unfold netF;rw [B,d];exact if_pos hk
 ·unfold twiceAny;rw [Bj];intro i K;have K:i<(G.filterMap netF).length:=by simpa using K
  rw [Ah,Ab K,Option.getD_some];have c:=Ag K;have d:=v _ c;have B:=L _ c;unfold twiceM;intro m;simp only [Bool.or_eq_true,decide_eq_true_eq] at m;rcases m with (m | m) | m
  ·exact d.2.1 m
  ·omega
  ·obtain ⟨y,hy,J⟩:=At.1 m;obtain ⟨j,hj,rfl⟩:=Ao hy;rw [Aa] at hj;rw [List.getElem_take] at J;have N:j<i:=by omega
   have M:j<(G.filterMap netF).length:=by omega
   have e:sdOf ((G.filterMap netF)[j])=sdOf ((G.filterMap netF)[i]):=by
    unfold sameSide at J;simp at J;unfold sdOf;rw [J.1,J.2]
   have g:=List.pairwise_iff_getElem.1 (Bg.1 A) j i (by simpa using M) (by simpa using K) N;simp at g;exact g e
end Go.Proofs.YtmhohaanddglbaaGreatDoor
namespace Go.Proofs.YtmhohaanddglbaaGreatDoor
open Go.RowKit
structure GInv (D:GS):Prop where
 ok:GOk D
 sub:∀x∈D.trades,hasM RU.rid D.used x.rid=true
 tl:(D.trades.length:Int)≤D.acd
 al:D.acd≤D.C.trades
 ul:(D.used.length:Int)≤D.C.trades * D.C.cyc.length
 id:∀x∈D.trades,x.rid=x.id
 good:∀x∈D.trades,TrGood (trR x)∧okM D.C (trR x).byr∧okM D.C (trR x).slr∧okS D.C (trR x).sec
def rtOf (t:Tr):RT:=⟨t.id,t.id,t.byr,t.slr,t.sec,t.qty,t.prc⟩
theorem zv (t:Tr):trR (rtOf t)=t:=rfl
def GS.put (D:GS)(t:Tr):GS:={ D with trades:=insL D.trades (posM RT.rid D.trades t.id) (rtOf t),used:=insL D.used (posM RU.rid D.used t.id) ⟨t.id,wrap64 (D.acd+1)⟩,acd:=wrap64 (D.acd+1) }
def GS.add (D:GS)(t:Tr):Int×GS:=
 if tcM D.C t≠0 then (tcM D.C t,D)
 else if hasM RU.rid D.used t.id=true then (7,D)
 else if D.C.trades≤D.acd∨(D.used.length:Int)=D.C.trades * D.C.cyc.length then (6,D)
 else if D.room t≠0 then (D.room t,D)
 else (0,D.put t)
theorem bO {C:Cfg}{t:Tr}(hf:TrFit t)(h:tcM C t=0):TrGood t∧okM C t.byr∧okM C t.slr∧okS C t.sec∧1≤t.qty∧1≤t.prc∧t.byr≠t.slr:=by
 unfold tcM at h;split at h
 ·rename_i a;exact absurd h a
 ·rename_i a
  have a:whoM C t=0:=by simpa using a
  unfold whoM at a;split at a
  ·rename_i g
   split at a
   ·omega
   rename_i k
   split at h
   ·rename_i j
    split at h
    ·omega
    rename_i f
    split at h
    ·omega
    rename_i b
    have d:(valM t).2=0∧(valM t).1≤288230376151711744∧t.qty≤274877906944:=by
     unfold greatM at b;simp at b;exact ⟨b.1.1,by omega,by omega⟩
    have f:1≤t.qty∧1≤t.prc:=by omega
    have c:0≤(valM t).1:=by
     have i:0≤t.qty * t.prc:=Int.mul_nonneg (by omega) (by omega);unfold valM fitM;split
     ·exact i
     ·exact Int.le_refl _
    exact ⟨⟨hf,d.1,⟨c,d.2.1⟩,⟨by omega,d.2.2⟩⟩,g.1,g.2,j,f.1,f.2,k⟩
   ·omega
  ·omega
theorem dA {α:Type}(l:List α)(i:Nat)(x y:α):y∈insL l i x↔y=x∨y∈l:=by
 unfold insL;rw [AJ,Aq];constructor
 ·rintro (h | h | h)
  ·exact Or.inr (List.mem_of_mem_take h)
  ·exact Or.inl h
  ·exact Or.inr (Bh h)
 ·rintro (h | h)
  ·exact Or.inr (Or.inl h)
  ·rw [←List.take_append_drop i l] at h;rcases AJ.1 h with h | h
   ·exact Or.inl h
   ·exact Or.inr (Or.inr h)
theorem tR {α:Type}(l:List α)(i:Nat)(x:α):(insL l i x).Perm (x :: l):=by
 unfold insL;refine List.perm_middle.trans ?_;rw [List.take_append_drop]
theorem oD {α:Type}(rid:α→Int)(l:List α)(i:Nat)(x:α)(n:Int):hasM rid (insL l i x) n=(decide (rid x=n)||hasM rid l n):=by
 unfold hasM;rw [Bool.eq_iff_iff];simp only [At,Bool.or_eq_true,decide_eq_true_eq];constructor
 ·rintro ⟨y,a,e⟩;rcases (dA l i x y).1 a with rfl | a
  ·exact Or.inl e
  ·exact Or.inr ⟨y,a,e⟩
 ·rintro (e | ⟨y,a,e⟩)
  ·exact ⟨x,(dA l i x x).2 (Or.inl rfl),e⟩
  ·exact ⟨y,(dA l i x y).2 (Or.inr a),e⟩
theorem mX {α:Type}(rid:α→Int)(l:List α)(id:Int):posM rid l id≤l.length:=List.countP_le_length
theorem dO {D:GS}(h:GInv D){n:Int}(hn:hasM RU.rid D.used n=false):hasM RT.rid D.trades n=false:=by
 cases hh:hasM RT.rid D.trades n with
 | false=>rfl
 | true=>
  unfold hasM at hh;obtain ⟨x,a,e⟩:=At.1 hh;have:=h.sub x a
  have e:x.rid=n:=by simpa using e
  rw [e,hn] at this;exact this.symm
theorem dX {D:GS}(h:GInv D):0≤D.acd∧D.acd≤64:=by
 have:=h.tl
 have:=h.al
 have:=h.ok.cfg.trades
 omega
theorem oE {D:GS}(h:GInv D){t:Tr}(hf:TrFit t)(h1:tcM D.C t=0)(h2:hasM RU.rid D.used t.id=false)(h3:D.acd<D.C.trades)(h4:(D.used.length:Int)<D.C.trades * D.C.cyc.length):GInv (D.put t):=by
 have j:=dX h;have g:wrap64 (D.acd+1)=D.acd+1:=by unfold wrap64;omega
 have b:=bO hf h1;have f:=h.ok.cfg.trades;have i:=h.tl;have c:(D.put t).trades.length=D.trades.length+1:=aJ _ _ _ (mX _ _ _);have d:(D.put t).used.length=D.used.length+1:=aJ _ _ _ (mX _ _ _);refine ⟨⟨h.ok.cfg,?_,?_,?_,?_⟩,?_,?_,?_,?_,?_,?_⟩
 ·rw [c];omega
 ·rw [d];have k:=h.ok.cfg.c2;have:D.C.trades * (D.C.cyc.length:Int)≤64 * 4:=Int.mul_le_mul f.2 (by omega) (by omega) (by omega)
  omega
 ·exact dW RT.rid (rtOf t) D.trades h.ok.tr (dO h h2)
 ·exact dW RU.rid ⟨t.id,wrap64 (D.acd+1)⟩ D.used h.ok.ur h2
 ·intro x a;show hasM RU.rid (insL _ _ _) x.rid=true
  rw [oD];rcases (dA _ _ _ _).1 a with rfl | a
  ·simp [rtOf]
  ·simp [h.sub x a]
 ·rw [c];show _≤wrap64 (D.acd+1)
  omega
 ·show wrap64 (D.acd+1)≤D.C.trades
  omega
 ·rw [d];show _≤D.C.trades * (D.C.cyc.length:Int)
  omega
 ·intro x a;rcases (dA _ _ _ _).1 a with rfl | a
  ·rfl
  ·exact h.id x a
 ·intro x a;rcases (dA _ _ _ _).1 a with rfl | a
  ·exact ⟨b.1,b.2.1,b.2.2.1,b.2.2.2.1⟩
  ·exact h.good x a
theorem xH {D:GS}(h:GInv D){t:Tr}(hf:TrFit t):GInv (D.add t).2:=by
 unfold GS.add;split
 ·exact h
 split
 ·exact h
 split
 ·exact h
 split
 ·exact h
 ·rename_i a b d c
  have:=h.ul
  exact oE h hf (by simpa using a) (by simpa using b) (by omega) (by omega)
def refOk (C:Cfg)(L:List Tr)(t:Tr):Prop:=
 tcM C t=0∧t.id∉L.map (·.id)∧(L.length:Int)<C.trades∧(L.length:Int)<C.trades * C.cyc.length∧grL L+(valM t).1≤288230376151711744∧unL L t.sec+t.qty≤274877906944
structure RegRel (D:GS)(L:List Tr):Prop where
 inv:GInv D
 perm:(D.trades.map trR).Perm L
 ids:∀i,hasM RU.rid D.used i=true↔i∈L.map (·.id)
 acc:D.acd=L.length
 ul:D.used.length=L.length
 gross:grL L≤288230376151711744
 units:∀a,unL L a≤274877906944
theorem tS {D:GS}{L:List Tr}(h:RegRel D L)(t:Tr):sumL (sumK (fun t=>(valM t).1) (valM t).1 D.trades D.trades.length)=grL L+(valM t).1:=by
 have e:(D.trades.map fun x=>(valM (trR x)).1).sum=grL L:=by
  have:=cF (h.perm.map fun t=>(valM t).1)
  rw [List.map_map] at this;exact this
 unfold sumK sumL;rw [Ap,AB,e];omega
theorem xI {D:GS}{L:List Tr}(h:RegRel D L)(t:Tr):sumL (sumK (fun x=>unitsM t.sec x) t.qty D.trades D.trades.length)=unL L t.sec+t.qty:=by
 have e:(D.trades.map fun x=>unitsM t.sec (trR x)).sum=unL L t.sec:=by
  have:=cF (h.perm.map fun x=>unitsM t.sec x)
  rw [List.map_map] at this;exact this
 unfold sumK sumL;rw [Ap,AB,e];omega
theorem ez {D:GS}{L:List Tr}(h:RegRel D L):∀t∈L,TrGood t∧okM D.C t.byr∧okM D.C t.slr∧okS D.C t.sec:=fun t ht=>by
 obtain ⟨x,hx,rfl⟩:=AD.1 (h.perm.mem_iff.2 ht);exact h.inv.good x hx
theorem ld {L:List Tr}(h:∀t∈L,TrGood t):0≤grL L:=by
 induction L with
 | nil=>simp [grL]
 | cons t L ih=>
  have a:=ih fun x hx=>h x (AG _ hx)
  have b:=(h t (As ..)).v0;unfold grL at *;rw [Am,AB];omega
theorem le {L:List Tr}(h:∀t∈L,TrGood t)(a:Int):0≤unL L a:=by
 induction L with
 | nil=>simp [unL]
 | cons t L ih=>
  have b:=ih fun x hx=>h x (AG _ hx)
  have c:=(h t (As ..)).q0;unfold unL at *;rw [Am,AB];split <;> omega
theorem xJ {D:GS}{L:List Tr}(h:RegRel D L){t:Tr}(ht:TrGood t):D.room t=0↔grL L+(valM t).1≤288230376151711744∧unL L t.sec+t.qty≤274877906944:=by
 have i:=ld fun x hx=>(ez h x hx).1
 have j:=le (fun x hx=>(ez h x hx).1) t.sec;have f:=h.gross;have l:=h.units t.sec;have k:=ht.v0;have g:=ht.q0;have a:In64 (grL L+(valM t).1):=by unfold In64;omega
 have c:In64 (unL L t.sec+t.qty):=by unfold In64;omega
 have b:D.gross t=(grL L+(valM t).1,0):=by unfold GS.gross sumM;rw [tS h];unfold fitM;rw [if_pos a]
 have d:D.many t=(unL L t.sec+t.qty,0):=by unfold GS.many sumM;rw [xI h];unfold fitM;rw [if_pos c]
 unfold GS.room;rw [b,d];simp only [ne_eq,not_true_eq_false,false_or];split <;> simp <;> omega
theorem dY (L:List Tr)(t:Tr):grL (L++[t])=grL L+(valM t).1:=by simp [grL]
theorem gH (L:List Tr)(t:Tr)(a:Int):unL (L++[t]) a=unL L a+if t.sec=a then t.qty else 0:=by simp [unL]
theorem xK {D:GS}{L:List Tr}(h:RegRel D L){t:Tr}(hf:TrFit t):((D.add t).1=0↔refOk D.C L t)∧((D.add t).1=0→RegRel (D.add t).2 (L++[t]))∧((D.add t).1≠0→(D.add t).2=D)∧(D.add t).2.C=D.C:=by
 have f:=h.ids t.id;by_cases h1:tcM D.C t=0
 rotate_left
 ·have e:D.add t=(tcM D.C t,D):=by unfold GS.add;rw [if_pos h1]
  rw [e];exact ⟨⟨fun d=>absurd d h1,fun d=>absurd d.1 h1⟩,fun d=>absurd d h1,fun _=>rfl,rfl⟩
 by_cases d:hasM RU.rid D.used t.id=true
 ·have e:D.add t=(7,D):=by unfold GS.add;rw [if_neg (by simpa using h1),if_pos d]
  rw [e];exact ⟨⟨fun h3=>by simp at h3,fun h3=>absurd (f.1 d) h3.2.1⟩,fun h3=>by simp at h3,fun _=>rfl,rfl⟩
 by_cases h3:D.C.trades≤D.acd∨(D.used.length:Int)=D.C.trades * D.C.cyc.length
 ·have e:D.add t=(6,D):=by unfold GS.add;rw [if_neg (by simpa using h1),if_neg d,if_pos h3]
  rw [e];have k:=h.acc;have g:=h.ul;refine ⟨⟨fun h4=>by simp at h4,fun h4=>?_⟩,fun h4=>by simp at h4,fun _=>rfl,rfl⟩;have c:=h4.2.2.1;have m:=h4.2.2.2.1;rcases h3 with h3 | h3
  ·omega
  ·rw [g] at h3;omega
 have l:=bO hf h1;have b:=xJ h l.1;by_cases h4:D.room t=0
 rotate_left
 ·have e:D.add t=(D.room t,D):=by unfold GS.add;rw [if_neg (by simpa using h1),if_neg d,if_neg h3,if_pos h4]
  rw [e];exact ⟨⟨fun c=>absurd c h4,fun c=>absurd (b.2 c.2.2.2.2) h4⟩,fun c=>absurd c h4,fun _=>rfl,rfl⟩
 ·have e:D.add t=(0,D.put t):=by unfold GS.add;rw [if_neg (by simpa using h1),if_neg d,if_neg h3,if_neg (by simpa using h4)]
  rw [e];have k:=h.acc;have g:=h.ul;have j:=h.inv.ul;have d:hasM RU.rid D.used t.id=false:=by simpa using d
  have n:=dX h.inv;refine ⟨⟨fun _=>⟨h1,fun hm=>?_,by omega,by rw [←g];omega,b.1 h4⟩,fun _=>rfl⟩,fun _=>?_,fun c=>absurd rfl c,rfl⟩
  ·rw [f.2 hm] at d;exact absurd d (by simp)
  ·refine ⟨oE h.inv hf h1 d (by omega) (by omega),?_,fun i=>?_,?_,?_,?_,fun a=>?_⟩
   ·have:=(tR D.trades (posM RT.rid D.trades t.id) (rtOf t)).map trR
    refine this.trans ?_;rw [Am,zv];exact (h.perm.cons t).trans (List.perm_append_comm (l₁:=[t]))
   ·show hasM RU.rid (insL _ _ _) i=true↔_
    rw [oD,AI,AJ,←h.ids i];simp
    constructor
    ·rintro (c | c)
     ·exact Or.inr c.symm
     ·exact Or.inl c
    ·rintro (c | c)
     ·exact Or.inr c
     ·exact Or.inl c.symm
   ·show wrap64 (D.acd+1)=_
    rw [z8];simp only [Ay,AL];unfold wrap64;omega
   ·have:=aJ D.used (posM RU.rid D.used t.id) ⟨t.id,wrap64 (D.acd+1)⟩ (mX _ _ _)
    show (insL _ _ _).length=_
    rw [this,z8,g];rfl
   ·rw [dY];exact (b.1 h4).1
   ·rw [gH];split
    ·rename_i c;subst c;exact (b.1 h4).2
    ·have:=h.units a;omega
theorem i4 {α:Type}(k:α→Int):∀(l m:List α),Rsg k l→Rsg k m→l.Perm m→l=m:=by
 intro l;induction l with
 | nil=>intro m _ _ h;exact (List.nil_perm.1 h).symm
 | cons x l ih=>
  intro m d c h;cases m with
  | nil=>exact absurd h.length_eq (by simp)
  | cons y m=>
   unfold Rsg at d c;rw [List.pairwise_cons] at d c;have f:x=y:=by
    have b:x∈y :: m:=h.mem_iff.1 (As ..);have a:y∈x :: l:=h.mem_iff.2 (As ..);rcases Aq.1 b with b | b
    ·exact b
    ·rcases Aq.1 a with a | a
     ·exact a.symm
     ·have:=d.1 y a
      have:=c.1 x b
      omega
   subst f;rw [ih m d.2 c.2 ((List.perm_cons x).1 h)]
theorem jM (D:GS):D.list=D.trades.map trR:=by
 unfold GS.list;induction D.trades with
 | nil=>rfl
 | cons x l ih=>rw [List.filterMap_cons,Am,←ih];rfl
theorem fh {D:GS}(h:GInv D):Rsg Tr.id D.list:=by
 rw [jM];unfold Rsg;rw [List.pairwise_map];refine h.ok.tr.imp_of_mem ?_;intro a b f d c;have g:=h.id a f;have i:=h.id b d;show a.id<b.id
 omega
theorem eA {D:GS}{L:List Tr}(h:RegRel D L):D.list.Perm L:=by rw [jM];exact h.perm
theorem d8 {D:GS}{L:List Tr}(h:RegRel D L):Accept D.C D.list:=by
 have b:=eA h;have d:grL D.list=grL L:=cF (b.map fun t=>(valM t).1);have c:∀a,unL D.list a=unL L a:=fun a=>cF (b.map fun t=>if t.sec=a then t.qty else 0)
 refine ⟨fun t ht=>(ez h t (b.mem_iff.1 ht)).1,fun t ht=>(ez h t (b.mem_iff.1 ht)).2,?_,by rw [d];exact h.gross,fun a=>by rw [c];exact h.units a⟩;have:=h.inv.ok.tn
 rw [jM,Ad];omega
def cntF (nets:List Lg)(a m:Int):Nat:=nets.countP fun x=>decide (x.ass<a)||(decide (x.ass=a)&&decide (x.mem<m))
def hitP (m a:Int)(x:Lg):Bool:=decide (x.mem=m)&&decide (x.ass=a)
theorem xL (nets:List Lg)(a m:Int):cntF nets a m+nets.countP (hitP m a)=cntF nets a (m+1):=by
 unfold cntF hitP;induction nets with
 | nil=>rfl
 | cons x l ih=>
  rw [List.countP_cons,List.countP_cons,List.countP_cons,←ih];by_cases h1:x.ass<a
  ·have b:¬ x.ass=a:=by omega
   simp [h1,b];omega
  ·by_cases b:x.ass=a
   ·by_cases h3:x.mem<m
    ·have d:¬ x.mem=m:=by omega
     have c:x.mem<m+1:=by omega
     simp [b,h3,d,c];omega
    ·by_cases d:x.mem=m
     ·have c:m<m+1:=by omega
      simp [b,d,c];omega
     ·have c:¬ x.mem<m+1:=by omega
      simp [b,h3,d,c]
   ·simp [h1,b]
theorem tT (nets:List Lg)(a M:Int)(h:∀x∈nets,1≤x.mem∧x.mem≤M):cntF nets a (M+1)=cntF nets (a+1) 1:=by
 unfold cntF;apply List.countP_congr
 intro x b;have:=h x b
 simp only [Bool.or_eq_true,Bool.and_eq_true,decide_eq_true_eq];omega
theorem tU (nets:List Lg)(h:∀x∈nets,1≤x.mem∧0≤x.ass):cntF nets 0 1=0:=by
 unfold cntF;rw [List.countP_eq_zero];intro x a;have:=h x a
 simp
 omega
theorem xM (nets:List Lg)(S:Int)(h:∀x∈nets,x.ass≤S):cntF nets (S+1) 1=nets.length:=by
 unfold cntF;rw [List.countP_eq_length];intro x a;have:=h x a
 simp
 omega
theorem gI {C:Cfg}{T:List Tr}(h:Accept C T):∀x∈T.flatMap lg4,(1≤x.mem∧x.mem≤C.mem.length)∧0≤x.ass∧x.ass≤C.secs.length:=by
 intro x a;obtain ⟨t,ht,a⟩:=List.mem_flatMap.1 a;obtain ⟨w1,w2,w3⟩:=h.who t ht;unfold okM at w1 w2;unfold okS at w3;simp only [lg4,Aq,Be,or_false] at a;rcases a with rfl | rfl | rfl | rfl <;> dsimp only <;> omega
theorem cO {C:Cfg}{T:List Tr}(h:Accept C T){nets:List Lg}(hn:NetsOk C T nets):∀x∈nets,(1≤x.mem∧x.mem≤C.mem.length)∧0≤x.ass∧x.ass≤C.secs.length:=by
 intro x b;obtain ⟨h1,h2⟩:=hn.is x b;have a:amtL (T.flatMap lg4) (sdOf x)≠[]:=fun e=>h2 (by rw [h1];unfold netOf;rw [e];rfl)
 unfold amtL at a;obtain ⟨n,hn⟩:=List.exists_mem_of_ne_nil _ a;obtain ⟨y,hy,_⟩:=AD.1 hn;rw [AS] at hy;have e:sdOf y=sdOf x:=by simpa using hy.2
 have:=gI h y hy.1
 unfold sdOf at e;simp only [Sd.mk.injEq] at e;rw [←e.1,←e.2];exact this
def sumNet (L:List Lg)(a:Int):Nat→Int
 | 0=>0
 | k+1=>sumNet L a k+netOf L ⟨(k:Int)+1,a⟩
theorem lf (x:Lg)(L:List Lg)(a:Int):∀k:Nat,sumNet (x :: L) a k=sumNet L a k+if x.ass=a∧1≤x.mem∧x.mem≤k then x.amt else 0:=by
 intro k;induction k with
 | zero=>
  unfold sumNet;rw [if_neg (by omega)];rfl
 | succ k ih=>
  rw [sumNet,sumNet,ih];have e:netOf (x :: L) ⟨(k:Int)+1,a⟩=netOf L ⟨(k:Int)+1,a⟩+if x.ass=a∧x.mem=(k:Int)+1 then x.amt else 0:=by
   unfold netOf amtL sdOf;rw [List.filter_cons];by_cases h1:x.ass=a∧x.mem=(k:Int)+1
   ·rw [if_pos h1,if_pos (by simp [h1])];simp [sumL];omega
   ·rw [if_neg h1,if_neg (by simp;intro b c;exact h1 ⟨c,b⟩)];simp
  rw [e];by_cases h1:x.ass=a
  ·by_cases b:x.mem=(k:Int)+1
   ·rw [if_neg (by omega),if_pos ⟨h1,b⟩,if_pos (by omega)];omega
   ·by_cases c:1≤x.mem∧x.mem≤k
    ·rw [if_pos ⟨h1,c⟩,if_neg (by omega),if_pos (by omega)];omega
    ·rw [if_neg (by omega),if_neg (by omega),if_neg (by omega)];omega
  ·rw [if_neg (by omega),if_neg (by omega),if_neg (by omega)];omega
theorem qg (a:Int)(M:Nat):∀(L:List Lg),(∀x∈L,1≤x.mem∧x.mem≤M)→sumNet L a M=(L.map fun x=>if x.ass=a then x.amt else 0).sum:=by
 intro L;induction L with
 | nil=>
  intro _;induction M with
  | zero=>rfl
  | succ k ih=>rw [sumNet,ih fun x hx=>absurd hx (by simp)];rfl
 | cons x L ih=>
  intro h;rw [lf,ih fun y hy=>h y (AG _ hy),Am,AB];have:=h x (As ..)
  by_cases h1:x.ass=a
  ·rw [if_pos ⟨h1,this⟩,if_pos h1];omega
  ·rw [if_neg (by omega),if_neg h1];omega
theorem lg {C:Cfg}{T:List Tr}(h:Accept C T)(a:Int):sumNet (T.flatMap lg4) a C.mem.length=0:=by
 rw [qg a C.mem.length _ fun x hx=>(gI h x hx).1];exact gG a T
theorem tV {C:Cfg}{T:List Tr}(h:Accept C T)(k:Sd):In64 (netOf (T.flatMap lg4) k):=by
 by_cases hk:amtL (T.flatMap lg4) k=[]
 ·unfold netOf;rw [hk];decide
 ·rw [←dp] at hk;obtain ⟨p,a,rfl⟩:=kT _ _ hk;have b:=gF _ p a;unfold netOf;rw [←b];exact kZ h p a
theorem xN {C:Cfg}{T:List Tr}{nets:List Lg}(hn:NetsOk C T nets){i j:Nat}(hi:i<nets.length)(hj:j<nets.length){m a:Int}(h1:hitP m a nets[i]=true)(h2:hitP m a nets[j]=true):i=j:=by
 unfold hitP at h1 h2;simp only [Bool.and_eq_true,decide_eq_true_eq] at h1 h2;have e:sdOf nets[i]=sdOf nets[j]:=by unfold sdOf;rw [h1.1,h1.2,h2.1,h2.2]
 rcases Nat.lt_trichotomy i j with h | h | h
 ·have b:=List.pairwise_iff_getElem.1 (Bg.1 hn.nd) i j (by simpa using hi) (by simpa using hj) h;simp at b;exact absurd e b
 ·exact h
 ·have b:=List.pairwise_iff_getElem.1 (Bg.1 hn.nd) j i (by simpa using hj) (by simpa using hi) h;simp at b;exact absurd e.symm b
theorem zw {C:Cfg}{T:List Tr}{nets:List Lg}(hn:NetsOk C T nets){i:Nat}(hi:i<nets.length){m a:Int}(h1:hitP m a nets[i]=true):nets[i]=⟨m,a,netOf (T.flatMap lg4) ⟨m,a⟩⟩∧netOf (T.flatMap lg4) ⟨m,a⟩≠0:=by
 unfold hitP at h1;simp only [Bool.and_eq_true,decide_eq_true_eq] at h1;have h:=hn.is nets[i] (Ag hi);have e:sdOf nets[i]=⟨m,a⟩:=by unfold sdOf;rw [h1.1,h1.2]
 rw [e] at h;refine ⟨?_,by rw [←h.1];exact h.2⟩;rw [←h.1,←h1.1,←h1.2]
theorem tW {C:Cfg}{T:List Tr}{nets:List Lg}(hn:NetsOk C T nets){m a:Int}(h:netOf (T.flatMap lg4) ⟨m,a⟩≠0):∃i,∃hi:i<nets.length,hitP m a nets[i]=true:=by
 have:=hn.all ⟨m,a⟩ h
 obtain ⟨i,hi,e⟩:=Ao this;exact ⟨i,hi,by rw [e];simp [hitP]⟩
end Go.Proofs.YtmhohaanddglbaaGreatDoor
namespace Go.Proofs.YtmhohaanddglbaaGreatDoor
open Go.RowKit Go.Sort Go.Proofs
theorem bg:∀(l m:List Int),(cmpL l m<0∨cmpL l m=0∨0<cmpL l m)∧(cmpL l m<0↔0<cmpL m l):=by
 intro l;induction l with
 | nil=>intro m;cases m <;> simp [cmpL]
 | cons a l ih=>
  intro m;cases m with
  | nil=>simp [cmpL]
  | cons b m=>
   obtain ⟨_,d⟩:=ih m;refine ⟨by omega,?_⟩;unfold cmpL cmpM;by_cases h1:a<b
   ·have c:¬ b<a:=by omega
    simp [h1,c]
   ·by_cases c:b<a
    ·simp [h1,c]
    ·simp [h1,c,d]
theorem gJ:∀(l m n:List Int),cmpL l m≤0→cmpL m n≤0→cmpL l n≤0∧((cmpL l m<0∨cmpL m n<0)→cmpL l n<0):=by
 intro l;induction l with
 | nil=>
  intro m n f d;cases n with
  | nil=>
   cases m with
   | nil=>simp [cmpL]
   | cons b m=>simp [cmpL] at d
  | cons c n=>simp [cmpL]
 | cons a l ih=>
  intro m n f d;cases m with
  | nil=>simp [cmpL] at f
  | cons b m=>
   cases n with
   | nil=>simp [cmpL] at d
   | cons c n=>
    rw [cmpL] at f d;rw [cmpL,cmpL,cmpL];unfold cmpM at *;by_cases ab:a<b
    ·by_cases bc:b<c
     ·have g:a<c:=by omega
      simp [g]
     ·by_cases cb:c<b
      ·simp [bc,cb] at d
      ·have g:a<c:=by omega
       simp [g]
    ·by_cases ba:b<a
     ·simp [ab,ba] at f
     ·have e:a=b:=by omega
      subst e;by_cases bc:a<c
      ·simp [bc]
      ·by_cases cb:c<a
       ·simp [bc,cb] at d
       ·simp [bc,cb] at f d ⊢
        exact ih m n f d
theorem xO (K:List (List Int))(N0:Nat):SWO (ltOf (keyCmp K (N0:=N0))):=by
 refine ⟨fun x=>?_,fun x y z h1 h2=>?_,fun x y z h1 h2=>?_⟩
 ·have h:=(bg (K.getD x.val []) (K.getD x.val [])).2;unfold ltOf keyCmp;rw [decide_eq_false_iff_not];omega
 ·unfold ltOf keyCmp at *;simp only [decide_eq_true_eq] at *;exact (gJ _ _ _ (by omega) (by omega)).2 (Or.inl h1)
 ·unfold ltOf keyCmp at *;simp only [decide_eq_false_iff_not] at *;have b:=bg (K.getD x.val []) (K.getD y.val []);have f:=bg (K.getD y.val []) (K.getD z.val []);have c:=bg (K.getD x.val []) (K.getD z.val []);have d:=bg (K.getD y.val []) (K.getD x.val []);have g:=bg (K.getD z.val []) (K.getD y.val []);have:=(gJ (K.getD z.val []) (K.getD y.val []) (K.getD x.val []) (by omega) (by omega)).1
  have a:=bg (K.getD z.val []) (K.getD x.val []);omega
theorem tX {K:List (List Int)}{N0:Nat}(h:K.length=N0+1):orderM K=(insertionSort (ltOf (keyCmp K)) (idA N0) 0 (N0+1)).toList.map (·.val):=by
 unfold orderM;rw [h]
theorem qh {K:List (List Int)}(h:K.length=0):orderM K=[]:=by
 unfold orderM;rw [h]
theorem jN (K:List (List Int)):∀i j,(hij:i<j)→(h:j<(orderM K).length)→cmpL (K.getD ((orderM K)[i]'(Nat.lt_trans hij h)) []) (K.getD ((orderM K)[j]) [])≤0:=by
 intro i j hij a;cases hN:K.length with
 | zero=>rw [qh hN] at a;simp at a
 | succ N0=>
  have e:=tX hN;have c:=insertionSort_holds (lt:=ltOf (keyCmp K (N0:=N0))) (xO K N0) (idA N0) 0 (N0+1) (by omega) (by rw [dg];omega);have k:(insertionSort (ltOf (keyCmp K)) (idA N0) 0 (N0+1)).size=N0+1:=c.1.1.trans (dg N0);have b:j<N0+1:=by rw [e] at a;simpa [k] using a
  have h:=c.2 i j (Af _) hij b;have g:(orderM K)[i]'(Nat.lt_trans hij a)=((insertionSort (ltOf (keyCmp K)) (idA N0) 0 (N0+1))[i]'(by omega)).val:=by simp [e]
  have l:(orderM K)[j]=((insertionSort (ltOf (keyCmp K)) (idA N0) 0 (N0+1))[j]'(by omega)).val:=by simp [e]
  rw [g,l];rw [getElem!_pos _ j (by omega),getElem!_pos _ i (by omega)] at h;unfold ltOf keyCmp at h;simp only [decide_eq_false_iff_not] at h;generalize f:(insertionSort (ltOf (keyCmp K)) (idA N0) 0 (N0+1))[j]'(by omega)=x at *;generalize d:(insertionSort (ltOf (keyCmp K)) (idA N0) 0 (N0+1))[i]'(by omega)=y at *;have s:=bg (K.getD x.val []) (K.getD y.val []);have m:=bg (K.getD y.val []) (K.getD x.val []);have n:¬ cmpL (K.getD x.val []) (K.getD y.val [])<0:=by
   unfold ltOf keyCmp at f d;rw [f,d] at h;exact h
  omega
theorem tY {a b:Tm}(h:cmpL (keyT a) (keyT b)≤0):a.due≤b.due:=by
 unfold keyT at h;rw [cmpL] at h;unfold cmpM at h;by_cases h1:a.due<b.due
 ·omega
 ·by_cases h2:b.due<a.due
  ·simp [h1,h2] at h
  ·omega
theorem dB {l:List Tm}{P:List Nat}{now:Int}{t:Tm}(hP:P.Perm (List.range l.length))(h:firstM l P now=some t):t∈l∧t.due≤now:=by
 unfold firstM headM at h;cases P with
 | nil=>simp at h
 | cons i P=>
  have a:i<l.length:=by simpa using hP.mem_iff.1 (As ..)
  simp only [Am] at h;rw [Ah,Ab a,Option.getD_some] at h;split at h
  ·cases h
  ·cases h
   exact ⟨Ag a,by omega⟩
theorem i5 {l:List Tm}{P:List Nat}{now:Int}(hP:P.Perm (List.range l.length))(hs:l.length<20→P=orderM (l.map keyT))(hl:l.length<20){x:Tm}(hx:x∈l)(hd:x.due≤now):∃t,firstM l P now=some t∧cmpL (keyT t) (keyT x)≤0:=by
 have a:=hs hl;unfold firstM headM;cases hc:P with
 | nil=>rw [hc] at hP;have:=hP.length_eq;simp at this;rw [Ar this.symm] at hx;simp at hx
 | cons i P'=>
  have m:i<l.length:=by simpa using hP.mem_iff.1 (by rw [hc];exact As ..)
  obtain ⟨k,f,rfl⟩:=Ao hx;have c:k∈P:=hP.mem_iff.2 (by simpa using f);obtain ⟨j,hj,hjk⟩:=Ao c;have b:cmpL (keyT l[i]) (keyT l[k])≤0:=by
   have d:j<(orderM (l.map keyT)).length:=by rw [←a];exact hj
   rcases Nat.eq_zero_or_pos j with h0 | h0
   ·subst h0;have:i=k:=by rw [←hjk];simp [hc]
    subst this;have:=(bg (keyT l[i]) (keyT l[i])).2
    omega
   ·have h:=jN (l.map keyT) 0 j h0 d;have n:(orderM (l.map keyT))[0]'(by omega)=i:=by simp [←a,hc]
    have o:(orderM (l.map keyT))[j]=k:=by rw [←hjk];simp [a]
    rw [n,o] at h;simpa [Ah,m,f] using h
  have g:=tY b;refine ⟨l[i],?_,b⟩;simp only [Am];rw [Ah,Ab m,Option.getD_some,if_neg (by omega)]
end Go.Proofs.YtmhohaanddglbaaGreatDoor
namespace Go.Proofs.YtmhohaanddglbaaGreatDoor
open Go.RowKit
section
attribute [local go_sem ↓] Go.wp_at_zero Go.wp_at_succ
theorem qi {B:Nat}{A:DA}{D:DS}{w:World}(h:DkA w B A D)(m a:Int):Calls Tryz.prog 193 #[ptr A.gd,.int .i64 m,.int .i64 a] w fun e w'=>e=.returned (.int .i64 (legM D.C m a))∧Bw w w':=by
 have E:=aa h;obtain ⟨z,q,s,l,p,n,t,u⟩:=s8d h.blk;have i:=aa h.cfg.sl;clear h;by_cases ok:okM D.C m
 ·have f:=aa ok;by_cases hz:a=0
  ·have x:(a==0)=true:=by simpa using hz
   have c:Hid (legM D.C m a=0):=aa (by unfold legM;rw [if_pos ok,if_pos hz]);clear ok hz;go_enter Tryz.func193,Tryz.ntmps193;go_wp2_with (go_at_call 112;refine (aG A.vm A.vs A.vc D.C _ i.o _).mono ?_;rintro e k ⟨d,rfl,b⟩;rw [if_pos f.o];have R:=aa (b.alloc b.size (.cells (cMb d) 125)))
   go_ret;exact ⟨by rw [c.o];rfl,R.o⟩
  ·have x:(a==0)=false:=by simpa using hz
   obtain ⟨y,g⟩:∃y:Int,(if okS D.C a then (0:Int) else 10)=y:=⟨_,rfl⟩;have r:=aa g;have c:Hid (legM D.C m a=y):=aa (by unfold legM;rw [if_pos ok,if_neg hz,g]);clear ok hz g;go_enter Tryz.func193,Tryz.ntmps193;go_wp2_with (first | (go_at_call 112;refine (aG A.vm A.vs A.vc D.C _ i.o _).mono ?_;rintro e k ⟨d,rfl,b⟩;rw [if_pos f.o];have R:=aa (b.alloc b.size (.cells (cMb d) 125));have j:=aa (E.o.keep R.o);obtain ⟨z,q,s,l,p,n,t,u⟩:=s8d j.o.blk) | (go_at_call 144;refine (ct A.vm A.vs A.vc D.C _ j.o.cfg.sl _).mono ?_;rintro e x2 ⟨sc,rfl,c2⟩;rw [r.o];have v:=aa ((R.o.trans (c2.mono R.o.size)).alloc (z5 R.o.size c2.size) (.cells (cSc sc) 127))))
   go_ret;exact ⟨by rw [c.o];rfl,v.o⟩
 ·have f:=aa ok;have c:Hid (legM D.C m a=9):=aa (by unfold legM;rw [if_neg ok]);clear ok;go_enter Tryz.func193,Tryz.ntmps193;go_wp2_with (go_at_call 112;refine (aG A.vm A.vs A.vc D.C _ i.o _).mono ?_;rintro e k ⟨d,rfl,b⟩;rw [if_neg f.o];have R:=aa (b.alloc b.size (.cells (cMb d) 125)))
  go_ret;exact ⟨by rw [c.o];rfl,R.o⟩
def DS.paid (D:DS)(m a amt:Int)(fr to:Ac)(kind:Int):DS:=(({ D with obs:=(payM D.obs m a amt).2 }:DS).move fr to a amt).tell [⟨kind,m,a,amt,0⟩]
def PayRel (D:DS)(m a amt:Int)(fr to:Ac)(kind x y:Int)(D':DS):Prop:=
 if legM D.C m a≠0 then x=0∧y=legM D.C m a∧D'=D
 else if (payM D.obs m a amt).1≠0 then x=0∧y=(payM D.obs m a amt).1∧D'={ D with obs:=(payM D.obs m a amt).2 }
 else LeftIs (D.paid m a amt fr to kind).obs m a x y∧D'=D.paid m a amt fr to kind
def PayPost (B:Nat)(K:List Nat)(A:DA)(D:DS)(m a amt:Int)(fr to:Ac)(kind:Int)(w:World)(e:Ending)(w':World):Prop:=∃x y A' D',e=.returned (.tuple #[.int .i64 x,.int .i64 y])∧DSp B K w w' A A' D'∧PayRel D m a amt fr to kind x y D'
theorem i6 {B:Nat}{K:List Nat}{A:DA}{D:DS}{w:World}(h:DkA w B A D)(ok:DOk D)(hK:KOk w K A)(hB:B≤w.heap.size)(m a amt:Int)(h64:In64 amt)(fk fm tk tm kind:Int)(hlog:D.log.length≤999000) :
  Calls Tryz.prog 153 #[ptr A.gd,.int .i64 m,.int .i64 a,.int .i64 amt,.func (.func 154) #[ptr A.gs] #[],aval ⟨fk,fm⟩,aval ⟨tk,tm⟩,.int .i64 kind] w (PayPost B K A D m a amt ⟨fk,fm⟩ ⟨tk,tm⟩ kind w):=by
 obtain ⟨x,j⟩:∃x,(w.alloc (.cells (acs ⟨fk,fm⟩) 81)).alloc (.cells (acs ⟨tk,tm⟩) 81)=x:=⟨_,rfl⟩;have v:Bw w x:=by rw [←j];exact Bn.alloc (by simp) _
 have b1:Blk x w.heap.size 81 (acs ⟨fk,fm⟩):=by rw [←j];exact (Blk.new w 81 _).alloc _
 have l:Blk x (w.heap.size+1) 81 (acs ⟨tk,tm⟩):=by rw [←j];exact heap_alloc2_new _ _ _
 have O:=aa b1;have P:=aa l;have E:=aa h;have t:=aa hK;have OK:=aa ok;have ae:=aa ok;have Q:=aa (h.keep v);have I:=aa (qi (h.keep v) m a);have X:=aa h64;have H:=aa j;obtain ⟨y,hy⟩:∃y,legM D.C m a=y:=⟨_,rfl⟩;have L:=aa hy;clear h ok hK b1 l h64 j hy;by_cases hy0:y=0
 rotate_left
 ·have U:(y != 0)=true:=by simpa using hy0
  have HR:Hid (PayRel D m a amt ⟨fk,fm⟩ ⟨tk,tm⟩ kind 0 y D):=aa (by unfold PayRel;rw [L.o,if_pos hy0];exact ⟨rfl,rfl,rfl⟩);clear hy0;go_enter Tryz.func153,Tryz.ntmps153;go_wp2_with fail;rw [show (w.alloc (.cells #[.int .i64 fk,.int .i64 fm] 81)).alloc (.cells #[.int .i64 tk,.int .i64 tm] 81)=x from H.o];go_wp2_with (go_at_call 193;refine I.o.mono ?_;rintro e w2 ⟨rfl,g⟩;rw [L.o];have l:=v.trans (g.mono v.size))
  go_ret2;exact ⟨_,_,A,D,rfl,DSp.same E.o l,HR.o⟩
 ·subst hy0;obtain ⟨⟨V,ob⟩,hp⟩:∃r,payM D.obs m a amt=r:=⟨_,rfl⟩;have R:=aa hp;have F:=aa (jJ ae.o m a amt);rw [hp] at F;clear hp;by_cases hpe:V=0
  rotate_left
  ·have U:(V != 0)=true:=by simpa using hpe
   have HR:Hid (PayRel D m a amt ⟨fk,fm⟩ ⟨tk,tm⟩ kind 0 V { D with obs:=ob }):=aa (by unfold PayRel;rw [L.o,if_neg (by simp),R.o,if_pos hpe];exact ⟨rfl,rfl,rfl⟩);clear hpe;go_enter Tryz.func153,Tryz.ntmps153;go_wp2_with fail;rw [show (w.alloc (.cells #[.int .i64 fk,.int .i64 fm] 81)).alloc (.cells #[.int .i64 tk,.int .i64 tm] 81)=x from H.o];go_wp2_with (first | (go_at_call 193;refine I.o.mono ?_;rintro e w2 ⟨rfl,g⟩;rw [L.o];have l:=v.trans (g.mono v.size);have z:=aa (Q.o.keep g);have J:=aa (O.o.keep g);have G:=aa (P.o.keep g);have b:=kR z.o OK.o (t.o.keep l) m a amt;rw [R.o] at b;have k:=aa b;clear b g) | (go_at_call 154;refine k.o.mono ?_;rintro e w3 ⟨rfl,st3⟩;have f:=aa ((DSp.same (K:=K) E.o l).trans st3);have p:=aa (J.o.modT st3.mod (by decide));have s:=aa (G.o.modT st3.mod (by decide));have q8:w3.cell? ⟨A.gd,8,none⟩=some (ptr A.gv):=st3.at'.blk.c 8;clear st3))
   go_ret2;exact ⟨_,_,A,_,rfl,f.o,HR.o⟩
  ·subst hpe;go_enter Tryz.func153,Tryz.ntmps153;go_wp2_with fail;rw [show (w.alloc (.cells #[.int .i64 fk,.int .i64 fm] 81)).alloc (.cells #[.int .i64 tk,.int .i64 tm] 81)=x from H.o];go_wp2_with (first | (go_at_call 193;refine I.o.mono ?_;rintro e w2 ⟨rfl,g⟩;rw [L.o];have l:=v.trans (g.mono v.size);have z:=aa (Q.o.keep g);have J:=aa (O.o.keep g);have G:=aa (P.o.keep g);have b:=kR z.o OK.o (t.o.keep l) m a amt;rw [R.o] at b;have k:=aa b;clear b g) | (go_at_call 154;refine k.o.mono ?_;rintro e w3 ⟨rfl,st3⟩;have f:=aa ((DSp.same (K:=K) E.o l).trans st3);have p:=aa (J.o.modT st3.mod (by decide));have s:=aa (G.o.modT st3.mod (by decide));have q8:w3.cell? ⟨A.gd,8,none⟩=some (ptr A.gv):=st3.at'.blk.c 8;clear st3))
   have a0:=p.o.c 0;have a1:=p.o.c 1;have a2:=s.o.c 0;have a3:=s.o.c 1;have ag:=z5 hB f.o.mod.size;have af:=aa (t.o.step f.o);have ac:=aa (iW (f.o.at'.d (wd:=w3.drew)) F.o (af.o.d (wd:=w3.drew)) ag ⟨fk,fm⟩ ⟨tk,tm⟩ a amt X.o);have M:=And.intro q8 (And.intro a0 (And.intro a1 (And.intro a2 a3)));go_region_held3 (fun W=>W.cell? ⟨A.gd,8,none⟩=some (ptr A.gv)∧W.cell? ⟨w.heap.size,0,none⟩=some (.int .i64 fk)∧W.cell? ⟨w.heap.size,1,none⟩=some (.int .i64 fm)∧W.cell? ⟨w.heap.size+1,0,none⟩=some (.int .i64 tk)∧W.cell? ⟨w.heap.size+1,1,none⟩=some (.int .i64 tm)) (first | exact M | exact N | assumption | go_keep)
    (first | (go_at_call 167;refine ac.o.mono ?_;rintro e S ⟨gb,vb,pp,rr,rfl,i⟩;have u:=aa (f.o.trans (i.before ((zZ _ _).drew)));have A4:=(p.o.d (wd:=w3.drew)).modT i.mod (by decide);have C4:=(s.o.d (wd:=w3.drew)).modT i.mod (by decide);have N:=And.intro (i.at'.blk.c 8) (And.intro (A4.c 0) (And.intro (A4.c 1) (And.intro (C4.c 0) (C4.c 1))));clear i A4 C4))
   rename_i q
   clear q M N q8 a0 a1 a2 a3;have T:Bw S (S.alloc (.cells (cEv ⟨kind,m,a,amt,0⟩) 101)):=Bn;have ad:=aa (F.o.move ⟨fk,fm⟩ ⟨tk,tm⟩ a amt);have HT:=aa (dy (u.o.at'.keep T) ((t.o.step u.o).keep T) (z5 hB (z5 u.o.mod.size T.size)) [⟨kind,m,a,amt,0⟩] ⟨S.heap.size,0,none⟩ 1 (Sl.one1b eEv kEv S 101 ⟨kind,m,a,amt,0⟩ (by rfl) _ rfl) (by show D.log.length+1≤1000000;omega));have Z:Hid (D.paid m a amt ⟨fk,fm⟩ ⟨tk,tm⟩ kind=((({ D with obs:=ob }:DS).move ⟨fk,fm⟩ ⟨tk,tm⟩ a amt).tell [⟨kind,m,a,amt,0⟩])):=aa (by unfold DS.paid;rw [R.o]);go_wp2_with (first | (go_at_call 164;refine HT.o.mono ?_;rintro e w5 ⟨vl,rfl,n⟩;have Y:=aa ((u.o.keep T).trans n);have q9:w5.cell? ⟨A.gd,9,none⟩=some (ptr A.gs):=n.at'.blk.c 9;have ab:=aa (qd n.at' (ad.o.tell _) m a);clear n) | (go_at_call 194;refine ab.o.mono ?_;rintro e w6 ⟨xx,yy,rfl,hl,c6⟩;have HL:=aa hl;have C6:=aa c6;clear hl c6))
   go_ret2;refine ⟨xx,yy,_,_,rfl,Y.o.keep C6.o,?_⟩;unfold PayRel;rw [L.o,if_neg (by simp),R.o,if_neg (by simp),Z.o];exact ⟨HL.o,rfl⟩
def KPayPost (B:Nat)(K:List Nat)(A:DA)(D:DS)(m a amt:Int)(w:World)(e:Ending)(w':World):Prop:=∃x y A' D',e=.returned (.tuple #[.int .i64 x,.int .i64 y])∧DSp B K w w' A A' D'∧if D.state≠1 then x=0∧y=11∧D'=D else PayRel D m a amt ⟨7,m⟩ ⟨1,0⟩ 5 x y D'
theorem tZ {B:Nat}{K:List Nat}{A:DA}{D:DS}{w:World}(h:DkA w B A D)(ok:DOk D)(hK:KOk w K A)(hB:B≤w.heap.size)(m a amt:Int)(h64:In64 amt)(hlog:D.log.length≤999000) :
  Calls Tryz.prog 109 #[ptr A.gd,.int .i64 m,.int .i64 a,.int .i64 amt] w (KPayPost B K A D m a amt w):=by
 obtain ⟨p,g⟩:∃p,w.alloc (.cells #[.int .i64 1] 3)=p:=⟨_,rfl⟩;have i:Bw w p:=by rw [←g];exact Bn
 have b:=ew (h.keep i) 1 w.heap.size (by rw [←g];exact Blk.new w 3 #[.int .i64 1]);have v:=aa g;have l:=aa h;have R:=aa hK;have G:=aa ok;have s:=aa h64;have C:=aa (h.keep i);have u:=aa (hK.keep i);by_cases hs:D.state=1
 rotate_left
 ·rw [if_neg (Ne.symm hs)] at b;have f:=aa b;have z:=aa hs;clear h ok hK h64 g b hs;go_enter Tryz.func109,Tryz.ntmps109;go_wp2_with fail;rw [show w.alloc (.cells #[.int .i64 1] 3)=p from v.o];go_wp2_with (go_at_call 152;refine f.o.mono ?_;rintro e O ⟨rfl,y⟩;subst y)
  go_ret2;exact ⟨_,_,A,D,rfl,DSp.same l.o i,by rw [if_pos z.o];exact ⟨rfl,rfl,rfl⟩⟩
 ·rw [if_pos hs.symm] at b;have f:=aa b;have z:=aa hs;have P:p.cell? ⟨A.gd,9,none⟩=some (ptr A.gs):=(h.keep i).blk.c 9;have N:=aa (Near.start p B A D C.o);have r:=z5 hB i.size;clear h ok hK h64 g b hs;go_enter Tryz.func109,Tryz.ntmps109;go_wp2_with fail;rw [show w.alloc (.cells #[.int .i64 1] 3)=p from v.o];go_wp2_with (go_at_call 152;refine f.o.mono ?_;rintro e O ⟨rfl,y⟩;subst y)
  go_region_held3 (fun W=>W.cell? ⟨A.gd,9,none⟩=some (ptr A.gs)) (first | exact P | exact L | exact F | exact M | assumption | go_keep)
   (first
    | (go_at_call 140;refine (fA m _).mono ?_;rintro e U ⟨rfl,rfl⟩;(first | have n:=aa (k.o.alloc (.cells (acs ⟨7,m⟩) 81)) | have n:=aa (N.o.alloc (.cells (acs ⟨7,m⟩) 81)));have L:=n.o.2.blk.c 9)
    | (go_at_call 155;refine (aZ _).mono ?_;rintro e T ⟨rfl,rfl⟩;(first | have k:=aa (n.o.alloc (.cells (acs ⟨1,0⟩) 81)) | have k:=aa (N.o.alloc (.cells (acs ⟨1,0⟩) 81)));have F:=k.o.2.blk.c 9)
    | (go_at_call 153;(first | (refine (i6 (K:=K) k.o.2 G.o (u.o.keep k.o.1) (z5 r k.o.1.size) m a amt s.o 7 m 1 0 5 hlog).mono ?_;rintro e E ⟨J,I,S,Q,rfl,d,q⟩;have t:=aa ((DSp.same (K:=K) l.o (i.trans (k.o.1.mono i.size))).trans d)) | (refine (i6 (K:=K) n.o.2 G.o (u.o.keep n.o.1) (z5 r n.o.1.size) m a amt s.o 7 m 1 0 5 hlog).mono ?_;rintro e E ⟨J,I,S,Q,rfl,d,q⟩;have t:=aa ((DSp.same (K:=K) l.o (i.trans (n.o.1.mono i.size))).trans d)));have x:=aa q;have M:E.cell? ⟨A.gd,9,none⟩=some (ptr A.gs):=(by have H:=d.at'.blk.c 9;rw [d.gd] at H;rw [←d.gs];exact H);clear d q))
  all_goals
   rename_i j
   clear j L F M;go_wp2_with fail;go_ret2;exact ⟨J,I,_,_,rfl,t.o,by rw [if_neg (by simpa using z.o)];exact x.o⟩
structure Cm where
 kd:Int
 id:Int
 mb:Int
 ot:Int
 sc:Int
 qt:Int
 pr:Int
  deriving DecidableEq
structure Cm.Fit (c:Cm):Prop where
 kd:In64 c.kd
 id:In64 c.id
 mb:In64 c.mb
 ot:In64 c.ot
 sc:In64 c.sc
 qt:In64 c.qt
 pr:In64 c.pr
def hasOf (k:Int):Nat×Bool:=
 if k=2 then (63,true) else if k=7 then (58,true) else if k=5 then (26,true) else if k=6 then (26,true) else
 if k=4 then (18,true) else if k=8 then (18,true) else if k=9 then (18,true) else if k=1 then (0,true) else if k=10 then (0,true) else
 if k=3 then (1,true) else (0,false)
def Cm.at (c:Cm)(j:Nat):Int:=match j with
 | 0=>c.id
 | 1=>c.mb
 | 2=>c.ot
 | 3=>c.sc
 | 4=>c.qt
 | _=>c.pr
def bitOf (j:Nat):Nat:=2 ^ j
def hasF (b j:Nat):Bool:=b.testBit j
theorem t8 (k:Int):(hasOf k).1<64:=by
 unfold hasOf;repeat' (first | decide | split)
def fine (b:Nat)(c:Cm)(j:Nat):Bool:=match j with
 | 0=>true
 | j+1=>fine b c j&&(hasF b j||decide (c.at j=0))
def Cm.right (c:Cm):Bool:=(hasOf c.kd).2&&fine (hasOf c.kd).1 c 6
theorem i7 (b:Nat)(c:Cm)(j:Nat):fine b c (j+1)=(fine b c j&&(hasF b j||decide (c.at j=0))):=rfl
theorem mY (b:Nat)(c:Cm)(j:Nat)(h:fine b c j=false):∀k,j≤k→fine b c k=false:=by
 intro k a;induction k with
 | zero=>
  obtain rfl:j=0:=by omega
  exact h
 | succ k ih=>
  by_cases e:j=k+1
  ·subst e;exact h
  ·rw [i7,ih (by omega)];rfl
theorem lh (k:Int)(w:World):Calls Tryz.prog 69 #[.int .i64 k] w fun e w'=>e=.returned (.tuple #[.int .i64 ((hasOf k).1:Nat),.bool (hasOf k).2])∧w=w':=by
 by_cases h:k=2∨k=7∨k=5∨k=6∨k=4∨k=8∨k=9∨k=1∨k=10∨k=3
 ·rcases h with rfl | rfl | rfl | rfl | rfl | rfl | rfl | rfl | rfl | rfl
  all_goals
   go_enter Tryz.func69,Tryz.ntmps69;go_wp2;go_ret2;exact ⟨rfl,rfl⟩
 ·have e:hasOf k=(0,false):=by unfold hasOf;simp only [not_or] at h;simp [h]
  have i:(k==2)=false:=by simp;omega
  have f:(k==7)=false:=by simp;omega
  have m:(k==5)=false:=by simp;omega
  have g:(k==6)=false:=by simp;omega
  have l:(k==4)=false:=by simp;omega
  have b:(k==8)=false:=by simp;omega
  have j:(k==9)=false:=by simp;omega
  have d:(k==1)=false:=by simp;omega
  have c:(k==10)=false:=by simp;omega
  have a:(k==3)=false:=by simp;omega
  rw [e];clear h e;go_enter Tryz.func69,Tryz.ntmps69;go_wp2;go_ret2;exact ⟨rfl,rfl⟩
@[reducible] def cval (c:Cm):Value:=.agg #[.int .i64 c.kd,.int .i64 c.id,.int .i64 c.mb,.int .i64 c.ot,.int .i64 c.sc,.int .i64 c.qt,.int .i64 c.pr]
@[reducible] def ccells (c:Cm):Array Value:=#[.int .i64 c.kd,.int .i64 c.id,.int .i64 c.mb,.int .i64 c.ot,.int .i64 c.sc,.int .i64 c.qt,.int .i64 c.pr]
def setF (j:Nat):Value:=.func (Fn.func (93+j)) #[] #[]
def vcells (c:Cm):Array Value:=#[.int .i64 1,.int .i64 c.id,.func (Fn.func 93) #[] #[],.int .i64 2,.int .i64 c.mb,.func (Fn.func 94) #[] #[],.int .i64 4,.int .i64 c.ot,.func (Fn.func 95) #[] #[],.int .i64 8,.int .i64 c.sc,.func (Fn.func 96) #[] #[],.int .i64 16,.int .i64 c.qt,.func (Fn.func 97) #[] #[],.int .i64 32,.int .i64 c.pr,.func (Fn.func 98) #[] #[]]
def Vals (W:World)(g:Nat)(c:Cm):Prop:=W.heap[g]?=some (.cells (vcells c) 157 (0,0))
theorem fi {W:World}{g:Nat}{o:Obj}(h:W.heap[g]?=some o):g<W.heap.size:=by
 rcases Az g W.heap.size with h' | h'
 ·exact h'
 ·simp [AO h'] at h
theorem Vals.lt {W:World}{g:Nat}{c:Cm}(h:Vals W g c):g<W.heap.size:=fi h
theorem Vals.cel {W:World}{g:Nat}{c:Cm}(h:Vals W g c):∀j,j<6→W.cell? ⟨g,j * 3,none⟩=some (.int .i64 (bitOf j:Nat))∧W.cell? ⟨g,j * 3+1,none⟩=some (.int .i64 (c.at j))∧W.cell? ⟨g,j * 3+2,none⟩=some (setF j):=by
 intro j b;have a:W.heap[g]?=some (.cells (vcells c) 157 (0,0)):=h;obtain rfl | rfl | rfl | rfl | rfl | rfl:j=0∨j=1∨j=2∨j=3∨j=4∨j=5:=by omega
 all_goals exact ⟨by rw [Blk.c a];rfl,by rw [Blk.c a];rfl,by rw [Blk.c a];rfl⟩
theorem Vals.keep {W W':World}{g:Nat}{c:Cm}(h:Vals W g c)(hb:Bw W W'):Vals W' g c:=(hb.block g h.lt).trans h
def Boxed (W:World)(g:Nat)(c:Cm):Prop:=W.heap[g]?=some (.cells (ccells c) 38 (0,0))
theorem Boxed.lt {W:World}{g:Nat}{c:Cm}(h:Boxed W g c):g<W.heap.size:=fi h
theorem Boxed.keep {W W':World}{g:Nat}{c:Cm}(h:Boxed W g c)(hb:Bw W W'):Boxed W' g c:=(hb.block g h.lt).trans h
theorem Boxed.new (W:World)(c:Cm):Boxed (W.alloc (.cells (ccells c) 38)) W.heap.size c:=heap_alloc_new _ _
theorem Boxed.cells {W:World}{g:Nat}{c:Cm}(h:Boxed W g c):W.cell? ⟨g,0,none⟩=some (.int .i64 c.kd)∧W.cell? ⟨g,1,none⟩=some (.int .i64 c.id)∧W.cell? ⟨g,2,none⟩=some (.int .i64 c.mb)∧W.cell? ⟨g,3,none⟩=some (.int .i64 c.ot)∧
  W.cell? ⟨g,4,none⟩=some (.int .i64 c.sc)∧W.cell? ⟨g,5,none⟩=some (.int .i64 c.qt)∧W.cell? ⟨g,6,none⟩=some (.int .i64 c.pr):=by
 have a:W.heap[g]?=some (.cells (ccells c) 38 (0,0)):=h;exact ⟨by rw [Blk.c a];rfl,by rw [Blk.c a];rfl,by rw [Blk.c a];rfl,by rw [Blk.c a];rfl,by rw [Blk.c a];rfl,by rw [Blk.c a];rfl,by rw [Blk.c a];rfl⟩
def ValsPost (c:Cm)(w:World)(e:Ending)(w':World):Prop:=∃g,e=.returned (.slice (some ⟨g,0,none⟩) 6 6)∧Vals w' g c∧w.heap.size<g∧Bw w w'
theorem li (c:Cm)(w:World):Calls Tryz.prog 70 #[cval c] w (ValsPost c w):=by
 obtain ⟨g,b,f,d,h,a,i⟩:=c;go_enter Tryz.func70,Tryz.ntmps70;go_wp2;go_ret;refine ⟨w.heap.size+1,rfl,?_,Nat.lt_succ_self _,Bn.alloc (by simp) _⟩;exact heap_alloc2_new _ _ _
theorem lj:∀b:Fin 64,∀j:Fin 6,bits .and .i64 ((b.val:Nat):Int) ((bitOf j.val:Nat):Int)=if hasF b.val j.val then ((bitOf j.val:Nat):Int) else 0:=by decide +kernel
theorem ub (b j:Nat)(hb:b<64)(hj:j<6)(h:hasF b j=true):(bits .and .i64 (b:Int) (bitOf j:Int)==0)=false∧(bits .and .i64 (b:Int) (bitOf j:Int) != 0)=true:=by
 have:=lj ⟨b,hb⟩ ⟨j,hj⟩
 simp only [h,if_true] at this;rw [this];have a:0<bitOf j:=Nat.two_pow_pos j;constructor
 ·simp;omega
 ·simp;omega
theorem xP (b j:Nat)(hb:b<64)(hj:j<6)(h:hasF b j=false):(bits .and .i64 (b:Int) (bitOf j:Int)==0)=true∧(bits .and .i64 (b:Int) (bitOf j:Int) != 0)=false:=by
 have:=lj ⟨b,hb⟩ ⟨j,hj⟩
 simp only [h] at this;rw [this];exact ⟨rfl,rfl⟩
def Cm.err (c:Cm):Int:=if c.right then 0 else 3
def CheckRel (c:Cm)(w wr:World)(g k:Nat):Prop:=fine (hasOf c.kd).1 c k=true∧Vals wr g c∧Bw w wr
theorem ll (c:Cm)(w:World):Calls Tryz.prog 35 #[cval c] w fun e w'=>e=.returned (.int .i64 c.err)∧Bw w w':=by
 have n:=t8 c.kd;by_cases m:(hasOf c.kd).2=true
 ·have v:Hid (c.right=fine (hasOf c.kd).1 c 6):=aa (by unfold Cm.right;rw [m];rfl);have s:=aa m;clear m;go_enter Tryz.func35,Tryz.ntmps35;go_wp2_with fail;refine (lh _ _).mono ?_;rintro e x ⟨rfl,rfl⟩;rw [s.o];go_wp2_with fail;refine (li c _).mono ?_;rintro e w2 ⟨g,rfl,hv,_,c2⟩;have B:Bw w w2:=((zZ w.heap.size w).alloc (zY _) _).trans (c2.mono (by simp));clear c2;generalize p:(hasOf c.kd).1=bb at *;have l:=aa p;clear p;go_wp2_with fail;go_loopw [18] (fun i wr=>∃k:Nat,k≤6∧i=.int .i64 k∧CheckRel c w wr g k) (fun i _=>6 - (intOf i).toNat)
  case atStart=>exact ⟨0,Af _,rfl,rfl,hv,B⟩
  case round=>
   obtain ⟨k,m,rfl,d,a,b⟩:=hrel;rw [l.o] at d;have q:=aa d;have D:=a.lt;clear d;by_cases hlt6:k<6
   ·obtain ⟨F,G,E⟩:=a.cel k hlt6;unfold setF at E;have u:=aa a;have A:(k:Int)<6:=by omega
    clear a hv;have f:=i7 bb c k;rw [q.o] at f;cases hh:hasF bb k
    ·obtain ⟨z,y⟩:=xP bb k n hlt6 hh;rw [hh] at f;have h:=aa f;clear f hh;by_cases hz:c.at k=0
     ·have t:(c.at k != 0)=false:=by simp [hz]
      have C:=aa hz;clear hz;go_wp2_with fail;go_roundw
      case rel=>exact ⟨k+1,by omega,by go_num,by rw [l.o,h.o];simp [C.o],u.o.keep Bn,b.alloc b.size _⟩
      case measure=>simp [intOf];omega
     ·have t:(c.at k != 0)=true:=by simpa using hz
      have r:Hid (c.err=3):=aa (by
       unfold Cm.err;rw [v.o,if_neg];rw [mY bb c (k+1) (by rw [h.o];simpa using hz) 6 (by omega)];simp)
      clear hz;go_wp2_with fail;go_ret;exact ⟨by rw [r.o];rfl,b.alloc b.size _⟩
    ·obtain ⟨z,y⟩:=ub bb k n hlt6 hh;rw [hh] at f;have h:=aa f;clear f hh;go_wp2_with fail;go_roundw
     case rel=>exact ⟨k+1,by omega,by go_num,by rw [l.o,h.o];rfl,u.o.keep Bn,b.alloc b.size _⟩
     case measure=>simp [intOf];omega
   ·obtain rfl:k=6:=by omega
    have r:Hid (c.err=0):=aa (by unfold Cm.err;rw [v.o,q.o];rfl);clear a hv;go_wp2_with fail;go_ret;exact ⟨by rw [r.o];rfl,b⟩
 ·have j:(hasOf c.kd).2=false:=by simpa using m
  have r:Hid (c.err=3):=aa (by unfold Cm.err Cm.right;rw [j];rfl);have s:=aa j;clear m j;rw [r.o];go_enter Tryz.func35,Tryz.ntmps35;go_wp2_with fail;refine (lh _ _).mono ?_;rintro e x ⟨rfl,rfl⟩;rw [s.o];go_wp2_with fail;go_ret;exact ⟨rfl,Bn⟩
def Cm.trade (c:Cm):Tr:=⟨c.id,c.mb,c.ot,c.sc,c.qt,c.pr⟩
end
structure YA where
 gy:Nat
 gw:Nat
 D:DA
 G:GA
 vm:Value
 vs:Value
 vc:Value
 vt:Value
 vl:Value
structure YS where
 C:Cfg
 D:DS
 G:GS
 whl:List Tm
 phs:Int
 clk2:Int
 cycle:Int
 told:Nat
 log:List Ev
def Cfg.room (C:Cfg):Int:=4 * (C.cyc.length:Int)+2 * (C.mem.length:Int)
abbrev YA.cells (A:YA)(Y:YS):Array Value:=dayC A.vm A.vs A.vc Y.C A.D.gd A.G.gr A.gw Y.phs Y.clk2 Y.cycle Y.told A.vl
structure DyA (w:World)(B:Nat)(A:YA)(Y:YS):Prop where
 blk:Blk w A.gy 94 (A.cells Y)
 cfg:COw w B A.vm A.vs A.vc Y.C
 desk:DkA w B A.D Y.D
 reg:RegAt w B A.G Y.G
 whl:WheelAt w B A.gw Y.C.room A.vt Y.whl
 log:w.ownsRow B 101 5 A.vl Y.log.length (flat eEv Y.log)
 apart:∀k,A.vl.ownBlock=some k→A.D.vl.ownBlock≠some k
 l1:B≤A.gy
 words:Words w
 l0:0<B
structure YOk (Y:YS):Prop where
 dc:Y.D.C=Y.C
 gc:Y.G.C=Y.C
 dok:DOk Y.D
 gok:GInv Y.G
 told:Y.told≤Y.D.log.length
 whl:(Y.whl.length:Int)≤Y.C.room
 cyc:0≤Y.cycle∧Y.cycle≤100000
 clk2:0≤Y.clk2∧Y.clk2≤100000
 cn:0≤Y.D.cycles∧Y.D.cycles≤100000
 d64:∀x∈Y.D.obs,In64 x.done
theorem YOk.cfg {Y:YS}(ok:YOk Y):Valid Y.C:=by have:=ok.dok.cfg;rwa [ok.dc] at this
theorem jO {C:Cfg}(h:Valid C):C.room≤48:=by have:=h.c2;have:=h.m2;unfold Cfg.room;omega
theorem YOk.wn {Y:YS}(ok:YOk Y):Y.whl.length≤48:=by have:=ok.whl;have:=jO ok.cfg;omega
theorem DyA.lt {w:World}{B:Nat}{A:YA}{Y:YS}(h:DyA w B A Y):B≤w.heap.size:=z5 h.l1 (Nat.le_of_lt h.blk.lt)
theorem RegAt.d {w wd:World}{B:Nat}{A:GA}{D:GS}(h:RegAt w B A D)(e:wd.heap=w.heap:=by rfl):RegAt wd B A D:=
 ⟨h.blk.d e,h.cfg.d e,h.tblk.d e,h.ublk.d e,be h.trades e,be h.used e,h.l1,h.l2,h.l3⟩
theorem WheelAt.d {w wd:World}{B g:Nat}{room:Int}{v:Value}{l:List Tm}(h:WheelAt w B g room v l)(e:wd.heap=w.heap:=by rfl):WheelAt wd B g room v l:=⟨h.blk.d e,be h.own e,h.l1⟩
theorem WheelAt.modT {B:Nat}{TS:List TypeId}{K:List Nat}{w w':World}{g:Nat}{room:Int}{v:Value}{l:List Tm}(h:WheelAt w B g room v l)(m:ModT B TS K w w')(h1:150∉TS)(h2:197∉TS):WheelAt w' B g room v l:=⟨h.blk.modT m h1,ai h.own m h2,h.l1⟩
theorem DyA.keep {w w':World}{B:Nat}{A:YA}{Y:YS}(h:DyA w B A Y)(c:Bw w w'):DyA w' B A Y:=
 ⟨h.blk.keep c,h.cfg.keep c,h.desk.keep c,h.reg.keep c,h.whl.keep c,ah h.log c,h.apart,h.l1,h.words.keep c,h.l0⟩
theorem DyA.alloc {w:World}{B:Nat}{A:YA}{Y:YS}(h:DyA w B A Y)(o:Obj):DyA (w.alloc o) B A Y:=h.keep Bn
theorem DyA.d {w wd:World}{B:Nat}{A:YA}{Y:YS}(h:DyA w B A Y)(e:wd.heap=w.heap:=by rfl):DyA wd B A Y:=
 ⟨h.blk.d e,h.cfg.d e,h.desk.d e,h.reg.d e,h.whl.d e,be h.log e,h.apart,h.l1,h.words.d e,h.l0⟩
theorem DyA.keepD {w wd w':World}{B:Nat}{A:YA}{Y:YS}(h:DyA w B A Y)(c:Bw wd w')(e:wd.heap=w.heap:=by rfl):DyA w' B A Y:=(h.d e).keep c
abbrev YTS:List TypeId:=[94,138,184,227,333,186,71,101,175,211,144,188,191,163,268,150,197]
structure YSp (B:Nat)(w w':World)(A A':YA)(Y':YS):Prop where
 at':DyA w' B A' Y'
 mod:ModT B YTS [] w w'
 gy:A'.gy=A.gy
section
variable {B:Nat}{w w' w1 w2:World}{A A1 A2 A':YA}{Y Y1 Y2 Y':YS}
theorem YSp.trans (s:YSp B w w1 A A1 Y1)(t:YSp B w1 w2 A1 A2 Y2):YSp B w w2 A A2 Y2:=⟨t.at',s.mod.trans t.mod,t.gy.trans s.gy⟩
theorem YSp.same (h:DyA w B A Y)(c:Bw w w'):YSp B w w' A A Y:=⟨h.keep c,ModT.below c,rfl⟩
theorem YSp.keep (s:YSp B w w1 A A1 Y1)(c:Bw w1 w2):YSp B w w2 A A1 Y1:=s.trans (YSp.same s.at' c)
theorem YSp.before (s:YSp B w1 w2 A A1 Y1)(c:Bw w w1):YSp B w w2 A A1 Y1:=⟨s.at',(ModT.below c).trans s.mod,s.gy⟩
theorem DyA.kok (h:DyA w B A Y):KOk w (ownL A.vl) A.D:=fun k hk=>by
 have hk:=aN.1 hk;refine ⟨?_,h.apart k hk⟩;obtain ⟨_,h2⟩:=h.log;rcases h2 with ⟨e,_⟩ | ⟨g,cap,cur,e,_,hh,_⟩
 ·rw [e] at hk;simp [Value.ownBlock] at hk
 ·rw [e] at hk;simp [Value.ownBlock] at hk
  subst hk;exact ⟨cur,hh⟩
theorem DyA.deskS {D':DS}{A':DA}(h:DyA w B A Y)(s:DSp B (ownL A.vl) w w' A.D A' D'):YSp B w w' A { A with D:=A' } { Y with D:=D' }:=by
 have m:=s.mod;refine ⟨⟨?_,h.cfg.modT m (by decide) (by decide) (by decide),s.at',h.reg.modT m (by decide) (by decide) (by decide) (by decide) (by decide) (by decide) (by decide) (by decide),h.whl.modT m (by decide) (by decide),fL h.log m (fun k hk=>aN.2 hk),fun k hk=>((h.kok.step s) k (aN.2 hk)).2,h.l1,h.words.modT m h.l0,h.l0⟩,(m.mono (by decide)).less (by simp),rfl⟩;have a:=h.blk.modT m (by decide);show Blk w' A.gy 94 (dayC A.vm A.vs A.vc Y.C A'.gd A.G.gr A.gw Y.phs Y.clk2 Y.cycle Y.told A.vl)
 rw [s.gd];exact a
theorem DyA.regS {G':GS}{A':GA}(h:DyA w B A Y)(s:GStep B [] w w' A.G A' G'):YSp B w w' A { A with G:=A' } { Y with G:=G' }:=by
 have m:=s.mod;refine ⟨⟨?_,h.cfg.modT m (by decide) (by decide) (by decide),?_,s.at',h.whl.modT m (by decide) (by decide),ai h.log m (by decide),h.apart,h.l1,h.words.modT m h.l0,h.l0⟩,m.mono (by decide),rfl⟩
 ·have a:=h.blk.modT m (by decide);show Blk w' A.gy 94 (dayC A.vm A.vs A.vc Y.C A.D.gd A'.gr A.gw Y.phs Y.clk2 Y.cycle Y.told A.vl)
  rw [s.gr];exact a
 ·have d:=h.desk;exact ⟨d.blk.modT m (by decide),d.cfg.modT m (by decide) (by decide) (by decide),d.vault.modT m (by decide) (by decide) (by decide) (by decide) (by decide),d.sheet.modT m (by decide) (by decide),d.box.modT m (by decide),d.bcfg.modT m (by decide) (by decide) (by decide),ai d.bids m (by decide),ai d.who m (by decide),ai d.log m (by decide),d.l1,d.l2⟩
theorem DkA.modT {A:DA}{D:DS}{TS:List TypeId}{K:List Nat}(d:DkA w B A D)(m:ModT B TS K w w')(h:∀T∈[138,125,127,63,184,224,2,227,333,186,71,175,211,3,101],T∉TS):DkA w' B A D:=
 ⟨d.blk.modT m (h _ (by decide)),d.cfg.modT m (h _ (by decide)) (h _ (by decide)) (h _ (by decide)),d.vault.modT m (h _ (by decide)) (h _ (by decide)) (h _ (by decide)) (h _ (by decide)) (h _ (by decide)),d.sheet.modT m (h _ (by decide)) (h _ (by decide)),d.box.modT m (h _ (by decide)),d.bcfg.modT m (h _ (by decide)) (h _ (by decide)) (h _ (by decide)),ai d.bids m (h _ (by decide)),ai d.who m (h _ (by decide)),ai d.log m (h _ (by decide)),d.l1,d.l2⟩
theorem DyA.wheelS {l:List Tm}{v:Value}(h:DyA w B A Y)(m:ModT B [150,197] [] w w')(hw:WheelAt w' B A.gw Y.C.room v l):YSp B w w' A { A with vt:=v } { Y with whl:=l }:=
 ⟨⟨h.blk.modT m (by decide),h.cfg.modT m (by decide) (by decide) (by decide),h.desk.modT m (by decide),h.reg.modT m (by decide) (by decide) (by decide) (by decide) (by decide) (by decide) (by decide) (by decide),hw,ai h.log m (by decide),h.apart,h.l1,h.words.modT m h.l0,h.l0⟩,m.mono (by decide),rfl⟩
theorem DyA.selfS {p k c:Int}(h:DyA w B A Y)(m:ModT B [94] [] w w')(hb:Blk w' A.gy 94 (A.cells { Y with phs:=p,clk2:=k,cycle:=c })):YSp B w w' A A { Y with phs:=p,clk2:=k,cycle:=c }:=
 ⟨⟨hb,h.cfg.modT m (by decide) (by decide) (by decide),h.desk.modT m (by decide),h.reg.modT m (by decide) (by decide) (by decide) (by decide) (by decide) (by decide) (by decide) (by decide),h.whl.modT m (by decide) (by decide),ai h.log m (by decide),h.apart,h.l1,h.words.modT m h.l0,h.l0⟩,m.mono (by decide),rfl⟩
theorem DyA.setClock (h:DyA w B A Y)(k:Int):YSp B w (w.setCell ⟨A.gy,12,none⟩ (.int .i64 k)) A A { Y with clk2:=k }:=
 h.selfS (ModT.set h.blk (by simp) h.l1 (by simp)) (h.blk.set 12 _)
end
def YS.hear (Y:YS):YS:={ Y with log:=Y.log++Y.D.log.drop Y.told,told:=Y.D.log.length }
def YS.tell (Y:YS)(x:Ev):YS:={ Y.hear with log:=Y.hear.log++[x] }
def YS.come (Y:YS)(p:Int):YS:=({ Y with phs:=p }:YS).tell ⟨1,0,0,p,Y.cycle⟩
section
variable {B:Nat}{w w':World}{A:YA}{Y:YS}
theorem DyA.heard {vl':Value}{l:List Ev}{n:Nat}{p:Int}(h:DyA w B A Y)(t:Heard w w' B A.gy (A.cells { Y with phs:=p }) A.vl l n (ownL A.D.vl) vl'):YSp B w w' A { A with vl:=vl' } { Y with phs:=p,log:=l,told:=n }:=by
 have m:=t.mod;have d:=h.desk;refine ⟨⟨t.blk,h.cfg.modT m (by decide) (by decide) (by decide),?_,h.reg.modT m (by decide) (by decide) (by decide) (by decide) (by decide) (by decide) (by decide) (by decide),h.whl.modT m (by decide) (by decide),t.own,?_,h.l1,h.words.modT m h.l0,h.l0⟩,(m.mono (by decide)).less (by simp),rfl⟩
 ·exact ⟨d.blk.modT m (by decide),d.cfg.modT m (by decide) (by decide) (by decide),d.vault.modT m (by decide) (by decide) (by decide) (by decide) (by decide),d.sheet.modT m (by decide) (by decide),d.box.modT m (by decide),d.bcfg.modT m (by decide) (by decide) (by decide),ai d.bids m (by decide),ai d.who m (by decide),fL d.log m (fun k a=>aN.2 a),d.l1,d.l2⟩
 ·intro k a b;rcases t.goes with e | ⟨j,hj,e⟩
  ·exact h.apart k (by rw [←e];exact a) b
  ·have c:j=k:=by rw [e] at a;simpa using a
   have:=(d.log.lt k b).2
   omega
theorem qj (h:DyA w B A Y)(ok:YOk Y)(hn:Y.log.length+Y.D.log.length≤999000):Calls Tryz.prog 38 #[ptr A.gy] w fun e w'=>∃A',e=.returned (.tuple #[])∧YSp B w w' A A' Y.hear:=
 (j2 B A.gy A.D.gd (A.cells Y) (A.D.cells Y.D) A.vl A.D.vl Y.log Y.D.log Y.told (ownL A.D.vl) w h.blk rfl rfl rfl h.l1 h.lt h.log h.desk.blk rfl h.desk.log ok.told (by omega) (fun hg=>aD h.blk h.desk.log (by decide) A.gy (aN.1 hg) rfl) (fun k hk hk2=>h.apart k hk (aN.1 hk2))).mono fun _ _ ⟨vl',he,t⟩=>⟨_,he,h.heard (p:=Y.phs) t⟩
theorem qk (h:DyA w B A Y)(ok:YOk Y)(hn:Y.log.length+Y.D.log.length≤999000)(x:Ev):Calls Tryz.prog 106 #[ptr A.gy,vEv x] w fun e w'=>∃A',e=.returned (.tuple #[])∧YSp B w w' A A' (Y.tell x):=
 (iA x B A.gy A.D.gd (A.cells Y) (A.D.cells Y.D) A.vl A.D.vl Y.log Y.D.log Y.told (ownL A.D.vl) w h.blk rfl rfl rfl h.l1 h.lt h.log h.desk.blk rfl h.desk.log ok.told (by omega) (fun hg=>aD h.blk h.desk.log (by decide) A.gy (aN.1 hg) rfl) (fun k hk hk2=>h.apart k hk (aN.1 hk2)) (fun k hk=>(h.desk.log.lt k (aN.1 hk)).2)).mono fun _ _ ⟨vl',he,t⟩=>⟨_,he,h.heard (p:=Y.phs) t⟩
theorem eQ (h:DyA w B A Y)(ok:YOk Y)(hn:Y.log.length+Y.D.log.length≤999000)(p:Int):Calls Tryz.prog 102 #[ptr A.gy,.int .i64 p] w fun e w'=>∃A',e=.returned (.tuple #[])∧YSp B w w' A A' (Y.come p):=
 (rZ p Y.cycle (.int .i64 Y.phs) B A.gy A.D.gd (A.cells Y) (A.D.cells Y.D) A.vl A.D.vl Y.log Y.D.log Y.told (ownL A.D.vl) w h.blk rfl rfl rfl rfl rfl h.l1 h.lt h.log h.desk.blk rfl h.desk.log ok.told (by omega) (fun hg=>aD h.blk h.desk.log (by decide) A.gy (aN.1 hg) rfl) (fun k hk hk2=>h.apart k hk (aN.1 hk2)) (fun k hk=>(h.desk.log.lt k (aN.1 hk)).2)).mono fun _ _ ⟨vl',he,t⟩=>⟨_,he,h.heard (p:=p) t⟩
end
theorem YOk.hear {Y:YS}(ok:YOk Y):YOk Y.hear:=⟨ok.dc,ok.gc,ok.dok,ok.gok,zY _,ok.whl,ok.cyc,ok.clk2,ok.cn,ok.d64⟩
theorem YOk.tell {Y:YS}(ok:YOk Y)(x:Ev):YOk (Y.tell x):=⟨ok.dc,ok.gc,ok.dok,ok.gok,zY _,ok.whl,ok.cyc,ok.clk2,ok.cn,ok.d64⟩
theorem YOk.come {Y:YS}(ok:YOk Y)(p:Int):YOk (Y.come p):=⟨ok.dc,ok.gc,ok.dok,ok.gok,zY _,ok.whl,ok.cyc,ok.clk2,ok.cn,ok.d64⟩
section
attribute [local go_sem ↓] Go.wp_at_zero Go.wp_at_succ
def okC (C:Cfg)(i:Int):Prop:=0≤i∧i<C.cyc.length
instance (C:Cfg)(i:Int):Decidable (okC C i):=by unfold okC;infer_instance
theorem ql (vm vs vc:Value)(C:Cfg)(i:Int)(w:World)(hc:CSl w vm vs vc C)(hv:Valid C):Calls Tryz.prog 313 #[cfgV vm vs vc C,.int .i64 i] w fun e w'=>(∃n:Int,e=.returned (.tuple #[.int .i64 n,.int .i64 (if okC C i then 0 else 8)]))∧Bw w w':=by
 have g:Bw w (w.alloc (.cells (cfgC vm vs vc C) 26)):=Bn;have l:=aa (hc.alloc (.cells (cfgC vm vs vc C) 26));have t:=aa (Blk.new w 26 (cfgC vm vs vc C));have h:=aa hv;obtain ⟨O,Q,s,_,P,J,d⟩:=hc.c;have z:=aa d;subst s;clear hc hv d;by_cases h1:i<0
 ·have E:=dT h1;have k:Hid ((if okC C i then (0:Int) else 8)=8):=aa (if_neg (by unfold okC;omega));rw [k.o];go_enter Tryz.func313,Tryz.ntmps313;go_wp2_with fail;refine (bM vm vs _ C _ l.o h.o).mono ?_;rintro e q ⟨rfl,f⟩;go_wp2_with fail;go_ret2;exact ⟨⟨_,rfl⟩,g.trans (f.mono g.size)⟩
 have E:=dF h1;by_cases h2:(C.cyc.length:Int)≤i
 ·have m:=dT h2;have k:Hid ((if okC C i then (0:Int) else 8)=8):=aa (if_neg (by unfold okC;omega));rw [k.o];go_enter Tryz.func313,Tryz.ntmps313;go_wp2_with fail;refine (bM vm vs _ C _ l.o h.o).mono ?_;rintro e q ⟨rfl,f⟩;have a:=aa (t.o.keep f);have D:=a.o.c 2;go_wp2_with fail;go_ret2;exact ⟨⟨_,rfl⟩,g.trans (f.mono g.size)⟩
 have m:=dF h2;have k:Hid ((if okC C i then (0:Int) else 8)=0):=aa (if_pos (by unfold okC;omega));rw [k.o];by_cases h3:i=0
 ·subst h3;have r:(decide (C.cyc=[]))=false:=dF (by intro e;have:=h.o.c1;rw [e] at this;simp at this);have B:¬ C.cyc=[]:=of_decide_eq_false r;go_enter Tryz.func313,Tryz.ntmps313;go_wp2_with fail;refine (bM vm vs _ C _ l.o h.o).mono ?_;rintro e q ⟨rfl,f⟩;have a:=aa (t.o.keep f);have D:=a.o.c 2;go_wp2_with fail;go_ret2;exact ⟨⟨_,rfl⟩,g.trans (f.mono g.size)⟩
 ·obtain ⟨j,L⟩:∃j:Nat,i=(j:Int)+1:=⟨(i - 1).toNat,by omega⟩;subst L;have M:(((j:Int)+1)==0)=false:=by simp;omega
  have u:j<C.cyc.length:=by omega
  obtain ⟨b,y,rfl,v,d⟩:=z.o (by omega);have G:=d j u 3 _ rfl;have K:IntKind.i64.wrap ((j:Int)+1 - 1)=(j:Int):=by rw [Int.add_sub_cancel];exact Ax _ (by have:=h.o.c2;omega)
  have H:wrap64 ((j:Int)+1 - 1)=(j:Int):=by have:=h.o.c2;unfold wrap64;omega
  have F:(0:Int)≤(j:Int):=by omega
  have I:(j:Int)<(C.cyc.length:Int):=by omega
  unfold maxLen at J;clear h1 h2 h3 d;generalize C.cyc[j]=x at *;go_enter Tryz.func313,Tryz.ntmps313;go_wp2_with fail;refine (bM vm vs _ C _ l.o h.o).mono ?_;rintro e q ⟨rfl,f⟩;have a:=aa (t.o.keep f);have D:=a.o.c 2;have A:=g.trans (f.mono g.size);have N:=(A.c (p:=⟨b,y+j * 4+3,none⟩) v).trans G;go_wp2_with fail;go_ret2;exact ⟨⟨_,rfl⟩,A⟩
def cycOf (C:Cfg)(i:Int):Cy:=if okC C i then C.cyc.getD i.toNat ⟨0,0,0,0⟩ else ⟨0,0,0,0⟩
theorem ln (vm vs vc:Value)(C:Cfg)(i:Int)(w:World)(hc:CSl w vm vs vc C)(hv:Valid C):Calls Tryz.prog 254 #[cfgV vm vs vc C,.int .i64 i] w fun e w'=>e=.returned (.tuple #[vCy (cycOf C i),.int .i64 (if okC C i then 0 else 8)])∧Bw w w':=by
 have J:Bw w (w.alloc (.cells (cfgC vm vs vc C) 26)):=Bn;obtain ⟨k,a⟩:∃k,(w.alloc (.cells (cfgC vm vs vc C) 26)).alloc (.cells #[.int .i64 0,.int .i64 0,.int .i64 0,.int .i64 0] 63)=k:=⟨_,rfl⟩;have r:Bw w k:=by rw [←a];exact J.alloc J.size _
 have N:=aa (hc.keep r);have E:Hid (Blk k w.heap.size 26 (cfgC vm vs vc C)):=aa (by rw [←a];exact (Blk.new w 26 (cfgC vm vs vc C)).alloc _);have s:Hid (Blk k (w.heap.size+1) 63 #[.int .i64 0,.int .i64 0,.int .i64 0,.int .i64 0]):=aa (by rw [←a];exact heap_alloc2_new _ _ _);have z:=aa a;have f:=aa (ql vm vs vc C i k N.o hv);have q:=E.o;obtain ⟨Q,V,q2,W,Y,X,T,R⟩:=s8 E.o;obtain ⟨a3,z3,hvc,_,d5,d6,d⟩:=hc.c;have y:=aa d;subst hvc;clear d q;by_cases ho:okC C i
 ·have u:Hid ((if okC C i then (0:Int) else 8)=0):=aa (if_pos ho);rw [u.o] at f ⊢;obtain ⟨j,rfl⟩:∃j:Nat,i=(j:Int):=⟨i.toNat,by unfold okC at ho;omega⟩;have t:j<C.cyc.length:=by unfold okC at ho;omega
  have A:Hid (cycOf C (j:Int)=C.cyc[j]):=aa (by unfold cycOf;rw [if_pos ho,Int.toNat_natCast,Ah,Ab t];rfl);rw [A.o];obtain ⟨b,h,rfl,g,d⟩:=y.o (by omega);obtain ⟨p0,p1,p2,p3⟩:=wi (d j t);have K:(0:Int)≤(j:Int):=by omega
  have M:(j:Int)<(C.cyc.length:Int):=by omega
  unfold maxLen at d6;clear ho hc hv d A u a;generalize C.cyc[j]=x at *;go_enter Tryz.func254,Tryz.ntmps254;go_wp2_with fail;rw [show (w.alloc (.cells (cfgC vm vs _ C) 26)).alloc (.cells #[.int .i64 0,.int .i64 0,.int .i64 0,.int .i64 0] 63)=k from z.o];go_wp2_with fail;refine f.o.mono ?_;rintro e L ⟨⟨n,rfl⟩,m⟩;have l:=r.trans (m.mono r.size);have G:=aa (s.o.keep m);have O:=(E.o.keep m).c 2;have U:=(l.c (p:=⟨b,h+j * 4,none⟩) g).trans p0;have S:=(l.c (p:=⟨b,h+j * 4+1,none⟩) g).trans p1;have Z:=(l.c (p:=⟨b,h+j * 4+2,none⟩) g).trans p2;have P:=(l.c (p:=⟨b,h+j * 4+3,none⟩) g).trans p3;go_wp2_with (refine aF rfl 63 _ _ rfl rfl (w.heap.size+1) #[.int .i64 x.cut,.int .i64 x.fund,.int .i64 x.buyin,.int .i64 x.close] rfl rfl (by kernel_rfl) (by simp [Value.oneCell']) _ G.o rfl ?_;intro W5 P5;have B:=aa P5;have F:=P5.row.c 0;have H:=P5.row.c 1;have D:=P5.row.c 2;have I:=P5.row.c 3;clear P5)
  refine bodyPost_ret (v:=.tuple #[.agg #[.int .i64 x.cut,.int .i64 x.fund,.int .i64 x.buyin,.int .i64 x.close],.int .i64 0]) (by simp [results,Tryz.results254,go_sem,F,H,D,I]) rfl ?_;exact ⟨rfl,B.o.low l (by omega)⟩
 ·have u:Hid ((if okC C i then (0:Int) else 8)=8):=aa (if_neg ho);rw [u.o] at f ⊢;have A:Hid (cycOf C i=⟨0,0,0,0⟩):=aa (by unfold cycOf;rw [if_neg ho]);rw [A.o];clear ho hc hv A u a y;go_enter Tryz.func254,Tryz.ntmps254;go_wp2_with fail;rw [show (w.alloc (.cells (cfgC vm vs _ C) 26)).alloc (.cells #[.int .i64 0,.int .i64 0,.int .i64 0,.int .i64 0] 63)=k from z.o];go_wp2_with fail;refine f.o.mono ?_;rintro e L ⟨⟨n,rfl⟩,m⟩;have l:=r.trans (m.mono r.size);have G:=aa (s.o.keep m);go_wp2_with (refine aF rfl 63 _ _ rfl rfl (w.heap.size+1) #[.int .i64 0,.int .i64 0,.int .i64 0,.int .i64 0] rfl rfl (by kernel_rfl) (by simp [Value.oneCell']) _ G.o rfl ?_;intro W5 P5;have B:=aa P5;have F:=P5.row.c 0;have H:=P5.row.c 1;have D:=P5.row.c 2;have I:=P5.row.c 3;clear P5)
  refine bodyPost_ret (v:=.tuple #[.agg #[.int .i64 0,.int .i64 0,.int .i64 0,.int .i64 0],.int .i64 8]) (by simp [results,Tryz.results254,go_sem,F,H,D,I]) rfl ?_;exact ⟨rfl,B.o.low l (by omega)⟩
end
end Go.Proofs.YtmhohaanddglbaaGreatDoor
