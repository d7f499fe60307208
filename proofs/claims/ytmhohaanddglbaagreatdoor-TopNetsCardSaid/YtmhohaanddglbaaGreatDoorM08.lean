/- Texts of the proof of TopNets, joined: Day1, Gather, Comp, Join, Give, Leave, Close, Due, Allo, Hand. -/
import Derived.Test.YtmhohaanddglbaaGreatDoorM01
import Derived.Test.YtmhohaanddglbaaGreatDoorM04
import Derived.Test.YtmhohaanddglbaaGreatDoorM05
import Derived.Test.YtmhohaanddglbaaGreatDoorM06
import Derived.Test.YtmhohaanddglbaaGreatDoorM07
import Derived.Deep.RegionHeldLaw
set_option linter.all false
set_option maxRecDepth 100000
set_option maxHeartbeats 16000000
namespace Go.Proofs.YtmhohaanddglbaaGreatDoor
open Go.RowKit
section
attribute [local go_sem ↓] Go.wp_at_zero Go.wp_at_succ
theorem xQ (c:Cm)(hk:c.kd=2)(w:World):Calls Tryz.prog 103 #[cval c] w fun e w'=>e=.returned (.tuple #[vTr c.trade,.int .i64 0])∧Bw w w':=by
 have d:Bw w (w.alloc (.cells (ccells c) 38)):=Bn;have f:=d.alloc d.size (.cells #[.int .i64 0,.int .i64 0,.int .i64 0,.int .i64 0,.int .i64 0,.int .i64 0] 58);have b:Hid (Blk ((w.alloc (.cells (ccells c) 38)).alloc (.cells #[.int .i64 0,.int .i64 0,.int .i64 0,.int .i64 0,.int .i64 0,.int .i64 0] 58)) (w.heap.size+1) 58 #[.int .i64 0,.int .i64 0,.int .i64 0,.int .i64 0,.int .i64 0,.int .i64 0]):=aa (heap_alloc2_new _ _ _);have q:(c.kd != 2)=false:=by simpa using hk
 have n:Hid (c.trade=⟨c.id,c.mb,c.ot,c.sc,c.qt,c.pr⟩):=aa rfl;rw [n.o];clear hk;go_enter Tryz.func103,Tryz.ntmps103;go_wp2_with (refine aF rfl 58 _ _ rfl rfl (w.heap.size+1) #[.int .i64 c.id,.int .i64 c.mb,.int .i64 c.ot,.int .i64 c.sc,.int .i64 c.qt,.int .i64 c.pr] rfl rfl (by kernel_rfl) (by simp [Value.oneCell']) _ b.o rfl ?_;intro p a;have l:=aa a;have j:=a.row.c 0;have k:=a.row.c 1;have i:=a.row.c 2;have g:=a.row.c 3;have h:=a.row.c 4;have m:=a.row.c 5;clear a)
 refine bodyPost_ret (v:=.tuple #[.agg #[.int .i64 c.id,.int .i64 c.mb,.int .i64 c.ot,.int .i64 c.sc,.int .i64 c.qt,.int .i64 c.pr],.int .i64 0]) (by simp [results,Tryz.results103,go_sem,j,k,i,g,h,m]) rfl ?_;exact ⟨rfl,l.o.low f (by omega)⟩
def YS.next (Y:YS)(kind:Int)(short:Bool):Int:=(nextM Y.phs kind short (decide ((Y.C.cyc.length:Int)≤Y.cycle))).1
theorem i8 {B:Nat}{A:YA}{Y:YS}{w:World}(h:DyA w B A Y)(kind:Int)(short:Bool):Calls Tryz.prog 174 #[ptr A.gy,.int .i64 kind,.bool short] w fun e w'=>e=.returned (.int .i64 (Y.next kind short))∧Bw w w':=by
 have s:=aa h;obtain ⟨n,m,a,_⟩:=h.cfg.sl.c;have p:w.cell? ⟨A.gy,2,none⟩=some (.slice n Y.C.cyc.length m):=(h.blk.c 2).trans (congrArg some a);have f:w.cell? ⟨A.gy,11,none⟩=some (.int .i64 Y.phs):=h.blk.c 11;have b:w.cell? ⟨A.gy,13,none⟩=some (.int .i64 Y.cycle):=h.blk.c 13;have q:=aa (rV Y.phs kind short (decide ((Y.C.cyc.length:Int)≤Y.cycle)) w.drew h.words.d);have t:Hid (Y.next kind short=(nextM Y.phs kind short (decide ((Y.C.cyc.length:Int)≤Y.cycle))).1):=aa rfl;have g:=aa a;have i:=And.intro p (And.intro f b);clear h a;go_enter Tryz.func174,Tryz.ntmps174;go_wp2_with fail;go_region_held3 (fun W=>W.cell? ⟨A.gy,2,none⟩=some (.slice n Y.C.cyc.length m)∧W.cell? ⟨A.gy,11,none⟩=some (.int .i64 Y.phs)∧W.cell? ⟨A.gy,13,none⟩=some (.int .i64 Y.cycle)) (first | exact i | exact k | assumption | go_keep)
  (first | (go_at_call 223;refine q.o.mono ?_;rintro e u ⟨rfl,l⟩;have j:=aa (s.o.keepD l);have r:=aa l;have k:=And.intro ((j.o.blk.c 2).trans (congrArg some g.o)) (And.intro (j.o.blk.c 11) (j.o.blk.c 13))))
 all_goals
  go_wp2_with fail;go_ret;exact ⟨by rw [t.o];rfl,bd r.o⟩
theorem lp (k:Nat)(h1:1≤k)(h2:k≤10)(g:Nat)(w:World):Calls Tryz.prog 36 #[ptr g,.int .i64 k] w fun e w'=>e=.returned (.func (.func (70+k)) #[ptr g] #[])∧w'=w:=by
 obtain rfl | rfl | rfl | rfl | rfl | rfl | rfl | rfl | rfl | rfl:k=1∨k=2∨k=3∨k=4∨k=5∨k=6∨k=7∨k=8∨k=9∨k=10:=by omega
 all_goals
  go_enter Tryz.func36,Tryz.ntmps36;go_wp2_with fail;go_ret;exact ⟨rfl,rfl⟩
theorem ud (f g:Nat)(W:World):(binOp BinOp.eql 96 (.func (.func f) #[ptr g] #[]) .nilFunc).run Tryz.prog W=.ok (.bool false) W:=by rfl
abbrev vAns (e n:Int):Value:=.agg #[.int .i64 e,.int .i64 n]
theorem Cm.kind {c:Cm}(h:c.err=0):∃k:Nat,1≤k∧k≤10∧c.kd=k:=by
 have a:(hasOf c.kd).2=true:=by
  unfold Cm.err Cm.right at h;cases hh:(hasOf c.kd).2 with
  | true=>rfl
  | false=>rw [hh] at h;simp at h
 unfold hasOf at a;by_cases h3:c.kd=2
 ·exact ⟨2,by omega,by omega,h3⟩
 by_cases h4:c.kd=7
 ·exact ⟨7,by omega,by omega,h4⟩
 by_cases h5:c.kd=5
 ·exact ⟨5,by omega,by omega,h5⟩
 by_cases h6:c.kd=6
 ·exact ⟨6,by omega,by omega,h6⟩
 by_cases h7:c.kd=4
 ·exact ⟨4,by omega,by omega,h7⟩
 by_cases h8:c.kd=8
 ·exact ⟨8,by omega,by omega,h8⟩
 by_cases h9:c.kd=9
 ·exact ⟨9,by omega,by omega,h9⟩
 by_cases h10:c.kd=1
 ·exact ⟨1,by omega,by omega,h10⟩
 by_cases h11:c.kd=10
 ·exact ⟨10,by omega,by omega,h11⟩
 by_cases h12:c.kd=3
 ·exact ⟨3,by omega,by omega,h12⟩
 ·simp [h3,h4,h5,h6,h7,h8,h9,h10,h11,h12] at a
theorem DyA.modO {B:Nat}{TS:List TypeId}{K:List Nat}{w w':World}{A:YA}{Y:YS}(h:DyA w B A Y)(m:ModT B TS K w w')(hd:∀T∈[94,125,127,63,138,184,224,2,227,333,186,71,175,211,3,101,144,188,191,163,268,150,197],T∉TS):DyA w' B A Y:=
 ⟨h.blk.modT m (hd _ (by decide)),h.cfg.modT m (hd _ (by decide)) (hd _ (by decide)) (hd _ (by decide)),h.desk.modT m (fun T hT=>hd T (by revert hT;revert T;decide)),h.reg.modT m (hd _ (by decide)) (hd _ (by decide)) (hd _ (by decide)) (hd _ (by decide)) (hd _ (by decide)) (hd _ (by decide)) (hd _ (by decide)) (hd _ (by decide)),h.whl.modT m (hd _ (by decide)) (hd _ (by decide)),ai h.log m (hd _ (by decide)),h.apart,h.l1,h.words.modT m h.l0,h.l0⟩
theorem YSp.ans {B:Nat}{w w1 w2:World}{A A1:YA}{Y1:YS}{g:Nat}{old cs:Array Value}(s:YSp B w w1 A A1 Y1)(hw:B≤w.heap.size)(hg:w.heap.size≤g)(hb:Blk w1 g 35 old)(p:PutB w1 g 35 cs w2):YSp B w w2 A A1 Y1:=by
 have m:ModT B [35] [] w1 w2:=ModT.put hb p (by simp) (by omega) (by simp);refine ⟨s.at'.modO m (by decide),⟨m.os.trans s.mod.os,m.tape.trans s.mod.tape,m.output.trans s.mod.output,z5 s.mod.size m.size,fun k hk hc=>?_⟩,s.gy⟩;exact (p.mod.far k (AR hk s.mod.size) (by simp;omega)).trans (s.mod.far k hk hc)
theorem zX {B:Nat}{A:YA}{Y:YS}{w:World}(h:DyA w B A Y)(c:Cm)(he:c.err=0)(hm:mayM Y.phs c.kd=false):Calls Tryz.prog 9 #[ptr A.gy,cval c] w fun e w'=>e=.returned (vAns 11 0)∧YSp B w w' A A Y:=by
 obtain ⟨k,l,j,u⟩:=Cm.kind he;obtain ⟨W1,hW1⟩:∃W1,(w.alloc (.cells (ccells c) 38)).alloc (.cells #[.int .i64 0,.int .i64 0] 35)=W1:=⟨_,rfl⟩;have x:Bw w (w.alloc (.cells (ccells c) 38)):=Bn;have i:Bw w W1:=by rw [←hW1];exact x.alloc x.size _
 have n:Hid (Blk W1 (w.heap.size+1) 35 #[.int .i64 0,.int .i64 0]):=aa (by rw [←hW1];exact heap_alloc2_new _ _ _);have b:Hid (Boxed W1 w.heap.size c):=aa (by rw [←hW1];exact (Boxed.new w c).keep Bn);obtain ⟨U,S,Q,M,O,N,R⟩:=b.o.cells;have r:=aa hW1;have L:=aa h;have s:=aa (h.keep i);have t:=aa (ll c W1);have V:=aa he;rw [he] at t;have a:=aa (fun W=>lp k l j A.gy W);rw [←u] at a;have y:=aa hm;have I:=fun W=>ud (70+k) A.gy W
 clear h hW1 he hm u;go_enter Tryz.func9,Tryz.ntmps9;go_wp2_with fail;rw [show (w.alloc (.cells #[.int .i64 c.kd,.int .i64 c.id,.int .i64 c.mb,.int .i64 c.ot,.int .i64 c.sc,.int .i64 c.qt,.int .i64 c.pr] 38)).alloc (.cells #[.int .i64 0,.int .i64 0] 35)=W1 from r.o];go_wp2_with (first | (go_at_call 35;refine t.o.mono ?_;rintro e J ⟨rfl,f⟩;have D:=aa (n.o.keep f);have z:=aa (i.trans (f.mono i.size));have G:=aa (s.o.keep f);have K:=aa (b.o.keep f);have E:=K.o.cells.1;have p:J.cell? ⟨A.gy,11,none⟩=some (.int .i64 Y.phs):=G.o.blk.c 11;have q:=And.intro E p) | (go_at_call 36;refine (a.o _).mono ?_;rintro e w3 ⟨rfl,hw3⟩;subst hw3))
 go_region_held3 (fun W=>W.cell? ⟨w.heap.size,0,none⟩=some (.int .i64 c.kd)∧W.cell? ⟨A.gy,11,none⟩=some (.int .i64 Y.phs)) (first | exact q | assumption | go_keep)
  (first | (go_at_call 37;refine (oh Y.phs c.kd _).mono ?_;rintro e P ⟨rfl,m⟩;subst m;rw [y.o]))
 all_goals
  go_wp2_with (refine aF rfl 35 _ _ rfl rfl (w.heap.size+1) #[.int .i64 11,.int .i64 0] rfl rfl (by kernel_rfl) (by simp [Value.oneCell']) _ D.o.d rfl ?_;intro T g;have C:=aa g;have F:=g.row.c 0;have H:=g.row.c 1;clear g)
  refine bodyPost_ret (v:=.agg #[.int .i64 11,.int .i64 0]) (by simp [results,Tryz.results9,go_sem,F,H]) rfl ?_;exact ⟨rfl,YSp.same L.o (C.o.low (z.o.drew) (by omega))⟩
def DoPost (B:Nat)(A:YA)(Q:Int→Int→YS→Prop)(w:World)(e:Ending)(w':World):Prop:=∃n er A' Y',e=.returned (vAns er (if er=0 then n else 0))∧YSp B w w' A A' (YS.hear Y')∧YOk Y'∧Q n er Y'
def Handles (B f:Nat)(Y:YS)(c:Cm)(Q:Int→Int→YS→Prop):Prop:=∀W A,DyA W B A Y→Calls Tryz.prog f #[ptr A.gy,cval c] W fun e w'=>∃n er A' Y',e=.returned (.tuple #[.int .i64 n,.int .i64 er])∧YSp B W w' A A' Y'∧YOk Y'∧Y'.log.length+Y'.D.log.length≤999000∧Q n er Y'
theorem Handles.at {B f:Nat}{Y:YS}{c:Cm}{Q:Int→Int→YS→Prop}(h:Handles B f Y c Q){W:World}{A:YA}(hA:DyA W B A Y):Calls Tryz.prog f #[ptr A.gy,.agg #[.int .i64 c.kd,.int .i64 c.id,.int .i64 c.mb,.int .i64 c.ot,.int .i64 c.sc,.int .i64 c.qt,.int .i64 c.pr]] W fun e w'=>∃n er A' Y',e=.returned (.tuple #[.int .i64 n,.int .i64 er])∧YSp B W w' A A' Y'∧YOk Y'∧Y'.log.length+Y'.D.log.length≤999000∧Q n er Y':=h W A hA
theorem zx {B:Nat}{A:YA}{Y:YS}{w:World}(h:DyA w B A Y)(c:Cm)(he:c.err=0)(hm:mayM Y.phs c.kd=true)(f:Nat)(hf:c.kd+70=f)(eg:∀args w,(callFunc f args).run Tryz.prog w=.ok (.enter f args) w)(Q:Int→Int→YS→Prop)(hh:Handles B f Y c Q):Calls Tryz.prog 9 #[ptr A.gy,cval c] w (DoPost B A Q w):=by
 obtain ⟨k,I,H,hk⟩:=Cm.kind he;obtain rfl:f=70+k:=by omega
 obtain ⟨q,a⟩:∃q,(w.alloc (.cells (ccells c) 38)).alloc (.cells #[.int .i64 0,.int .i64 0] 35)=q:=⟨_,rfl⟩;have cA:Bw w (w.alloc (.cells (ccells c) 38)):=Bn;have G:Bw w q:=by rw [←a];exact cA.alloc cA.size _
 have M:Hid (Blk q (w.heap.size+1) 35 #[.int .i64 0,.int .i64 0]):=aa (by rw [←a];exact heap_alloc2_new _ _ _);have C:Hid (Boxed q w.heap.size c):=aa (by rw [←a];exact (Boxed.new w c).keep Bn);obtain ⟨p0,p1,p2,p3,p4,p5,p6⟩:=C.o.cells;have T:=aa a;have V:=aa h;have U:=aa (h.keep G);have Z:=aa (ll c q);have HE:=aa he;rw [he] at Z;have r:=aa (fun W=>lp k I H A.gy W);rw [←hk] at r;have HM:=aa hm;have HH:=aa hh;obtain ⟨g,hg⟩:∃g,70+k=g:=⟨_,rfl⟩;rw [hg] at r HH eg;have ab:=fun W=>ud g A.gy W
 clear h a he hm hk hh hf hg;go_enter Tryz.func9,Tryz.ntmps9;go_wp2_with fail;rw [show (w.alloc (.cells #[.int .i64 c.kd,.int .i64 c.id,.int .i64 c.mb,.int .i64 c.ot,.int .i64 c.sc,.int .i64 c.qt,.int .i64 c.pr] 38)).alloc (.cells #[.int .i64 0,.int .i64 0] 35)=q from T.o];go_wp2_with (first | (go_at_call 35;refine Z.o.mono ?_;rintro e w2 ⟨rfl,E⟩;have R2:=aa (M.o.keep E);have C2:=aa (G.trans (E.mono G.size));have D2:=aa (U.o.keep E);have B2:=aa (C.o.keep E);have P:=B2.o.cells.1;have u:w2.cell? ⟨A.gy,11,none⟩=some (.int .i64 Y.phs):=D2.o.blk.c 11;have y:=And.intro P u) | (go_at_call 36;refine (r.o _).mono ?_;rintro e w3 ⟨rfl,hw3⟩;subst hw3))
 go_region_held3 (fun W=>W.cell? ⟨w.heap.size,0,none⟩=some (.int .i64 c.kd)∧W.cell? ⟨A.gy,11,none⟩=some (.int .i64 Y.phs)) (first | exact y | assumption | go_keep)
  (first | (go_at_call 37;refine (oh Y.phs c.kd _).mono ?_;rintro e w4 ⟨rfl,K⟩;subst K;rw [HM.o]))
 all_goals
  rename_i i
  clear i y P u;obtain ⟨P,u1,u2,u3,u4,u5,u6⟩:=(show Boxed (w3.drew) w.heap.size c from B2.o).cells;go_wp2_with (first
   | (go_at_fn g;refine (HH.o.at D2.o.d).mono ?_;rintro e w5 ⟨D,l,A5,Y5,rfl,b,x,s,q5⟩;have t:=aa ((YSp.same V.o (C2.o.drew)).trans b);have n:=aa x;have L:=aa s;have X:=aa q5;have O:=aa b.gy;have R5:=aa ((R2.o.d (wd:=w3.drew)).modT b.mod (by decide));clear b x s q5)
   | (go_at_call 38;rw [←O.o];refine (qj t.o.at' n.o L.o).mono ?_;rintro e w6 ⟨A6,rfl,p⟩;have z:=aa (t.o.trans p);have F:=aa (R5.o.modT p.mod (by decide));clear p)
   | (refine aF rfl 35 _ _ rfl rfl (w.heap.size+1) #[.int .i64 l,.int .i64 0] rfl rfl (by kernel_rfl) (by simp [Value.oneCell']) _ F.o rfl ?_;intro W5 j;have N:=aa j;have R:=j.row.c 0;have S:=j.row.c 1;clear j)
   | (refine aF rfl 35 _ _ rfl rfl (w.heap.size+1) #[.int .i64 0,.int .i64 D] rfl rfl (by kernel_rfl) (by simp [Value.oneCell']) _ F.o rfl ?_;intro W5 j;have N:=aa j;have R:=j.row.c 0;have S:=j.row.c 1;clear j))
  ·have m:(l != 0)=true:=by assumption
   have J:l≠0:=by simpa using m
   refine bodyPost_ret (v:=.agg #[.int .i64 l,.int .i64 0]) (by simp [results,Tryz.results9,go_sem,R,S]) rfl ?_;exact ⟨D,l,A6,Y5,by rw [if_neg J],z.o.ans V.o.lt (by omega) F.o N.o,n.o,X.o⟩
  ·have m:(l != 0)=false:=by assumption
   obtain rfl:l=0:=by simpa using m
   refine bodyPost_ret (v:=.agg #[.int .i64 0,.int .i64 D]) (by simp [results,Tryz.results9,go_sem,R,S]) rfl ?_;exact ⟨D,0,A6,Y5,by rw [if_pos rfl],z.o.ans V.o.lt (by omega) F.o N.o,n.o,X.o⟩
end
end Go.Proofs.YtmhohaanddglbaaGreatDoor
namespace Go.Proofs.YtmhohaanddglbaaGreatDoor
open Go.RowKit Go.Proofs Go.Shelf
section
attribute [local go_sem ↓] Go.wp_at_zero Go.wp_at_succ
abbrev vI (x:Int):Value:=.int .i64 x
def getI (k:Int):List (Int×List Int)→List Int
 | []=>[]
 | p :: l=>if k=p.1 then p.2 else getI k l
theorem qm (k:Int):∀(G:List (Int×List Int)) (bv:List Value) (i:Nat),bv.length=G.length→k∈G.map (·.1)→∃n,∃h:n<G.length,∃h2:n<bv.length,look k (List.zipWith (fun g v=>(g.1,v)) G bv) i=some (i+n,bv[n])∧getI k G=G[n].2:=by
 intro G;induction G with
 | nil=>intro bv i _ a;simp at a
 | cons p G ih=>
  intro bv i d a;cases bv with
  | nil=>simp at d
  | cons b bv=>
   by_cases h:k=p.1
   ·exact ⟨0,by simp,by simp,by simp [look,h],by simp [getI,h]⟩
   ·have c:k∈G.map (·.1):=by
     rw [Am,Aq] at a;rcases a with a | a
     ·exact absurd a h
     ·exact a
    obtain ⟨n,j,h2,l,f⟩:=ih bv (i+1) (by simpa using d) c;refine ⟨n+1,by simpa using j,by simpa using h2,?_,?_⟩
    ·simp only [List.zipWith_cons_cons,look,h,if_false,l,A9];congr 2
     omega
    ·simp only [getI,h,if_false,f,A9]
def keysI (G:List (Int×List Int)):List Int:=(G.map (·.1)).mergeSort fun x y=>decide (x≤y)
def rowI (G:List (Int×List Int))(k:Int):Lg:=⟨k,0,(sumM (getI k G)).1⟩
def badI (G:List (Int×List Int)):List Int→Int
 | []=>0
 | k :: l=>if (sumM (getI k G)).2≠0 then (sumM (getI k G)).2 else badI G l
theorem xR (G:List (Int×List Int)):∀(l:List Int) (k:Nat) (hk:k<l.length),(∀j (_:j<k) (h2:j<l.length),(sumM (getI l[j] G)).2=0)→(sumM (getI l[k] G)).2≠0→badI G l=(sumM (getI l[k] G)).2:=by
 intro l;induction l with
 | nil=>intro k hk;exact absurd hk (by simp)
 | cons x l ih=>
  intro k hk b h;cases k with
  | zero=>simp only [Aw] at h ⊢;rw [badI,if_pos h]
  | succ k=>
   have a:=b 0 (by omega) (by simp);simp only [Aw] at a;simp only [A9] at h ⊢;rw [badI,if_neg (by simpa using a)];exact ih k (by simpa using hk) (fun j hj h2=>by have:=b (j+1) (by omega) (by simpa using h2);simpa using this) h
theorem qn (G:List (Int×List Int)):∀(l:List Int),(∀j (h2:j<l.length),(sumM (getI l[j] G)).2=0)→badI G l=0:=by
 intro l;induction l with
 | nil=>intro _;rfl
 | cons x l ih=>
  intro b;have a:=b 0 (by simp);simp only [Aw] at a;rw [badI,if_neg (by simpa using a)];exact ih fun j h2=>by have:=b (j+1) (by simpa using h2);simpa using this
def gtM (G:List (Int×List Int)):List Lg×Int:=if badI G (keysI G)≠0 then ([],badI G (keysI G)) else ((keysI G).map (rowI G),0)
theorem ue {w:World}{B M:Nat}{G:List (Int×List Int)}{bv:List Value}(h:Grp w B M vI G bv)(hk:∀p∈G,In64 p.1)(hnd:(G.map (·.1)).Nodup)(hn:G.length≤100000):∃D0:DataW Unit,w.ownsMap Tryz.prog 3 (fun _=>some (.nil,[])) M G.length D0∧(intKeys D0).Perm (G.map (·.1))∧Maps.size D0=G.length:=by
 have y:=eu h.blen;obtain ⟨D,z⟩:∃D,List.zipWith (fun (g:Int×List Int) (v:Value)=>(g.1,v)) G bv=D:=⟨_,rfl⟩;have j:D.map (·.1)=G.map (·.1):=by
  rw [←z];apply List.ext_getElem
  ·simp [h.blen]
  ·intro i C K;simp
 have A:=h.mid.map;rw [z] at A y;have l:∀x∈ents vI D,∃a:Int,x.key=vI a∧a∈G.map (·.1)∧Go.WideElems.rd (H:=Unit) Tryz.prog 3 (fun _=>some (.nil,[])) x=some (.int .i64 a,.nil):=by
  intro x f;unfold ents at f;obtain ⟨p,hp,rfl⟩:=AD.1 f;have r:p.1∈D:=by
   obtain ⟨⟨a,b⟩,n⟩:=p;exact (List.mem_zipIdx' hp).2 ▸ Ag _
  have m:p.1.1∈G.map (·.1):=by rw [←j];exact AD.2 ⟨_,r,rfl⟩
  refine ⟨p.1.1,rfl,m,?_⟩;obtain ⟨q,I,F⟩:=AD.1 m;have k:=hk q I;rw [F] at k;unfold Go.WideElems.rd;rw [Go.Maps.keyOf_int_mk Tryz.underlying3 (by have h:=wrap64_wf p.1.1;rwa [IntWalk.wrap64_in _ k] at h)];rfl
 have o:w.heap[M]?=some (.map (ents vI D).toArray D.length):=A;have c:(ents vI D).map (·.key)=(G.map (·.1)).map vI:=by
  rw [←j,List.map_map];have:=congrArg (List.map Prod.fst) (bS vI D)
  rw [List.map_map,List.map_map] at this;exact this
 have d:(ents vI D).map (·.born)=List.range D.length:=by
  apply AY
  intro i;rw [List.getElem?_map,aY];rcases Az i D.length with hi | hi
  ·simp [hi]
  ·simp [hi]
 have t:Go.MapKept.Stamped (ents vI D).toArray D.length:=by
  refine ⟨fun x f=>?_,?_,?_⟩
  ·have:x.born∈(ents vI D).map (·.born):=AD.2 ⟨x,by simpa using f,rfl⟩
   rw [d] at this;simpa using this
  ·show ((ents vI D).toArray.toList.map (·.born)).Nodup
   rw [show (ents vI D).toArray.toList=ents vI D from rfl,d];exact List.nodup_range
  ·show ((ents vI D).toArray.toList.map (·.key)).Nodup
   rw [show (ents vI D).toArray.toList=ents vI D from rfl,c];rw [Bg,List.pairwise_map];exact (Bg.1 hnd).imp fun h e=>h (by simpa using e)
 have u:((ents vI D).toArray.toList.map (Go.WideElems.rg (H:=Unit) Tryz.prog 3 (fun _=>some (.nil,[])))).map (fun p=>Go.intOf p.1)=G.map (·.1):=by
  rw [show (ents vI D).toArray.toList=ents vI D from rfl,List.map_map];have e:(ents vI D).map ((fun p:Lit×DataW Unit=>Go.intOf p.1) ∘ Go.WideElems.rg (H:=Unit) Tryz.prog 3 (fun _=>some (.nil,[])))=(ents vI D).map fun x=>match x.key with | .int _ a=>a | _=>0:=by
   apply List.map_congr_left
   intro x f;obtain ⟨a,C,_,s⟩:=l x f;simp only [Function.comp_apply,Go.WideElems.rg,s,C];rfl
  rw [e];have J:(ents vI D).map (fun x=>match x.key with | .int _ a=>a | _=>(0:Int))=((ents vI D).map (·.key)).map fun v=>match v with | .int _ a=>a | _=>0:=by rw [List.map_map];rfl
  rw [J,c,List.map_map];have E:((fun v:Value=>match v with | .int _ a=>a | _=>(0:Int)) ∘ vI)=id:=rfl;rw [E,List.map_id]
 refine ⟨_,⟨(ents vI D).toArray,D.length,o,⟨?_,t,fun x f=>?_⟩,?_,rfl⟩,?_,?_⟩
 ·simp only [AP,cp];unfold maxLen;omega
 ·obtain ⟨a,_,_,s⟩:=l x (by simpa using f);exact ⟨_,s⟩
 ·simp only [AP,cp];omega
 ·show (List.map (fun p:Lit×DataW Unit=>Go.intOf p.1) _).Perm _
  rw [←u];exact (Go.WideShapes.sorted_perm _).map _
 ·show List.length _=_
  rw [(Go.WideShapes.sorted_perm _).length_eq,Ad,show (ents vI D).toArray.toList=ents vI D from rfl,cp,y]
theorem uf (m:Nat):AnyZI.SortsIn Tryz.prog Tryz.l362_ren Fence.wide m:=
 ⟨fun blk off cap ss W hH hblk hsz=>callsIn_wide.2 (AnyM.slices_Sort_int Tryz.l349 blk off cap ss W hH hblk hsz),
  fun p cap W=>callsIn_wide.2 (AnyM.slices_Sort_int_none Tryz.l349 p cap W)⟩
theorem uh (M:Nat)(w:World):Calls Tryz.prog 363 #[.map (some M)] w fun e w'=>e=.returned (.func (.func 378) #[] #[ptr w.heap.size])∧w'=w.alloc (.cells #[.map (some M)] 409):=
 callsIn_wide.1 (AnyZI.keys_in Tryz.l363 Fence.wide 5 trivial rfl (some M) w)
theorem lq {w:World}{B M:Nat}{G:List (Int×List Int)}{bv:List Value}(h:Grp w B M vI G bv)(hk:∀p∈G,In64 p.1)(hnd:(G.map (·.1)).Nodup)(hn:G.length≤100000):Calls Tryz.prog 362 #[.func (.func 378) #[] #[ptr w.heap.size]] (w.alloc (.cells #[.map (some M)] 409)) (RPo eI 3 1 (keysI G) (w.alloc (.cells #[.map (some M)] 409))):=by
 obtain ⟨k,a,m,g⟩:=ue h hk hnd hn;have i:=a.lt;have c:SeqGives Fence.wide 2 Tryz.prog 378 #[.pointer (some ⟨w.heap.size,0,none⟩)] encZ (fun f=>f.Perm (intKeys k)) (Maps.size k) (w.alloc (.cells #[.map (some M)] 409)):=
  AnyZI.keys_gives (ρ:=Tryz.l363_ren) { Tryz.l363 with } Fence.wide _ trivial rfl (by omega) w.heap.size M G.length k _ (by simp) (by simp) (by
   obtain ⟨o,d,j,s,g,r⟩:=a;exact ⟨o,d,(Below.heap_alloc _ _ M i).trans j,s,g,r⟩)
 have q:=AnyZI.sorted_in Tryz.l362 Fence.wide 5 trivial trivial trivial trivial rfl (by omega) (uf _) (enters_of Tryz.func349 (by kernel_rfl) rfl) 378 #[.pointer (some ⟨w.heap.size,0,none⟩)] trivial (enters_of Tryz.func378 (by kernel_rfl) rfl) _ _ (by rw [g];unfold maxLen;omega) (by rw [g];omega) _ c;refine (callsIn_wide.1 q).mono ?_;rintro e u ⟨v,f,rfl,t,b,_,j⟩;have l:f.mergeSort (fun x y=>decide (x≤y))=keysI G:=mergeSort_of_perm_i (t.trans m);have n:f.length=(keysI G).length:=by rw [←l,List.length_mergeSort]
 rw [l] at b;refine ⟨v,rfl,?_,j⟩;rw [←n,ee];exact b
def rowsK (G:List (Int×List Int))(K:List Int)(k:Nat):List Lg:=(K.take k).map (rowI G)
theorem mZ (G:List (Int×List Int))(K:List Int)(k:Nat)(h:k<K.length):rowsK G K (k+1)=rowsK G K k++[⟨K[k],0,(sumM (getI K[k] G)).1⟩]:=by
 unfold rowsK;rw [z9 h,AI];rfl
theorem qo (G:List (Int×List Int))(K:List Int)(k:Nat):(rowsK G K k).length≤k:=by
 unfold rowsK;rw [Ad,Aa];omega
theorem i9 (G:List (Int×List Int)):(keysI G).length=G.length:=by unfold keysI;rw [List.length_mergeSort,Ad]
theorem qp {G:List (Int×List Int)}{k:Int}:k∈keysI G↔k∈G.map (·.1):=by unfold keysI;exact (List.mergeSort_perm _ _).mem_iff
structure GrpOk (G:List (Int×List Int)):Prop where
 key:∀p∈G,In64 p.1
 nd:(G.map (·.1)).Nodup
 n:G.length≤4096
 row:∀p∈G,All64 p.2∧p.2.length≤10000
def GatherPost (G:List (Int×List Int))(w:World)(e:Ending)(w':World):Prop:=∃u,e=.returned (.tuple #[u,.int .i64 (gtM G).2])∧w'.ownsRow w.heap.size 120 3 u (gtM G).1.length (flat eLg (gtM G).1)∧Bw w w'
theorem ui {w:World}{B M:Nat}{G:List (Int×List Int)}{bv:List Value}(h:Grp w B M vI G bv)(ok:GrpOk G){k:Int}(hk:k∈G.map (·.1)):∃n c,(Instr.lookup 409 (.map (some M)) (.int .i64 k) false).run Tryz.prog w=.ok (.slice n (getI k G).length c) w∧Sl eI 1 w (.slice n (getI k G).length c) (getI k G)∧All64 (getI k G)∧(getI k G).length≤1000000:=by
 obtain ⟨n,g,l,j,i⟩:=qm k G bv 0 h.blen hk;have d:=h.mid.rows.own n l (by rw [Ad];exact g);simp only [AW] at d;have f:=bi iu Tryz.underlying409 (.slice none 0 0) Tryz.zeroValue45 w M _ k h.mid.map;rw [j] at f;obtain ⟨b,c,hv⟩:=ag d;rw [←i] at d hv;have a:=ok.row _ (Ag g);rw [←i] at a;refine ⟨b,c,?_,?_,a.1,by omega⟩
 ·rw [←hv];exact f
 ·rw [←hv];exact Sl.own kI d
theorem gK {w:World}{B M:Nat}{G:List (Int×List Int)}{bv:List Value}(h:Grp w B M vI G bv)(ok:GrpOk G):Calls Tryz.prog 333 #[.map (some M)] w (GatherPost G w):=by
 have HG:=aa h;have OK:=aa ok;have I:=aa (lq h ok.key ok.nd (by have:=ok.n;omega));have y:=i9 G;have hn:=ok.n;have s:Hid (∀k∈keysI G,k∈G.map (·.1)):=aa fun k hk=>qp.1 hk
 have cA:Bw w (w.alloc (.cells #[.map (some M)] 409)):=Bn;have t:Hid (∀K,K=keysI G→gtM G=if badI G K≠0 then ([],badI G K) else (rowsK G K K.length,0)):=aa fun K hK=>by unfold gtM rowsK;rw [hK,Ap]
 obtain ⟨i0,hi,U,Y,Z⟩:=info_parts bt;obtain ⟨K,hK⟩:∃K,keysI G=K:=⟨_,rfl⟩;have HB:=aa (t.o K hK.symm);rw [hK] at I s y;have ai:K.length≤4096:=by omega
 clear h ok hK t y;go_enter Tryz.func333,Tryz.ntmps333;go_wp2_with (first
  | (go_at_call 363;refine (uh M _).mono ?_;rintro e w1 ⟨rfl,rfl⟩)
  | (go_at_call 362;refine I.o.mono ?_;rintro e w2 ⟨v2,rfl,Q,c2⟩;have O2:=aa Q;have l:=cA.trans (c2.mono cA.size);have W:=aa (Sl.own kI Q);obtain ⟨n2,k2,rfl⟩:=ag Q;clear Q))
 go_loopw [4,13] (fun vo vi wr=>∃(k:Nat),k≤K.length∧vi=.int .i64 k∧wr.ownsRow w2.heap.size 120 3 vo (rowsK G K k).length (flat eLg (rowsK G K k))∧Bw w2 wr∧∀j (_:j<k) (h2:j<K.length),(sumM (getI K[j] G)).2=0) (fun _ vi _=>K.length - (intOf vi).toNat)
 case atStart=>exact ⟨0,Af _,rfl,⟨by simp [flat,rowsK],Or.inl ⟨rfl,by simp [rowsK]⟩⟩,zZ _ _,fun j hj=>absurd hj (Nat.not_lt_zero j)⟩
 case round=>
  obtain ⟨k,hk,rfl,a,d,x⟩:=hrel;have HO:=aa a;have i:=aa x;obtain ⟨no,ko,rfl⟩:=ag a;clear a x;by_cases hlt:k<K.length
  ·obtain ⟨a',z,C,_,an,ab,F⟩:=W.o;obtain ⟨e1,e2⟩:n2=a'∧k2=z:=by simpa using C
   subst e1 e2;obtain ⟨b,ad,rfl,ac,J⟩:=F (by omega);have T:=J k hlt 0 _ rfl;rw [A0,AU] at T;have r0:=(d.c (p:=⟨b,ad+k,none⟩) ac).trans T;have aj:(0:Int)≤(k:Int):=by omega
   have ak:(k:Int)<(K.length:Int):=by omega
   unfold maxLen at ab;have E:=aa (mZ G K k hlt);have am:=qo G K k;have A:=aa (fun h=>xR G K k hlt (fun j hj h2=>i.o j hj h2) h);have X:=aa (s.o K[k] (Ag hlt));have D:Hid ((sumM (getI K[k] G)).2=0→∀j (_:j<k+1) (h2:j<K.length),(sumM (getI K[j] G)).2=0):=aa fun h j hj h2=>by
    rcases Az j k with h3 | h3
    ·exact i.o j h3 h2
    ·obtain rfl:j=k:=by omega
     exact h
   clear J T F C i;generalize rowsK G K k=L at *;generalize K[k]=m at *;obtain ⟨nr,cr,ao,H,O,S⟩:=ui (HG.o.keep (l.trans (d.mono l.size))) OK.o X.o;have v:=aa (aW _ (getI m G) wr H O S);obtain ⟨⟨sm,se⟩,hsm⟩:∃r,sumM (getI m G)=r:=⟨_,rfl⟩;rw [hsm] at v E A D;clear O H hsm;by_cases h0:se=0
   rotate_left
   ·have d0:(se != 0)=true:=by simpa using h0
    have HE:=aa (A.o h0);have f:Hid (gtM G=([],se)):=aa (by rw [HB.o,HE.o,if_pos h0]);clear h0;go_wp2_with (go_at_call 230;refine v.o.mono ?_;rintro e w5 ⟨rfl,R⟩;have P:=(l.trans (d.mono l.size)).trans (R.mono (l.trans (d.mono l.size)).size))
    go_ret2;exact ⟨_,by rw [f.o];rfl,by rw [f.o];exact bJ _ _ _ _ _,P⟩
   ·subst h0;have af:=aa (D.o rfl);go_wp2_with (first
     | (go_at_call 230;refine v.o.mono ?_;rintro e w5 ⟨rfl,R⟩;have P:=d.trans (R.mono d.size);have N:=aa ((ah HO.o R).alloc (.cells #[.int .i64 m,.int .i64 0,.int .i64 sm] 120));have u:=P.alloc P.size (.cells #[.int .i64 m,.int .i64 0,.int .i64 sm] 120))
     | (at_builtin;refine aq kLg (by decide) bL _ rfl _ _ 66 rfl w2.heap.size 120 i0 (.agg #[.int .i64 0,.int .i64 0,.int .i64 0]) 24 Tryz.underlying66 hi U Y Z (by rfl) (.slice no L.length ko) L rfl N.o (some ⟨w5.heap.size,0,none⟩) 1 [⟨m,0,sm⟩] rfl (Sl.one1b eLg kLg _ 120 _ (by rfl) _ rfl) (by show L.length+1≤maxLen;unfold maxLen;omega) (by show (L.length+1) * 24≤_;omega) u.size ?_;intro v' w7 a g V;have b7:=u.grown g u.size (fun q hq=>(N.o.lt q hq).1);rw [←E.o] at a;have ae:=aa a;obtain ⟨n7,k7,rfl⟩:=ag a;clear g V a))
    go_roundw
    case rel=>exact ⟨k+1,hlt,by first | rfl | go_num,ae.o,b7,af.o⟩
    case measure=>simp [intOf];omega
  ·obtain rfl:k=K.length:=by omega
   have al:¬ ((K.length:Int)<(K.length:Int)):=by omega
   have f:Hid (gtM G=(rowsK G K K.length,0)):=aa (by rw [HB.o,qn G K fun j h2=>i.o j h2 h2,if_neg (by simp)]);go_wp2_with fail;go_ret2;exact ⟨_,by rw [f.o];rfl,by rw [f.o];exact aw HO.o l.size,l.trans (d.mono l.size)⟩
end
end Go.Proofs.YtmhohaanddglbaaGreatDoor
namespace Go.Proofs.YtmhohaanddglbaaGreatDoor
open Go.RowKit
section
attribute [local go_sem ↓] Go.wp_at_zero Go.wp_at_succ
def ofM (m:Int):List Lg→Int
 | []=>0
 | x :: l=>if x.mem=m then x.amt else ofM m l
theorem of_at (m:Int):∀(l:List Lg) (k:Nat) (h:k<l.length),(∀j (hj:j<k) (h2:j<l.length),l[j].mem≠m)→l[k].mem=m→ofM m l=l[k].amt:=by
 intro l;induction l with
 | nil=>intro k h;exact absurd h (by simp)
 | cons x l ih=>
  intro k h c a;cases k with
  | zero=>simp only [Aw] at a ⊢;rw [ofM,if_pos a]
  | succ k=>
   have b:=c 0 (by omega) (by simp);simp only [Aw] at b;simp only [A9] at a ⊢;rw [ofM,if_neg b];exact ih k (by simpa using h) (fun j hj h2=>c (j+1) (by omega) (by simpa using h2)) a
theorem xS (m:Int):∀(l:List Lg),(∀j (h2:j<l.length),l[j].mem≠m)→ofM m l=0:=by
 intro l;induction l with
 | nil=>intro _;rfl
 | cons x l ih=>
  intro b;have a:=b 0 (by simp);simp only [Aw] at a;rw [ofM,if_neg a];exact ih fun j h2=>b (j+1) (by simpa using h2)
theorem uj (v:Value)(l:List Lg)(m:Int)(w:World)(hv:Sl eLg 3 w v l)(hn:l.length≤100000):Calls Tryz.prog 220 #[v,.int .i64 m] w fun e w'=>e=.returned (.int .i64 (ofM m l))∧Bw w w':=by
 have D:=aa hv;obtain ⟨G,B,rfl,_⟩:=hv;go_enter Tryz.func220,Tryz.ntmps220;go_wp2_with fail;go_loopw [9] (fun vi wr=>∃k:Nat,k≤l.length∧vi=.int .i64 k∧Bw w wr∧∀j (hj:j<k) (h2:j<l.length),l[j].mem≠m) (fun vi _=>l.length - (intOf vi).toNat)
 case atStart=>exact ⟨0,Af _,rfl,zZ _ _,fun j hj=>absurd hj (by omega)⟩
 case round=>
  obtain ⟨k,M,rfl,a,i⟩:=hrel;have g:=aa i;clear i;by_cases hlt:k<l.length
  ·obtain ⟨J,n,q,_,F,u,r⟩:=D.o;obtain ⟨e1,e2⟩:G=J∧B=n:=by simpa using q
   subst e1 e2;obtain ⟨b,f,rfl,d,s⟩:=r (by omega);obtain ⟨q0,q1,q2⟩:=ch (s k hlt);have N:=(a.c (p:=⟨b,f+k * 3,none⟩) d).trans q0;have K:=(a.c (p:=⟨b,f+k * 3+1,none⟩) d).trans q1;have L:=(a.c (p:=⟨b,f+k * 3+2,none⟩) d).trans q2;have C:(0:Int)≤(k:Int):=by omega
   have H:(k:Int)<(l.length:Int):=by omega
   unfold maxLen at u;have z:=aa (of_at m l k hlt (fun j hj h2=>g.o j hj h2));have y:Hid (l[k].mem≠m→∀j (hj:j<k+1) (h2:j<l.length),l[j].mem≠m):=aa (fun h j hj h2=>by
    rcases Az j k with h3 | h3
    ·exact g.o j h3 h2
    ·obtain rfl:j=k:=by omega
     exact h)
   clear s q0 q1 q2 r q;generalize l[k]=x at *;have A:=a.alloc a.size (.cells (cLg x) 120);by_cases hm:x.mem=m
   ·have E:=beq_iff_eq.2 hm;have t:=aa (z.o hm);clear hm;go_wp2_with fail;go_ret;exact ⟨by rw [t.o];rfl,A⟩
   ·have E:=beq_eq_false_iff_ne.2 hm;have t:=aa (y.o hm);clear hm;go_wp2_with fail;go_roundw
    case rel=>exact ⟨k+1,by omega,by go_num,A,t.o⟩
    case measure=>simp [intOf];omega
  ·obtain rfl:k=l.length:=by omega
   have I:¬ ((l.length:Int)<(l.length:Int)):=by omega
   have t:=aa (xS m l fun j h2=>g.o j h2 h2);go_wp2_with fail;go_ret;exact ⟨by rw [t.o];rfl,a⟩
def cashM (l:List Lg):Int:=match l with
 | []=>0
 | x :: _=>if x.ass=0 then 0 else 1
def ccM (l:List Lg):Int:=if acM l≠0 then acM l else cashM l
theorem d9 (v:Value)(l:List Lg)(w:World)(hv:Sl eLg 3 w v l)(hn:l.length≤100000)(h64:∀x∈l,In64 x.amt):Calls Tryz.prog 334 #[v] w fun e w'=>e=.returned (.int .i64 (ccM l))∧Bw w w':=by
 have C:=aa hv;have q:=aa (cL v l w hv hn h64);obtain ⟨E,u,rfl,_⟩:=hv;obtain ⟨y,hy⟩:∃y,acM l=y:=⟨_,rfl⟩;have s:=aa hy;have g:Hid (ccM l=if y≠0 then y else cashM l):=aa (by unfold ccM;rw [hy]);clear hy h64;by_cases h0:y=0
 rotate_left
 ·have H:(y != 0)=true:=by simpa using h0
  have d:Hid (ccM l=y):=aa (by rw [g.o,if_pos h0]);clear h0 g;go_enter Tryz.func334,Tryz.ntmps334;go_wp2_with (go_at_call 295;refine q.o.mono ?_;rintro e t ⟨rfl,a⟩;rw [s.o])
  go_ret;exact ⟨by rw [d.o];rfl,a⟩
 ·subst h0;cases l with
  | nil=>
   have d:Hid (ccM []=0):=aa (by rw [g.o];rfl);clear g;go_enter Tryz.func334,Tryz.ntmps334;go_wp2_with (go_at_call 295;refine q.o.mono ?_;rintro e t ⟨rfl,a⟩;rw [s.o])
   go_ret;exact ⟨by rw [d.o];rfl,a⟩
  | cons x r=>
   have d:Hid (ccM (x :: r)=if x.ass=0 then 0 else 1):=aa (by rw [g.o];rfl);obtain ⟨F,j,k,_,B,z,m⟩:=C.o;obtain ⟨e1,e2⟩:E=F∧u=j:=by simpa using k
   subst e1 e2;obtain ⟨b,i,rfl,h,n⟩:=m (by simp);obtain ⟨_,q1,_⟩:=ch (n 0 (by simp));rw [Nat.zero_mul,AU] at q1;simp only [Aw] at q1;obtain ⟨N,hN⟩:∃N,(x :: r).length=N:=⟨_,rfl⟩;have D:(0:Int)<(N:Int):=by rw [←hN];simp only [Ay];omega
   rw [hN] at q ⊢;clear g n m k hN;by_cases hz:x.ass=0
   ·have G:(x.ass != 0)=false:=by simpa using hz
    have f:Hid (ccM (x :: r)=0):=aa (by rw [d.o,if_pos hz]);clear hz d;go_enter Tryz.func334,Tryz.ntmps334;go_wp2_with (go_at_call 295;refine q.o.mono ?_;rintro e t ⟨rfl,a⟩;rw [s.o];have A:=(a.c (p:=⟨b,i+1,none⟩) h).trans q1)
    go_ret;exact ⟨by rw [f.o];rfl,a⟩
   ·have G:(x.ass != 0)=true:=by simpa using hz
    have f:Hid (ccM (x :: r)=1):=aa (by rw [d.o,if_neg hz]);clear hz d;go_enter Tryz.func334,Tryz.ntmps334;go_wp2_with (go_at_call 295;refine q.o.mono ?_;rintro e t ⟨rfl,a⟩;rw [s.o];have A:=(a.c (p:=⟨b,i+1,none⟩) h).trans q1)
    go_ret;exact ⟨by rw [f.o];rfl,a⟩
structure MapApp (X:World)(B M:Nat)(G:List (Int×List Int))(bv:List Value)(m x:Int)(u:Value)(L:List Int):Prop where
 look:∀W,W.heap[M]?=X.heap[M]?→(Instr.lookup 409 (.map (some M)) (.int .i64 m) false).run Tryz.prog W=.ok u W
 own:X.ownsRow B 2 1 u L.length (flat eI L)
 small:L.length≤10000
 far:u.ownBlock≠some M
 step:∀W W' v',Grp W B M vI G bv→W.grownBy W' u.ownBlock→W'.ownsRow B 2 1 v' (L++[x]).length (flat eI (L++[x]))→(v'.ownBlock=u.ownBlock∨v'.ownBlock=some W.heap.size)→∃o bv',(Instr.mapUpdate 409 (.map (some M)) (.int .i64 m) v').run Tryz.prog W'=.ok () (pOb W' M o)∧Grp (pOb W' M o) B M vI (addG m x G) bv'
theorem xT {X:World}{B M:Nat}{G:List (Int×List Int)}{bv:List Value}(h:Grp X B M vI G bv)(hs:∀p∈G,p.2.length≤10000)(m x:Int):∃u L,MapApp X B M G bv m x u L:=by
 rcases ep m G bv 0 h.blen with ⟨hL,hadd⟩ | ⟨n,hn1,hn2,hL,hkey,hadd⟩
 ·refine ⟨.slice none 0 0,[],⟨fun W hW=>?_,⟨by simp [flat],Or.inl ⟨rfl,rfl⟩⟩,by simp,by simp [Value.ownBlock],fun W W' v' hG hg d hat=>?_⟩⟩
  ·have:=bi iu Tryz.underlying409 (.slice none 0 0) Tryz.zeroValue45 W M _ m (h.mid.map.heap hW)
   rw [hL] at this;exact this
  ·have l:hG.blen=h.blen:=rfl;have a:=hG.blen;have k:(G.map (fun p:Int×List Int=>p.2)).length=G.length:=by simp
   have c:=hG.mid.push.grow bv.length (by simp) (by simp [a]) (v':=v') (zs':=[x]) (by simpa [Value.ownBlock] using hg) (by simpa using d) (by simpa [Value.ownBlock] using hat);have b:=c.put (List.zipWith (fun g v=>(g.1,v)) G bv++[(m,v')]);have j:(bv++[Value.slice none 0 0]).set bv.length v'=bv++[v']:=by simp
   have i:(G.map (fun p:Int×List Int=>p.2)++[[]]).set bv.length [x]=(addG m x G).map (fun p:Int×List Int=>p.2):=by
    rw [hadd,a,←k];simp
   have f:List.zipWith (fun g v=>(g.1,v)) G bv++[(m,v')]=List.zipWith (fun g v=>(g.1,v)) (addG m x G) (bv++[v']):=by
    rw [hadd,List.zipWith_append a.symm];rfl
   rw [j,i] at b;rw [f] at b;refine ⟨mkMap vI (List.zipWith (fun g v=>(g.1,v)) (addG m x G) (bv++[v'])),bv++[v'],?_,⟨by rw [hadd];simp [a],b⟩⟩;have:=dM iu Tryz.underlying409 W' M _ m v' c.map hL
   rw [f] at this;exact this
 ·have d:=h.mid.rows.own n hn2 (by rw [Ad];exact hn1);simp only [AW] at d;rw [Av] at hL;refine ⟨bv[n],G[n].2,⟨fun W hW=>?_,d,hs _ (Ag hn1),fun e=>dh h.mid _ (Ag hn2) M e rfl,fun W W' v' hG hg ho2 hat=>?_⟩⟩
  ·have:=bi iu Tryz.underlying409 (.slice none 0 0) Tryz.zeroValue45 W M _ m (h.mid.map.heap hW)
   rw [hL] at this;exact this
  ·have c:=hG.mid.grow n hn2 (by rw [Ad];exact hn1) (v':=v') (zs':=G[n].2++[x]) hg ho2 hat;have:=bZ iu Tryz.underlying409 W' M _ m n bv[n] v' c.map hL
   exact ⟨_,_,this,Grp.old_key hG.blen hn1 hn2 hkey (hadd x) c⟩
theorem qq {M:Nat}{w3 W W':World}{u:Value}(h:Mod [M] w3 W)(hg:W.grownBy W' u.ownBlock)(hb:∀q,u.ownBlock=some q→w3.heap.size≤q):Mod [M] w3 W':=
 ⟨hg.os.trans h.os,hg.tape.trans h.tape,hg.output.trans h.output,z5 h.size hg.size,fun k hk hn=>(hg.block k (AR hk h.size) (fun e=>by have:=hb k e.symm;omega)).trans (h.far k hk hn)⟩
theorem uk {W W':World}{u:Value}{M:Nat}(hg:W.grownBy W' u.ownBlock)(hM:M<W.heap.size)(hf:u.ownBlock≠some M):W'.heap[M]?=W.heap[M]?:=hg.block M hM (Ne.symm hf)
noncomputable def lkV (M:Nat)(m:Int)(W:World):Value:=match (Instr.lookup 409 (.map (some M)) (.int .i64 m) false).run Tryz.prog W with
 | .ok v _=>v
 | _=>.nilFunc
theorem jP {M:Nat}{m:Int}{W:World}{u:Value}(h:(Instr.lookup 409 (.map (some M)) (.int .i64 m) false).run Tryz.prog W=.ok u W):lkV M m W=u∧(Instr.lookup 409 (.map (some M)) (.int .i64 m) false).run Tryz.prog W=.ok (lkV M m W) W:=by
 have e:lkV M m W=u:=by unfold lkV;rw [h]
 exact ⟨e,by rw [e];exact h⟩
theorem dC {W:World}{B M:Nat}{G:List (Int×List Int)}{bv:List Value}(h:Grp W B M vI G bv)(m:Int):(Instr.lookup 409 (.map (some M)) (.int .i64 m) false).run Tryz.prog W=.ok (lkV M m W) W:=
 (jP (bi iu Tryz.underlying409 (.slice none 0 0) Tryz.zeroValue45 W M _ m h.mid.map)).2
def gpI (l:List Lg):List (Int×List Int):=l.foldl (fun G x=>addG x.mem x.amt G) []
theorem jQ (l:List Lg)(k:Nat)(h:k<l.length):gpI (l.take (k+1))=addG l[k].mem l[k].amt (gpI (l.take k)):=by
 unfold gpI;rw [z9 h,List.foldl_append];rfl
theorem bK (l:List Lg):(gpI l).length≤l.length∧∀p∈gpI l,p.2.length≤l.length:=by
 have h:=dS Lg.mem Lg.amt l [] 0 (zY _) (fun q hq=>absurd hq (by simp));simpa [gpI] using h
theorem jR (P:Int→Prop):∀(l:List Lg) (G:List (Int×List Int)),(∀x∈l,P x.mem)→(∀p∈G,P p.1)→∀p∈l.foldl (fun G x=>addG x.mem x.amt G) G,P p.1:=by
 intro l;induction l with
 | nil=>intro G _ h p b;exact h p b
 | cons x l ih=>
  intro G f d;refine ih _ (fun y hy=>f y (AG _ hy)) fun p b=>?_
  have a:p.1∈(addG x.mem x.amt G).map (·.1):=AD.2 ⟨p,b,rfl⟩;rw [go] at a;split at a
  ·obtain ⟨q,c,e⟩:=AD.1 a;rw [←e];exact d q c
  ·rcases AJ.1 a with a | a
   ·obtain ⟨q,c,e⟩:=AD.1 a;rw [←e];exact d q c
   ·rw [List.mem_singleton.1 a];exact f x (As ..)
theorem m5 {l:List Lg}(h1:∀x∈l,In64 x.mem)(h2:∀x∈l,In64 x.amt)(hn:l.length≤4096):GrpOk (gpI l):=
 ⟨jR In64 l [] h1 (fun p hp=>absurd hp (by simp)),fb Lg.mem Lg.amt l [] (by simp),z5 (bK l).1 hn,fun p hp=>⟨kE In64 Lg.mem Lg.amt l [] h2 (fun p hp=>absurd hp (by simp)) p hp,by have:=(bK l).2 p hp;omega⟩⟩
def joinL (a b:List Lg):List Lg×Int:=
 if acM a≠0 then ([],acM a) else if acM b≠0 then ([],acM b)
 else if ccM a≠0∨ccM b≠0 then ([],1)
 else if (gtM (gpI (a++b))).2≠0 then ([],(gtM (gpI (a++b))).2)
 else if (fitM ((asumM a).1+(asumM b).1)).2≠0 then ([],(fitM ((asumM a).1+(asumM b).1)).2)
 else ((gtM (gpI (a++b))).1,0)
def JoinPost (r:List Lg×Int)(w:World)(e:Ending)(w':World):Prop:=∃u,e=.returned (.tuple #[u,.int .i64 r.2])∧w'.ownsRow w.heap.size 120 3 u r.1.length (flat eLg r.1)∧Bw w w'
theorem oF (n:Int):In64 (fitM n).1:=by
 unfold fitM;split
 ·assumption
 ·unfold In64;simp
theorem up (l:List Lg):In64 (asumM l).1:=by
 unfold asumM;split
 ·unfold In64;simp
 ·unfold sumM;exact oF _
theorem infoA:(Tryz.prog.info? 2).map (fun i=>(i.zero,i.size,i.bytes))=some (some (.int .i64 0),1,8):=by kernel_rfl
theorem qr (u1 u2:Value)(a b:List Lg)(w:World)(h1:Sl eLg 3 w u1 a)(h2:Sl eLg 3 w u2 b)(hn1:a.length≤1024)(hn2:b.length≤1024)(hm:∀x∈a++b,In64 x.mem)(h64:∀x∈a++b,In64 x.amt):Calls Tryz.prog 273 #[u1,u2] w (JoinPost (joinL a b) w):=by
 have A:∀x∈a,In64 x.amt:=fun x hx=>h64 x (List.mem_append_left _ hx)
 have C:∀x∈b,In64 x.amt:=fun x hx=>h64 x (List.mem_append_right _ hx)
 have cA:Bw w (w.alloc (.cells #[u1,u2] 66)):=Bn;have a4:=aa (Blk.new w 66 #[u1,u2]);have H1:=aa h1;have H2:=aa h2;have ae:Hid (∀W,Bw w W→Calls Tryz.prog 295 #[u1] W fun e w'=>e=.returned (.int .i64 (acM a))∧Bw W w'):=aa fun W c=>cL u1 a W (h1.keep c) (by omega) A
 have aj:Hid (∀W,Bw w W→Calls Tryz.prog 295 #[u2] W fun e w'=>e=.returned (.int .i64 (acM b))∧Bw W w'):=aa fun W c=>cL u2 b W (h2.keep c) (by omega) C
 have Q:Hid (∀W,Bw w W→Calls Tryz.prog 334 #[u1] W fun e w'=>e=.returned (.int .i64 (ccM a))∧Bw W w'):=aa fun W c=>d9 u1 a W (h1.keep c) (by omega) A
 have ab:Hid (∀W,Bw w W→Calls Tryz.prog 334 #[u2] W fun e w'=>e=.returned (.int .i64 (ccM b))∧Bw W w'):=aa fun W c=>d9 u2 b W (h2.keep c) (by omega) C
 have ad:Hid (∀W,Bw w W→Calls Tryz.prog 245 #[u1] W fun e w'=>e=.returned (.tuple #[.int .i64 (asumM a).1,.int .i64 (asumM a).2])∧Bw W w'):=aa fun W c=>et u1 a W (h1.keep c) (by omega) A
 have af:Hid (∀W,Bw w W→Calls Tryz.prog 245 #[u2] W fun e w'=>e=.returned (.tuple #[.int .i64 (asumM b).1,.int .i64 (asumM b).2])∧Bw W w'):=aa fun W c=>et u2 b W (h2.keep c) (by omega) C
 have HJ:Hid (joinL a b=if acM a≠0 then ([],acM a) else if acM b≠0 then ([],acM b) else if ccM a≠0∨ccM b≠0 then ([],1) else if (gtM (gpI (a++b))).2≠0 then ([],(gtM (gpI (a++b))).2) else if (fitM ((asumM a).1+(asumM b).1)).2≠0 then ([],(fitM ((asumM a).1+(asumM b).1)).2) else ((gtM (gpI (a++b))).1,0)):=aa rfl;have aH:Hid (∀W g,Blk W g 66 #[u1,u2]→Bw w W→Calls Tryz.prog 335 #[.slice (some ⟨g,0,none⟩) 2 2] W (RPo eLg 120 3 (a++b) W)):=aa fun W g hg c=>tG g u1 u2 a b W hg (h1.keep c) (h2.keep c) (by omega) (by omega)
 have a6:(a++b).length≤2048:=by rw [z8];omega
 obtain ⟨l,hl⟩:∃l,a++b=l:=⟨_,rfl⟩;rw [hl] at aH HJ hm h64 a6;have HM:=aa hm;have aZ:=aa h64;obtain ⟨n1,k1,rfl,_⟩:=h1;obtain ⟨n2,k2,rfl,_⟩:=h2;clear hm h64 hl;obtain ⟨ea,hea⟩:∃ea,acM a=ea:=⟨_,rfl⟩;obtain ⟨eb,heb⟩:∃eb,acM b=eb:=⟨_,rfl⟩;have bf:=aa hea;have bi:=aa heb;rw [hea,heb] at HJ;rw [hea] at ae;rw [heb] at aj;clear A C hea heb;go_enter Tryz.func273,Tryz.ntmps273;go_wp2_with fail;go_loopw [24] (fun vi wr=>Bw w wr∧Blk wr w.heap.size 66 #[.slice n1 a.length k1,.slice n2 b.length k2]∧((vi=.int .i64 (0:Nat))∨(vi=.int .i64 (1:Nat)∧ea=0)∨(vi=.int .i64 (2:Nat)∧ea=0∧eb=0))) (fun vi _=>2 - (intOf vi).toNat)
 case atStart=>exact ⟨cA,a4.o,Or.inl rfl⟩
 case round=>
  obtain ⟨aF,O,hr⟩:=hrel;have n:=aa aF;have an:=aa O;have q0:=O.c 0;have q1:=O.c 1;clear aF O;rcases hr with rfl | ⟨rfl,h0⟩ | ⟨rfl,h0,h0b⟩
  ·go_wp2_with (go_at_call 295;refine (ae.o _ n.o).mono ?_;rintro e x1 ⟨rfl,y⟩;have v:=aa (n.o.trans (y.mono n.o.size));have ai:=aa (an.o.keep y);clear y)
   ·have z:(ea != 0)=true:=by assumption
    have J:ea≠0:=by simpa using z
    have m:Hid (joinL a b=([],ea)):=aa (by rw [HJ.o,if_pos J]);go_ret2;exact ⟨_,by rw [m.o];rfl,by rw [m.o];exact bJ _ _ _ _ _,v.o⟩
   ·have z:(ea != 0)=false:=by assumption
    go_roundw
    case rel=>exact ⟨v.o,ai.o,Or.inr (Or.inl ⟨rfl,by simpa using z⟩)⟩
    case measure=>decide
  ·go_wp2_with (go_at_call 295;refine (aj.o _ n.o).mono ?_;rintro e x1 ⟨rfl,y⟩;have v:=aa (n.o.trans (y.mono n.o.size));have ai:=aa (an.o.keep y);clear y)
   ·have z:(eb != 0)=true:=by assumption
    have J:eb≠0:=by simpa using z
    have m:Hid (joinL a b=([],eb)):=aa (by rw [HJ.o,if_neg (by simpa using h0),if_pos J]);go_ret2;exact ⟨_,by rw [m.o];rfl,by rw [m.o];exact bJ _ _ _ _ _,v.o⟩
   ·have z:(eb != 0)=false:=by assumption
    go_roundw
    case rel=>exact ⟨v.o,ai.o,Or.inr (Or.inr ⟨rfl,h0,by simpa using z⟩)⟩
    case measure=>decide
  ·have aE:=aa HJ.o;clear HJ;have S:Hid (joinL a b=if ccM a≠0∨ccM b≠0 then ([],1) else if (gtM (gpI l)).2≠0 then ([],(gtM (gpI l)).2) else if (fitM ((asumM a).1+(asumM b).1)).2≠0 then ([],(fitM ((asumM a).1+(asumM b).1)).2) else ((gtM (gpI l)).1,0)):=aa (by rw [aE.o,if_neg (by simpa using h0),if_neg (by simpa using h0b)]);clear aE h0 h0b ae aj an q0 q1;have aU:True:=trivial;obtain ⟨ca,Z⟩:∃ca,ccM a=ca:=⟨_,rfl⟩;obtain ⟨cb,hcb⟩:∃cb,ccM b=cb:=⟨_,rfl⟩;rw [Z,hcb] at S;rw [Z] at Q;rw [hcb] at ab;clear Z hcb;have bk:∀w:World,(Instr.makeMap 409 none).run Tryz.prog w=.ok (.map (some w.heap.size)) (w.alloc (.map #[] 0)):=fun w=>rfl
   by_cases hcc:ca=0∧cb=0
   rotate_left
   ·have m:Hid (joinL a b=([],1)):=aa (by rw [S.o,if_pos (by omega)]);by_cases hc1:ca=0
    ·have aG:cb≠0:=fun h=>hcc ⟨hc1,h⟩
     have d1:(ca != 0)=false:=by simpa using hc1
     have d2:(cb != 0)=true:=by simpa using aG
     clear hcc hc1 aG;go_wp2_with (go_at_call 334;(first | (clear aU;refine (Q.o _ n.o).mono ?_;rintro e x1 ⟨rfl,y⟩;have v:=aa (n.o.trans (y.mono n.o.size));clear y) | (refine (ab.o _ v.o).mono ?_;rintro e x2 ⟨rfl,c2⟩;have B2:=aa (v.o.trans (c2.mono v.o.size));clear c2)))
     go_ret2;exact ⟨_,by rw [m.o];rfl,by rw [m.o];exact bJ _ _ _ _ _,B2.o⟩
    ·have d1:(ca != 0)=true:=by simpa using hc1
     clear hcc hc1;go_wp2_with (go_at_call 334;(refine (Q.o _ n.o).mono ?_;rintro e x1 ⟨rfl,y⟩;have v:=aa (n.o.trans (y.mono n.o.size));clear y))
     go_ret2;exact ⟨_,by rw [m.o];rfl,by rw [m.o];exact bJ _ _ _ _ _,v.o⟩
   ·obtain ⟨rfl,rfl⟩:=hcc;have E:Hid (joinL a b=if (gtM (gpI l)).2≠0 then ([],(gtM (gpI l)).2) else if (fitM ((asumM a).1+(asumM b).1)).2≠0 then ([],(fitM ((asumM a).1+(asumM b).1)).2) else ((gtM (gpI l)).1,0)):=aa (by rw [S.o,if_neg (by simp)]);clear S;go_wp2_with (first
     | (go_at_call 334;(first | (clear aU;refine (Q.o _ n.o).mono ?_;rintro e x1 ⟨rfl,y⟩;have v:=aa (n.o.trans (y.mono n.o.size));clear y) | (refine (ab.o _ v.o).mono ?_;rintro e x2 ⟨rfl,c2⟩;have B2:=aa (v.o.trans (c2.mono v.o.size));clear c2;have B3:=aa (B2.o.alloc B2.o.size (.map #[] 0));have G3:=aa (Grp.new x2 vI);have B4:=aa (B3.o.alloc B3.o.size (.cells #[.slice n1 a.length k1,.slice n2 b.length k2] 66));have G4:=aa (G3.o.alloc (.cells #[.slice n1 a.length k1,.slice n2 b.length k2] 66));have K4:=aa (Blk.new (x2.alloc (.map #[] 0)) 66 #[.slice n1 a.length k1,.slice n2 b.length k2]);have aQ:Hid ((x2.alloc (.map #[] 0)).heap.size=x2.heap.size+1):=aa (by simp)))))
    have aq:=aH.o _ (x2.heap.size+1) (by have h:=K4.o;rw [aQ.o] at h;exact h) B4.o;refine aq.mono ?_;rintro e B ⟨v3,rfl,o3,c3⟩;have B5:=aa (B4.o.trans (c3.mono B4.o.size));have I:Hid (MapB B x2.heap.size vI []):=aa (G4.o.keep c3).mid.map;have a9:Hid (Bw x2 B):=aa ((Bn.alloc (by simp) _).trans (c3.mono (by simp;omega)));have aP:=aa o3;obtain ⟨n3,k3,rfl⟩:=ag o3;have aY:x2.heap.size<B.heap.size:=I.o.lt;obtain ⟨M,hM⟩:∃M,x2.heap.size=M:=⟨_,rfl⟩;rw [hM] at I aY;obtain ⟨j0,hj,jz0,jz1,jz2⟩:=info_parts infoA;have a7:Hid (∀wr,Mod [M] B wr→Bw w wr):=aa fun wr hm=>hm.low B5.o (fun k hk=>by rw [List.mem_singleton.1 hk,←hM];exact B2.o.size)
    have aW:Hid (∀wr,Mod [M] B wr→MapB wr M vI []∨True):=aa fun _ _=>Or.inr trivial
    have P:Hid (B.ownsRow w.heap.size 120 3 (.slice n3 l.length k3) l.length (flat eLg l)):=aa (aw aP.o B4.o.size);have bb:Hid (∀wr,Mod [M] B wr→wr.ownsRow w.heap.size 120 3 (.slice n3 l.length k3) l.length (flat eLg l)):=aa fun wr hm=>au P.o fun g hg=>hm.far g (P.o.lt g hg).2 (by simpa using bE I.o P.o g hg)
    have a3:Hid (Grp B B.heap.size M vI [] []):=aa ⟨rfl,⟨I.o,⟨rfl,fun i h=>absurd h (by simp),fun i j h=>absurd h (by simp)⟩⟩⟩;clear o3 c3 a9 B4 G4 K4 aQ B3 G3 I aW aP v;rw [hM];clear hM aq;go_wp2_with fail;go_loopw [48] (fun vi wr=>∃(k:Nat) (bv:List Value),k≤l.length∧vi=.int .i64 k∧Grp wr B.heap.size M vI (gpI (l.take k)) bv∧Mod [M] B wr∧wr.ownsRow w.heap.size 120 3 (.slice n3 l.length k3) l.length (flat eLg l)) (fun vi _=>l.length - (intOf vi).toNat)
    case atStart=>exact ⟨0,[],Af _,rfl,a3.o,Mod.refl _ _,P.o⟩
    case round=>
     obtain ⟨k,bv,hk,rfl,hG,V,am⟩:=hrel;have HG:=aa hG;have aC:=aa V;have ba:=aa am;have a8:=aa (Sl.own kLg am);clear hG V am;by_cases hlt:k<l.length
     ·obtain ⟨a',aA,aO,_,bm,a2,aB⟩:=a8.o;obtain ⟨e1,e2⟩:n3=a'∧k3=aA:=by simpa using aO
      subst e1 e2;obtain ⟨b,a1,rfl,be,aV⟩:=aB (by omega);obtain ⟨r0,r1,r2⟩:=ch (aV k hlt);have bg:(0:Int)≤(k:Int):=by omega
      have bc:(k:Int)<(l.length:Int):=by omega
      unfold maxLen at a2;have ar:=aa (jQ l k hlt);have ap:Hid (∀p∈gpI (l.take k),p.2.length≤10000):=aa fun p hp=>by have:=(bK (l.take k)).2 p hp;rw [Aa] at this;omega
      clear aV aB aO;generalize l[k]=x at *;obtain ⟨G,aK⟩:∃G,gpI (l.take k)=G:=⟨_,rfl⟩;rw [aK] at HG ar ap;clear aK;have cX:Bw wr (wr.alloc (.cells (cLg x) 120)):=Bn;obtain ⟨X,hX⟩:∃X,wr.alloc (.cells (cLg x) 120)=X:=⟨_,rfl⟩;have a5:=aa hX;have s:Hid (Blk X wr.heap.size 120 (cLg x)):=aa (by rw [←hX];exact Blk.new wr 120 (cLg x));have t:Hid (Grp X B.heap.size M vI G bv):=aa (by rw [←hX];exact HG.o.keep cX);have aM:Hid (Mod [M] B X):=aa (by rw [←hX];exact aC.o.alloc _);have bd:Hid (X.ownsRow w.heap.size 120 3 (.slice (some ⟨b,a1,none⟩) l.length k3) l.length (flat eLg l)):=aa (by rw [←hX];exact ah ba.o cX);obtain ⟨u,L,hMA⟩:=xT t.o ap.o x.mem x.amt;have D:=aa hMA;obtain ⟨nu,ku,rfl⟩:=ag hMA.own;have hL:=hMA.small;have ax:(X.drew.alloc (.cells #[.int .i64 x.amt] 2)).heap[M]?=X.heap[M]?:=Below.heap_alloc X.drew _ M t.o.mid.map.lt;have aD:(X.cell? ⟨wr.heap.size,0,none⟩=some (.int .i64 x.mem)∧X.cell? ⟨wr.heap.size,2,none⟩=some (.int .i64 x.amt))∧(Instr.lookup 409 (.map (some M)) (.int .i64 x.mem) false).run Tryz.prog X=.ok (lkV M x.mem X) X:=⟨⟨s.o.c 0,s.o.c 2⟩,dC t.o _⟩
      have aR:((X.drew.alloc (.cells #[.int .i64 x.amt] 2)).cell? ⟨wr.heap.size,0,none⟩=some (.int .i64 x.mem)∧(X.drew.alloc (.cells #[.int .i64 x.amt] 2)).cell? ⟨wr.heap.size,2,none⟩=some (.int .i64 x.amt))∧(Instr.lookup 409 (.map (some M)) (.int .i64 x.mem) false).run Tryz.prog (X.drew.alloc (.cells #[.int .i64 x.amt] 2))=.ok (lkV M x.mem (X.drew.alloc (.cells #[.int .i64 x.amt] 2))) (X.drew.alloc (.cells #[.int .i64 x.amt] 2)):=⟨⟨((s.o.d (wd:=X.drew)).alloc _).c 0,((s.o.d (wd:=X.drew)).alloc _).c 2⟩,dC (t.o.d.alloc _) _⟩;have aJ:(X.drew.cell? ⟨wr.heap.size,0,none⟩=some (.int .i64 x.mem)∧X.drew.cell? ⟨wr.heap.size,2,none⟩=some (.int .i64 x.amt))∧(Instr.lookup 409 (.map (some M)) (.int .i64 x.mem) false).run Tryz.prog X.drew=.ok (lkV M x.mem X.drew) X.drew:=⟨⟨s.o.c 0,s.o.c 2⟩,dC t.o.d _⟩;have aL:lkV M x.mem X.drew=.slice nu L.length ku:=(jP (hMA.look X.drew rfl)).1;have az:lkV M x.mem (X.drew.alloc (.cells #[.int .i64 x.amt] 2))=.slice nu L.length ku:=(jP (hMA.look (X.drew.alloc (.cells #[.int .i64 x.amt] 2)) ax)).1;clear hX cX hlt hMA ax;go_wp2_with fail;rw [show wr.alloc (.cells #[.int .i64 x.mem,.int .i64 x.ass,.int .i64 x.amt] 120)=X from a5.o]
      go_region_held_law (fun W=>(W.cell? ⟨wr.heap.size,0,none⟩=some (.int .i64 x.mem)∧W.cell? ⟨wr.heap.size,2,none⟩=some (.int .i64 x.amt))∧(Instr.lookup 409 (.map (some M)) (.int .i64 x.mem) false).run Tryz.prog W=.ok (lkV M x.mem W) W) (first | exact aD | exact aR | exact aJ | exact av | exact aT | assumption | go_keep)
       (first | (refine aS kI (by decide) dL _ (by rfl) _ _ 45 (by rfl) B.heap.size 2 j0 (.int .i64 0) 8 Tryz.underlying45 hj jz0 jz1 jz2 (by rfl) (.slice nu L.length ku) L (by first | exact aL | exact az | rfl) (by exact D.o.own.alloc _) (some ⟨X.heap.size,0,none⟩) 1 1 [x.amt] (by rfl) (by rfl) (by exact Sl.one1 eI kI X 2 x.amt (cs:=#[.int .i64 x.amt]) rfl) (by simp only [Ai];unfold maxLen;omega) (by simp only [Ai];omega) (by have h9:=aM.o.size;simp;omega) ?_;intro v' K Y f aN;have a0:=D.o.step _ K v' (t.o.d.alloc _) (by exact ⟨f.os,f.tape,f.output,f.size,f.block⟩) Y (by exact aN);obtain ⟨o6,bv6,hup,hG6⟩:=a0;have ao:=aa hG6;have aX:=aa (qq (aM.o.drew.alloc (.cells #[.int .i64 x.amt] 2)) (u:=.slice nu L.length ku) (by exact ⟨f.os,f.tape,f.output,f.size,f.block⟩) (fun q hq=>(D.o.own.lt q hq).1));have T:=aa (((s.o.d (wd:=X.drew)).alloc (.cells #[.int .i64 x.amt] 2)).grown (w':=K) (D.o.own.alloc _) (by exact ⟨f.os,f.tape,f.output,f.size,f.block⟩) (by decide));have ak:K.heap[M]?=X.heap[M]?:=(uk (W:=X.drew.alloc (.cells #[.int .i64 x.amt] 2)) (by exact ⟨f.os,f.tape,f.output,f.size,f.block⟩) (AR t.o.mid.map.lt (by simp)) D.o.far).trans (Below.heap_alloc X.drew _ M t.o.mid.map.lt);have av:=And.intro (And.intro (T.o.c 0) (T.o.c 2)) (jP (D.o.look K ak)).2;have ay:Blk (pOb K M o6) wr.heap.size 120 (cLg x):=(bj K M _ _ (bq (t.o.mid.map.heap ak) T.o)).trans T.o;have aT:=And.intro (And.intro (ay.c 0) (ay.c 2)) (dC ao.o x.mem);clear f aN Y hG6 ak))
      all_goals
       clear aD aR aJ av aT aL az;have aI:=aa (aX.o.trans (bT K M o6));go_wp2_with fail;go_roundw
       case rel=>exact ⟨k+1,bv6,by omega,by go_num,by rw [ar.o];exact ao.o,aI.o,bb.o _ aI.o⟩
       case measure=>simp [intOf];omega
     ·obtain rfl:k=l.length:=by omega
      have bl:¬ ((l.length:Int)<(l.length:Int)):=by omega
      rw [show l.take l.length=l from Ae (zY _)] at HG;have bw:=a7.o _ aC.o;have F:=aa (gK HG.o (m5 HM.o aZ.o (by omega)));obtain ⟨⟨gl,ge⟩,R⟩:∃r,gtM (gpI l)=r:=⟨_,rfl⟩;have bh:=aa R;rw [R] at E;unfold GatherPost at F;rw [R] at F;clear R;by_cases h0:ge=0
      rotate_left
      ·have d0:(ge != 0)=true:=by simpa using h0
       have m:Hid (joinL a b=([],ge)):=aa (by rw [E.o,if_pos h0]);clear h0;go_wp2_with (go_at_call 333;refine F.o.mono ?_;rintro e K ⟨u5,rfl,o5,c5⟩;have N:=bw.trans (c5.mono bw.size))
       go_ret2;exact ⟨_,by rw [m.o];rfl,by rw [m.o];exact bJ _ _ _ _ _,N⟩
      ·subst h0;obtain ⟨⟨sv,se⟩,ac⟩:∃r,fitM ((asumM a).1+(asumM b).1)=r:=⟨_,rfl⟩;rw [ac] at E;have i1:=up a;have i2:=up b;have H:=aa (fun W=>jn (asumM a).1 (asumM b).1 i1 i2 W);rw [ac] at H;obtain ⟨⟨sa,ta⟩,hsa⟩:∃r,asumM a=r:=⟨_,rfl⟩;obtain ⟨⟨sb,tb⟩,hsb⟩:∃r,asumM b=r:=⟨_,rfl⟩;rw [hsa] at ad H;rw [hsb] at af H;have U:True:=trivial;clear ac hsa hsb i1 i2;by_cases h0:se=0
       rotate_left
       ·have d0:(se != 0)=true:=by simpa using h0
        have m:Hid (joinL a b=([],se)):=aa (by rw [E.o,if_neg (by simp),if_pos h0]);clear h0;go_wp2_with (first
         | (go_at_call 333;refine F.o.mono ?_;rintro e K ⟨u5,rfl,o5,c5⟩;have N:=aa (bw.trans (c5.mono bw.size)))
         | (go_at_call 245;(first | (clear U;refine (ad.o _ N.o).mono ?_;rintro e x6 ⟨rfl,c6⟩;have b6:=aa (N.o.trans (c6.mono N.o.size))) | (refine (af.o _ b6.o).mono ?_;rintro e x7 ⟨rfl,c7⟩;have b7:=aa (b6.o.trans (c7.mono b6.o.size)))))
         | (go_at_call 281;refine (H.o _).mono ?_;rintro e w8 ⟨rfl,al⟩;subst al))
        go_ret2;exact ⟨_,by rw [m.o];rfl,by rw [m.o];exact bJ _ _ _ _ _,b7.o⟩
       ·subst h0;have m:Hid (joinL a b=(gl,0)):=aa (by rw [E.o,if_neg (by simp),if_neg (by simp)]);go_wp2_with (first
         | (go_at_call 333;refine F.o.mono ?_;rintro e K ⟨u5,rfl,o5,c5⟩;have N:=aa (bw.trans (c5.mono bw.size));have O5:=aa (aw o5 bw.size);obtain ⟨n5,k5,rfl⟩:=ag o5;clear o5)
         | (go_at_call 245;(first | (clear U;refine (ad.o _ N.o).mono ?_;rintro e x6 ⟨rfl,c6⟩;have b6:=aa (N.o.trans (c6.mono N.o.size));have O6:=aa (ah O5.o c6)) | (refine (af.o _ b6.o).mono ?_;rintro e x7 ⟨rfl,c7⟩;have b7:=aa (b6.o.trans (c7.mono b6.o.size));have O7:=aa (ah O6.o c7))))
         | (go_at_call 281;refine (H.o _).mono ?_;rintro e w8 ⟨rfl,al⟩;subst al))
        go_ret2;exact ⟨_,by rw [m.o];rfl,by rw [m.o];exact O7.o,b7.o⟩
section
variable {B:Nat}{K:List Nat}{A:DA}{D:DS}{w:World}
theorem m7 {gv:Nat}(e:A.gv=gv)(h:DkA w B A D)(ok:DOk D)(hK:KOk w K A)(hB:B≤w.heap.size)(a b:Ac)(ass amt:Int)(h64:In64 amt) :
  Calls Tryz.prog 167 #[ptr gv,aval a,aval b,.int .i64 ass,.int .i64 amt] w fun e w'=>∃A' r,e=.returned (.int .i64 r)∧DSp B K w w' A A' (D.move a b ass amt):=by
 subst e;exact (iW h ok hK hB a b ass amt h64).mono fun _ _ ⟨_,_,_,r,he,hs⟩=>⟨_,r,he,hs⟩
theorem m9 {gd:Nat}(e:A.gd=gd)(h:DkA w B A D)(hK:KOk w K A)(hB:B≤w.heap.size)(ev:List Ev)(ad:Addr)(cap:Nat)(hs:Sl eEv 5 w (.slice (some ad) ev.length cap) ev)(hn:D.log.length+ev.length≤1000000) :
  Calls Tryz.prog 164 #[ptr gd,.slice (some ad) ev.length cap] w fun e w'=>∃A',e=.returned (.tuple #[])∧DSp B K w w' A A' (D.tell ev):=by
 subst e;exact (dy h hK hB ev ad cap hs hn).mono fun _ _ ⟨_,he,hs⟩=>⟨_,he,hs⟩
end
abbrev S4 (gd gv bx:Nat)(x:Lg)(W:World):Prop:=W.cell? ⟨gd,8,none⟩=some (ptr gv)∧W.cell? ⟨bx,0,none⟩=some (.int .i64 x.mem)∧W.cell? ⟨bx,1,none⟩=some (.int .i64 x.ass)∧W.cell? ⟨bx,2,none⟩=some (.int .i64 x.amt)
theorem S4.of {W:World}{B bx gd gv:Nat}{A:DA}{D:DS}{x:Lg}(h:DkA W B A D)(e1:A.gd=gd)(e2:A.gv=gv)(hx:Blk W bx 120 (cLg x)):S4 gd gv bx x W:=by
 subst e1 e2;exact ⟨h.blk.c 8,hx.c 0,hx.c 1,hx.c 2⟩
def DS.give1 (D:DS)(x:Lg):DS:=(D.move ⟨1,0⟩ ⟨7,x.mem⟩ x.ass x.amt).tell [⟨13,x.mem,x.ass,x.amt,0⟩]
def DS.give (D:DS)(l:List Lg):DS:=l.foldl DS.give1 D
theorem qs (D:DS)(l:List Lg)(k:Nat)(h:k<l.length):D.give (l.take (k+1))=(D.give (l.take k)).give1 l[k]:=by
 unfold DS.give;rw [z9 h,List.foldl_append];rfl
theorem gL (l:List Lg):∀D:DS,(D.give l).log.length=D.log.length+l.length:=by
 induction l with
 | nil=>intro D;rfl
 | cons x l ih=>
  intro D;show (DS.give (D.give1 x) l).log.length=_
  rw [ih];show (D.log++[_]).length+_=_
  simp;omega
theorem DOk.give1 {D:DS}(ok:DOk D)(x:Lg):DOk (D.give1 x):=(ok.move _ _ _ _).tell _
theorem DOk.give (l:List Lg):∀{D:DS},DOk D→DOk (D.give l):=by
 induction l with
 | nil=>intro D a;exact a
 | cons x l ih=>intro D a;exact ih (a.give1 x)
def KTup (B:Nat)(K:List Nat)(A:DA)(w:World)(D':DS)(e:Ending)(w':World):Prop:=∃A',e=.returned (.tuple #[])∧DSp B K w w' A A' D'
theorem ja {B:Nat}{K:List Nat}{A:DA}{D:DS}{w:World}(h:DkA w B A D)(ok:DOk D)(hK:KOk w K A)(hB:B≤w.heap.size)(v:Value)(l:List Lg)(B0:Nat)(hv:w.ownsRow B0 120 3 v l.length (flat eLg l))(hn:l.length≤1024)(h64:∀x∈l,In64 x.amt)(hlog:D.log.length≤900000) :
  Calls Tryz.prog 270 #[ptr A.gd,v] w (KTup B K A w (D.give l)):=by
 have Y:=aa h;have P:=aa hK;have OK:=aa ok;have HV:=aa hv;have V:=aa h64;obtain ⟨n2,k2,rfl⟩:=ag hv;clear h ok hK hv h64;go_enter Tryz.func270,Tryz.ntmps270;go_wp2_with fail;go_loopw [8] (fun vi wr=>∃(k:Nat) (T:DA),k≤l.length∧vi=.int .i64 k∧DSp B K w wr A T (D.give (l.take k))∧wr.ownsRow B0 120 3 (.slice n2 l.length k2) l.length (flat eLg l)) (fun vi _=>l.length - (intOf vi).toNat)
 case atStart=>exact ⟨0,A,Af _,rfl,DSp.same Y.o (zZ _ _),HV.o⟩
 case round=>
  obtain ⟨k,T,hk,rfl,r,t⟩:=hrel;have j:=aa r;have ad:=aa t;have Z:=aa (Sl.own kLg t);have M:=r.mod.size;clear r t;by_cases hlt:k<l.length
  ·obtain ⟨a',y,E,_,ao,ac,I⟩:=Z.o;obtain ⟨e1,e2⟩:n2=a'∧k2=y:=by simpa using E
   subst e1 e2;obtain ⟨b,an,rfl,am,Q⟩:=I (by omega);obtain ⟨r0,r1,r2⟩:=ch (Q k hlt);have aj:(0:Int)≤(k:Int):=by omega
   have ak:(k:Int)<(l.length:Int):=by omega
   unfold maxLen at ac;have F:=aa (qs D l k hlt);have HX:=aa (V.o l[k] (Ag hlt));have s:=aa (DOk.give (l.take k) OK.o);have N:(D.give (l.take k)).log.length+1≤1000000:=by rw [gL,Aa];omega
   obtain ⟨Dk,J⟩:∃Dk,D.give (l.take k)=Dk:=⟨_,rfl⟩;rw [J] at F s j N;clear Q I E J;generalize l[k]=x at *;have S:Bw wr (wr.alloc (.cells (cLg x) 120)):=Bn;have d:=aa (Blk.new wr 120 (cLg x));have a:=aa (j.o.keep S);have p:=aa (ah ad.o S);have q:=S.size;have U:Hid (wr.heap.size<(wr.alloc (.cells (cLg x) 120)).heap.size):=aa d.o.lt;obtain ⟨X,hX⟩:∃X,wr.alloc (.cells (cLg x) 120)=X:=⟨_,rfl⟩;have ae:=aa hX;rw [hX] at d a p q U;have N0:=aa (Near.start X B T Dk a.o.at');have R:=aa (P.o.step a.o);have O:=aa (z5 hB (z5 M q));have G:=S4.of a.o.at' a.o.gd a.o.gv d.o;clear hX S hlt;go_wp2_with fail;rw [show wr.alloc (.cells #[.int .i64 x.mem,.int .i64 x.ass,.int .i64 x.amt] 120)=X from ae.o];go_region_held3 (fun W=>S4 A.gd A.gv wr.heap.size x W) (first | exact G | exact s1 | exact s2 | exact s3 | assumption | go_keep)
    (first
     | (go_at_call 155;refine (aZ _).mono ?_;rintro e x1 ⟨rfl,rfl⟩;(first | have n:=aa (m.o.alloc (.cells (acs ⟨1,0⟩) 81)) | have n:=aa (N0.o.alloc (.cells (acs ⟨1,0⟩) 81)));have s1:=S4.of n.o.2 a.o.gd a.o.gv (d.o.keep n.o.1))
     | (go_at_call 140;refine (fA x.mem _).mono ?_;rintro e x2 ⟨rfl,rfl⟩;(first | have m:=aa (n.o.alloc (.cells (acs ⟨7,x.mem⟩) 81)) | have m:=aa (N0.o.alloc (.cells (acs ⟨7,x.mem⟩) 81)));have s2:=S4.of m.o.2 a.o.gd a.o.gv (d.o.keep m.o.1))
     | (go_at_call 167;(first | (refine (m7 (K:=K) a.o.gv m.o.2 s.o (R.o.keep m.o.1) (z5 O.o m.o.1.size) ⟨1,0⟩ ⟨7,x.mem⟩ x.ass x.amt HX.o).mono ?_;rintro e z ⟨A3,r3,rfl,g⟩;have c:=aa (g.before m.o.1)) | (refine (m7 (K:=K) a.o.gv n.o.2 s.o (R.o.keep n.o.1) (z5 O.o n.o.1.size) ⟨1,0⟩ ⟨7,x.mem⟩ x.ass x.amt HX.o).mono ?_;rintro e z ⟨A3,r3,rfl,g⟩;have c:=aa (g.before n.o.1)));have L:=aa (d.o.modT c.o.mod (by decide));have s3:=S4.of c.o.at' (c.o.gd.trans a.o.gd) (c.o.gv.trans a.o.gv) L.o;clear g))
   all_goals
    rename_i i
    clear i s1 s2 G;have f:=aa (a.o.trans c.o);have C:=aa (ai p.o c.o.mod (by decide));have af:=aa (P.o.step f.o);obtain ⟨t0,t1,t2,t3⟩:=s3;have H:Bw z (z.alloc (.cells #[.int .i64 13,.int .i64 x.mem,.int .i64 x.ass,.int .i64 x.amt,.int .i64 0] 101)):=Bn;have HT:=aa (m9 (K:=K) f.o.gd (f.o.at'.keep H) (af.o.keep H) (z5 hB (z5 f.o.mod.size H.size)) [⟨13,x.mem,x.ass,x.amt,0⟩] ⟨z.heap.size,0,none⟩ 1 (Sl.one1b eEv kEv z 101 ⟨13,x.mem,x.ass,x.amt,0⟩ (by rfl) _ rfl) N);go_wp2_with (go_at_call 164;refine HT.o.mono ?_;rintro e w8 ⟨A8,rfl,st8⟩;have ab:=aa ((f.o.keep H).trans st8);have u:=aa (ai (ah C.o H) st8.mod (by decide));clear st8)
    go_roundw
    case rel=>exact ⟨k+1,A8,by omega,by go_num,by rw [F.o];exact ab.o,u.o⟩
    case measure=>exact ar (by omega)
  ·obtain rfl:k=l.length:=by omega
   have al:¬ ((l.length:Int)<(l.length:Int)):=by omega
   rw [show l.take l.length=l from Ae (zY _)] at j;go_wp2_with fail;go_end0;exact ⟨T,rfl,j.o⟩
def evEach (k:Int)(l:List Lg):List Ev:=l.map fun x=>⟨k,x.mem,x.ass,x.amt,0⟩
theorem qu (D:DS)(kd:Int)(l:List Lg)(k:Nat)(h:k<l.length):(D.tell (evEach kd (l.take k))).tell [⟨kd,l[k].mem,l[k].ass,l[k].amt,0⟩]=D.tell (evEach kd (l.take (k+1))):=by
 unfold DS.tell evEach;rw [z9 h,AI];simp [Au]
theorem qv {B:Nat}{K:List Nat}{A:DA}{D:DS}{w:World}(h:DkA w B A D)(hK:KOk w K A)(hB:B≤w.heap.size)(v:Value)(l:List Lg)(B0:Nat)(hv:w.ownsRow B0 120 3 v l.length (flat eLg l))(hn:l.length≤1024)(kd:Int)(hlog:D.log.length≤900000) :
  Calls Tryz.prog 271 #[v,.int .i64 kd,.func (.func 164) #[ptr A.gd] #[]] w (KTup B K A w (D.tell (evEach kd l))):=by
 have u:=aa h;have F:=aa hK;have T:=aa hv;obtain ⟨L,J,rfl⟩:=ag hv;clear h hK hv;go_enter Tryz.func271,Tryz.ntmps271;go_wp2_with fail;go_loopw [10] (fun vi wr=>∃(k:Nat) (z:DA),k≤l.length∧vi=.int .i64 k∧DSp B K w wr A z (D.tell (evEach kd (l.take k)))∧wr.ownsRow B0 120 3 (.slice L l.length J) l.length (flat eLg l)) (fun vi _=>l.length - (intOf vi).toNat)
 case atStart=>exact ⟨0,A,Af _,rfl,by rw [show D.tell (evEach kd (l.take 0))=D from by unfold DS.tell evEach;simp];exact DSp.same u.o (zZ _ _),T.o⟩
 case round=>
  obtain ⟨k,z,V,rfl,c,d⟩:=hrel;have a:=aa c;have G:=aa d;have y:=aa (Sl.own kLg d);have r:=c.mod.size;clear c d;by_cases hlt:k<l.length
  ·obtain ⟨N,g,i,_,S,E,m⟩:=y.o;obtain ⟨e1,e2⟩:L=N∧J=g:=by simpa using i
   subst e1 e2;obtain ⟨b,R,rfl,Q,t⟩:=m (by omega);obtain ⟨r0,r1,r2⟩:=ch (t k hlt);have M:(0:Int)≤(k:Int):=by omega
   have O:(k:Int)<(l.length:Int):=by omega
   unfold maxLen at E;have j:=aa (qu D kd l k hlt);have s:(D.tell (evEach kd (l.take k))).log.length+1≤1000000:=by
    show (D.log++evEach kd (l.take k)).length+1≤_
    unfold evEach;rw [z8,Ad,Aa];omega
   obtain ⟨I,p⟩:∃I,D.tell (evEach kd (l.take k))=I:=⟨_,rfl⟩;rw [p] at j a s;clear t m i p;generalize l[k]=x at *;have H:Bw wr (wr.alloc (.cells (cLg x) 120)):=Bn;have q:=H.alloc H.size (.cells #[.int .i64 kd,.int .i64 x.mem,.int .i64 x.ass,.int .i64 x.amt,.int .i64 0] 101);have U:=aa (m9 (K:=K) a.o.gd (a.o.at'.keep q) ((F.o.step a.o).keep q) (z5 hB (z5 r q.size)) [⟨kd,x.mem,x.ass,x.amt,0⟩] ⟨wr.heap.size+1,0,none⟩ 1 (Sl.one1b eEv kEv (wr.alloc (.cells (cLg x) 120)) 101 ⟨kd,x.mem,x.ass,x.amt,0⟩ (by rfl) _ (by simp)) s);have n:=aa (ah G.o q);go_wp2_with (go_at_call 164;refine U.o.mono ?_;rintro e w8 ⟨A8,rfl,st8⟩;have C:=aa ((a.o.keep q).trans st8);have f:=aa (ai n.o st8.mod (by decide));clear st8)
   go_roundw
   case rel=>exact ⟨k+1,A8,by omega,by go_num,by rw [←j.o];exact C.o,f.o⟩
   case measure=>exact ar (by omega)
  ·obtain rfl:k=l.length:=by omega
   have P:¬ ((l.length:Int)<(l.length:Int)):=by omega
   rw [show l.take l.length=l from Ae (zY _)] at a;go_wp2_with fail;go_end0;exact ⟨z,rfl,a.o⟩
def markS (x:Lg)(done:Int)(lost:Bool):Int×Int:=if x.amt≤done then (2,x.amt) else if x.ass=0∨lost=true then (5,done) else (4,done)
def DS.mark (D:DS)(x:Lg)(done:Int)(lost:Bool):DS:={ D with obs:=(markM D.obs x.mem x.ass (markS x done lost).1 (markS x done lost).2).2 }
theorem DOk.mark {D:DS}(ok:DOk D)(x:Lg)(done:Int)(lost:Bool):DOk (D.mark x done lost):=gE ok _ _ _ _
theorem uq {B:Nat}{K:List Nat}{A:DA}{D:DS}{w:World}{gs:Nat}(e:A.gs=gs)(h:DkA w B A D)(ok:DOk D)(hK:KOk w K A)(m a s d:Int):Calls Tryz.prog 259 #[ptr gs,.int .i64 m,.int .i64 a,.int .i64 s,.int .i64 d] w fun e w'=>∃r,e=.returned (.int .i64 r)∧DSp B K w w' A A { D with obs:=(markM D.obs m a s d).2 }∧∀g,g<w.heap.size→A.vo.ownBlock≠some g→w'.heap[g]?=w.heap[g]?:=by
 subst e;refine (sD B A.gs A.vo D.obs m a s d ((List.range w.heap.size).filter fun g=>decide (A.vo.ownBlock≠some g)) w h.sheet (by have:=ok.obs;omega) (fun k hk b=>by
  have:=(AS.1 b).2
  simp [hk] at this)).mono ?_
 rintro e w' ⟨i,f,b⟩;have c:ModT B [71] K w w':=⟨b.os,b.tape,b.output,b.size,fun k hk hc=>by
  by_cases hv:A.vo.ownBlock=some k
  ·refine b.far k hk ?_;rcases hc with hc | hc | hc
   ·exact Or.inl hc
   ·exact absurd hc (hK.own h.sheet.own (by decide) k hv)
   ·exact Or.inr (Or.inr hc)
  ·exact b.far k hk (Or.inr (Or.inl (AS.2 ⟨List.mem_range.2 hk,by simpa using hv⟩)))⟩
 exact ⟨_,i,h.sheetS (c.mono (by decide)) f,fun g hg hv=>b.far g hg (Or.inr (Or.inl (AS.2 ⟨List.mem_range.2 hg,by simpa using hv⟩)))⟩
abbrev S3 (gd gs bx:Nat)(x:Lg)(W:World):Prop:=W.cell? ⟨gd,9,none⟩=some (ptr gs)∧W.cell? ⟨bx,0,none⟩=some (.int .i64 x.mem)∧W.cell? ⟨bx,1,none⟩=some (.int .i64 x.ass)∧W.cell? ⟨bx,2,none⟩=some (.int .i64 x.amt)
theorem S3.of {W:World}{B bx gd gs:Nat}{A:DA}{D:DS}{x:Lg}(h:DkA W B A D)(e1:A.gd=gd)(e2:A.gs=gs)(hx:Blk W bx 120 (cLg x)):S3 gd gs bx x W:=by
 subst e1 e2;exact ⟨h.blk.c 9,hx.c 0,hx.c 1,hx.c 2⟩
theorem qw (x:Lg)(done:Int)(lost:Bool):(decide (x.amt≤done)=true∧markS x done lost=(2,x.amt))∨(decide (x.amt≤done)=false∧(x.ass==0)=true∧markS x done lost=(5,done))∨(decide (x.amt≤done)=false∧(x.ass==0)=false∧lost=true∧markS x done lost=(5,done))∨(decide (x.amt≤done)=false∧(x.ass==0)=false∧lost=false∧markS x done lost=(4,done)):=by
 unfold markS;by_cases h1:x.amt≤done
 ·exact Or.inl ⟨dT h1,if_pos h1⟩
 ·by_cases h2:x.ass=0
  ·exact Or.inr (Or.inl ⟨dF h1,by simpa using h2,by rw [if_neg h1,if_pos (Or.inl h2)]⟩)
  ·cases lost
   ·exact Or.inr (Or.inr (Or.inr ⟨dF h1,by simpa using h2,rfl,by rw [if_neg h1,if_neg (by simp [h2])]⟩))
   ·exact Or.inr (Or.inr (Or.inl ⟨dF h1,by simpa using h2,rfl,by rw [if_neg h1,if_pos (by simp)]⟩))
theorem xU {B:Nat}{K:List Nat}{A:DA}{D:DS}{w:World}(h:DkA w B A D)(ok:DOk D)(hK:KOk w K A)(x:Lg)(done:Int)(lost:Bool) :
  Calls Tryz.prog 219 #[ptr A.gd,vLg x,.int .i64 done,.bool lost] w fun e w'=>e=.returned (.tuple #[])∧DSp B K w w' A A (D.mark x done lost)∧∀g,g<w.heap.size→A.vo.ownBlock≠some g→w'.heap[g]?=w.heap[g]?:=by
 obtain ⟨a,b⟩:∃a,w.alloc (.cells (cLg x) 120)=a:=⟨_,rfl⟩;have q:Bw w a:=by rw [←b];exact Bn
 have n:Hid (Blk a w.heap.size 120 (cLg x)):=aa (by rw [←b];exact Blk.new w 120 (cLg x));have v:=aa b;have M:=aa h;have C:=aa (h.keep q);have N:=aa (hK.keep q);have U:=aa ok;have E:Hid (A.vo.ownBlock≠some w.heap.size):=aa (fun e=>by have:=h.sheet.own.lt _ e;omega);obtain ⟨⟨s,z⟩,m⟩:∃r,markS x done lost=r:=⟨_,rfl⟩;have G:Hid (D.mark x done lost={ D with obs:=(markM D.obs x.mem x.ass s z).2 }):=aa (by unfold DS.mark;rw [m]);have u:Hid (∀W,W.heap=a.heap→Bw w W→Calls Tryz.prog 259 #[ptr A.gs,.int .i64 x.mem,.int .i64 x.ass,.int .i64 s,.int .i64 z] W fun e w'=>∃r,e=.returned (.int .i64 r)∧DSp B K w w' A A { D with obs:=(markM D.obs x.mem x.ass s z).2 }∧(∀g,g<w.heap.size→A.vo.ownBlock≠some g→w'.heap[g]?=w.heap[g]?)∧S3 A.gd A.gs w.heap.size x w'):=aa (fun W e c=>by
  refine (uq (K:=K) rfl ((h.keep q).d e) ok ((hK.keep q).d e) x.mem x.ass s z).mono ?_;rintro e w' ⟨r,R,i,H⟩;have t:w.heap.size<W.heap.size:=by rw [‹W.heap=a.heap›];exact n.o.lt
  have L:Blk w' w.heap.size 120 (cLg x):=(H w.heap.size t E.o).trans (by rw [‹W.heap=a.heap›];exact n.o);exact ⟨r,R,(DSp.same h c).trans ⟨i.at',i.mod,i.gd,i.gv,i.gs,i.gx,i.goes⟩,fun g hg hv=>(H g (Nat.lt_trans hg t) hv).trans (c.block g hg),S3.of i.at' rfl rfl L⟩)
 have f:=S3.of C.o rfl rfl n.o;obtain ⟨I,Q,P,J⟩:=f;have f:S3 A.gd A.gs w.heap.size x a:=⟨I,Q,P,J⟩;have y:=qw x done lost;rw [m] at y;clear h ok hK b m;have T:Hid (∀W:World,True):=aa fun _=>trivial
 rcases y with ⟨t1,e⟩ | ⟨t1,t2,e⟩ | ⟨t1,t2,rfl,e⟩ | ⟨t1,t2,rfl,e⟩ <;> (obtain ⟨rfl,rfl⟩:_∧_:=by simpa using e) <;> clear e
 ·go_enter Tryz.func219,Tryz.ntmps219;go_wp2_with fail;rw [show w.alloc (.cells #[.int .i64 x.mem,.int .i64 x.ass,.int .i64 x.amt] 120)=a from v.o];go_wp2_with fail;go_region
  go_wp2_with fail;go_region_held3 (fun W=>S3 A.gd A.gs w.heap.size x W) (first | exact f | exact F | assumption | go_keep)
   (first | (go_at_call 259;refine (u.o a.drew.drew rfl q.drew.drew).mono ?_;rintro e S ⟨O,rfl,j,p,F⟩;have k:=aa j;have l:=aa p))
  all_goals
   go_wp2_with fail;go_end0;exact ⟨rfl,by rw [G.o];exact k.o,l.o⟩
 all_goals
  go_enter Tryz.func219,Tryz.ntmps219;go_wp2_with fail;rw [show w.alloc (.cells #[.int .i64 x.mem,.int .i64 x.ass,.int .i64 x.amt] 120)=a from v.o];go_wp2_with fail;go_region_held3 (fun W=>S3 A.gd A.gs w.heap.size x W) (first | exact f | exact F | assumption | go_keep)
   (first | (go_at_call 259;refine (u.o a.drew rfl q.drew).mono ?_;rintro e S ⟨O,rfl,j,p,F⟩;have k:=aa j;have l:=aa p))
  all_goals
   go_wp2_with fail;go_end0;exact ⟨rfl,by rw [G.o];exact k.o,l.o⟩
section
variable {B:Nat}{K:List Nat}{A:DA}{D:DS}{w:World}{gd:Nat}
theorem yP (e:A.gd=gd)(h:DkA w B A D)(ok:DOk D)(a:Ac)(ass:Int):Calls Tryz.prog 137 #[ptr gd,aval a,.int .i64 ass] w fun e w'=>e=.returned (.int .i64 (D.balD a ass))∧Bw w w':=by
 subst e;exact di h ok a ass
theorem zy (e:A.gd=gd)(h:DkA w B A D)(ok:DOk D)(a:Int):Calls Tryz.prog 203 #[ptr gd,.int .i64 a] w (RPo eLg 120 3 (D.good a) w):=by
 subst e;exact dx h ok a
theorem xV (e:A.gd=gd)(h:DkA w B A D)(ok:DOk D)(n:Int)(hn:In64 n):Calls Tryz.prog 213 #[ptr gd,.int .i64 n] w fun e w'=>e=.returned (.int .i64 (overM n (D.balD ⟨1,0⟩ 0)))∧Bw w w':=by
 subst e;exact gp h ok n hn
theorem xW (e:A.gd=gd)(h:DkA w B A D)(ok:DOk D)(a:Int):Calls Tryz.prog 162 #[ptr gd,.int .i64 a] w fun e w'=>e=.returned (.int .i64 (D.short a))∧Bw w w':=by
 subst e;exact gA h ok a
theorem zz (e:A.gd=gd)(h:DkA w B A D)(ok:DOk D)(hK:KOk w K A)(hB:B≤w.heap.size)(v:Value)(l:List Lg)(B0:Nat)(hv:w.ownsRow B0 120 3 v l.length (flat eLg l))(hn:l.length≤1024)(h64:∀x∈l,In64 x.amt)(hlog:D.log.length≤900000) :
  Calls Tryz.prog 270 #[ptr gd,v] w (KTup B K A w (D.give l)):=by
 subst e;exact ja h ok hK hB v l B0 hv hn h64 hlog
theorem ut (e:A.gd=gd)(h:DkA w B A D)(hK:KOk w K A)(hB:B≤w.heap.size)(v:Value)(l:List Lg)(B0:Nat)(hv:w.ownsRow B0 120 3 v l.length (flat eLg l))(hn:l.length≤1024)(kd:Int)(hlog:D.log.length≤900000) :
  Calls Tryz.prog 271 #[v,.int .i64 kd,.func (.func 164) #[ptr gd] #[]] w (KTup B K A w (D.tell (evEach kd l))):=by
 subst e;exact qv h hK hB v l B0 hv hn kd hlog
end
def DS.leave1 (D:DS)(a:Int):DS:=if 0<D.balD ⟨1,0⟩ a then (D.move ⟨1,0⟩ ⟨2,0⟩ a (D.balD ⟨1,0⟩ a)).tell [⟨16,0,a,D.balD ⟨1,0⟩ a,0⟩] else D
def DS.leaveK (D:DS):Nat→DS
 | 0=>D
 | k+1=>(D.leaveK k).leave1 k
theorem DOk.leave1 {D:DS}(ok:DOk D)(a:Int):DOk (D.leave1 a):=by
 unfold DS.leave1;split
 ·exact (ok.move _ _ _ _).tell _
 ·exact ok
theorem DOk.leaveK {D:DS}(ok:DOk D):∀k,DOk (D.leaveK k):=by
 intro k;induction k with
 | zero=>exact ok
 | succ k ih=>exact ih.leave1 k
theorem nh (D:DS)(a:Int):(D.leave1 a).log.length≤D.log.length+1:=by
 unfold DS.leave1;split
 ·show (D.log++[_]).length≤_
  simp
 ·omega
theorem ni (D:DS):∀k,(D.leaveK k).log.length≤D.log.length+k:=by
 intro k;induction k with
 | zero=>exact zY _
 | succ k ih=>
  have:=nh (D.leaveK k) k
  show ((D.leaveK k).leave1 k).log.length≤_
  omega
theorem s8w {w:World}{B gd:Nat}{A:DA}{D:DS}(e:A.gd=gd)(h:DkA w B A D):w.cell? ⟨gd,8,none⟩=some (ptr A.gv):=by
 subst e;exact h.blk.c 8
theorem nj {B:Nat}{K:List Nat}{A:DA}{D:DS}{w:World}(h:DkA w B A D)(ok:DOk D)(hK:KOk w K A)(hB:B≤w.heap.size)(hlog:D.log.length≤900000) :
  Calls Tryz.prog 221 #[ptr A.gd] w (KTup B K A w (D.leaveK (D.C.secs.length+1))):=by
 have J:=aa h;have E:=aa hK;have OK:=aa ok;obtain ⟨ns,ks,F,_⟩:=h.cfg.sl.s;have q1:w.cell? ⟨A.gd,1,none⟩=some (.slice ns D.C.secs.length ks):=(h.blk.c 1).trans (congrArg some F);have M:D.C.secs.length≤8:=ok.cfg.s2;obtain ⟨S,hS⟩:∃S,D.C.secs.length=S:=⟨_,rfl⟩;rw [hS] at q1 M ⊢;have T:=(aT S (by omega)).1;have I:=(aT S (by omega)).2;obtain ⟨N,hN⟩:∃N,S+1=N:=⟨_,rfl⟩;have Q:(S:Int)+1=(N:Int):=by omega
 rw [Q] at T I;rw [hN];clear h ok hK F hS;go_enter Tryz.func221,Tryz.ntmps221;go_wp2_with fail;go_loopw [11] (fun vi wr=>∃(k:Nat) (l:DA),k≤N∧vi=.int .i64 k∧DSp B K w wr A l (D.leaveK k)) (fun vi _=>N - (intOf vi).toNat)
 case atStart=>exact ⟨0,A,Af _,rfl,DSp.same J.o (zZ _ _)⟩
 case round=>
  obtain ⟨k,l,hk,rfl,m⟩:=hrel;have d:=aa m;have X:=m.mod.size;clear m;by_cases hlt:k<N
  ·have ab:(0:Int)≤(k:Int):=by omega
   have ac:(k:Int)<(N:Int):=by omega
   have j:=aa (OK.o.leaveK k);have U:(D.leaveK k).log.length≤900010:=by have:=ni D k;omega
   have p:Hid (D.leaveK (k+1)=(D.leaveK k).leave1 k):=aa rfl;obtain ⟨b,v⟩:∃b,D.leaveK k=b:=⟨_,rfl⟩;rw [v] at p j d U;have x:Bw wr (wr.alloc (.cells (acs ⟨1,0⟩) 81)):=Bn;have r:=aa (yP d.o.gd (d.o.at'.keep x) j.o ⟨1,0⟩ (k:Int));have HI:=aa (fG j.o ⟨1,0⟩ (k:Int));have q:b.leave1 k=if 0<b.balD ⟨1,0⟩ k then (b.move ⟨1,0⟩ ⟨2,0⟩ k (b.balD ⟨1,0⟩ k)).tell [⟨16,0,k,b.balD ⟨1,0⟩ k,0⟩] else b:=rfl
   obtain ⟨n,Z⟩:∃n,b.balD ⟨1,0⟩ (k:Int)=n:=⟨_,rfl⟩;rw [Z] at r HI q;have z:=aa q;clear v Z q hlt;by_cases h0:0<n
   rotate_left
   ·have d0:=dF h0;have V:Hid (b.leave1 k=b):=aa (by rw [z.o,if_neg h0]);clear h0;go_wp2_with (first | (go_at_call 155;refine (aZ _).mono ?_;rintro e x1 ⟨rfl,rfl⟩) | (go_at_call 137;refine r.o.mono ?_;rintro e x2 ⟨rfl,c2⟩;have H:=aa (x.trans (c2.mono x.size))))
    go_roundw
    case rel=>exact ⟨k+1,l,by omega,by go_num,by rw [p.o,V.o];exact d.o.keep H.o⟩
    case measure=>exact ar (by omega)
   ·have d0:=dT h0;have V:Hid (b.leave1 k=(b.move ⟨1,0⟩ ⟨2,0⟩ k n).tell [⟨16,0,k,n,0⟩]):=aa (by rw [z.o,if_pos h0]);clear h0;go_wp2_with (first | (go_at_call 155;refine (aZ _).mono ?_;rintro e x1 ⟨rfl,rfl⟩) | (go_at_call 137;refine r.o.mono ?_;rintro e x2 ⟨rfl,c2⟩;have H:=aa (x.trans (c2.mono x.size))))
    have a:=aa (d.o.keep H.o);have O:=aa (E.o.step a.o);have R:=aa (z5 hB a.o.mod.size);have N0:=aa (Near.start x2 B l b a.o.at');have q8:x2.cell? ⟨A.gd,8,none⟩=some (ptr l.gv):=s8w a.o.gd a.o.at';go_region_held3 (fun W=>W.cell? ⟨A.gd,8,none⟩=some (ptr l.gv)) (first | exact q8 | exact Y | exact s3 | assumption | go_keep)
     (first
      | (go_at_call 155;refine (aZ _).mono ?_;rintro e x3 ⟨rfl,rfl⟩;have u:=aa (N0.o.alloc (.cells (acs ⟨1,0⟩) 81));have Y:=s8w a.o.gd u.o.2)
      | (go_at_call 167;refine (m7 (K:=K) rfl u.o.2 j.o (O.o.keep u.o.1) (z5 R.o u.o.1.size) ⟨1,0⟩ ⟨2,0⟩ (k:Int) n HI.o).mono ?_;rintro e t ⟨A4,r4,rfl,f⟩;have g:=aa (a.o.trans (f.before u.o.1));have s3:t.cell? ⟨A.gd,8,none⟩=some (ptr l.gv):=(by rw [←f.gv];exact s8w (f.gd.trans a.o.gd) f.at');clear f))
    all_goals
     rename_i i
     clear i Y s3 q8;have L:=aa (E.o.step g.o);have G:Bw t (t.alloc (.cells #[.int .i64 16,.int .i64 0,.int .i64 k,.int .i64 n,.int .i64 0] 101)):=Bn;have HT:=aa (m9 (K:=K) g.o.gd (g.o.at'.keep G) (L.o.keep G) (z5 hB (z5 g.o.mod.size G.size)) [⟨16,0,k,n,0⟩] ⟨t.heap.size,0,none⟩ 1 (Sl.one1b eEv kEv t 101 ⟨16,0,k,n,0⟩ (by rfl) _ rfl) (by show b.log.length+1≤1000000;omega));go_wp2_with (go_at_call 164;refine HT.o.mono ?_;rintro e w8 ⟨A8,rfl,y⟩;have P:=aa ((g.o.keep G).trans y);clear y)
     go_roundw
     case rel=>exact ⟨k+1,A8,by omega,by go_num,by rw [p.o,V.o];exact P.o⟩
     case measure=>exact ar (by omega)
  ·obtain rfl:k=N:=by omega
   have ad:¬ ((k:Int)<(k:Int)):=by omega
   go_wp2_with fail;go_end0;exact ⟨l,rfl,d.o⟩
def evOut (who fl:List Int):List Ev:=(fl.filter fun m=>!hasI who m).map fun m=>⟨8,m,0,0,0⟩
theorem np (who fl:List Int)(k:Nat)(h:k<fl.length):evOut who (fl.take (k+1))=evOut who (fl.take k)++if hasI who fl[k] then [] else [⟨8,fl[k],0,0,0⟩]:=by
 unfold evOut;rw [z9 h,List.filter_append,AI];cases hx:hasI who fl[k] <;> simp [hx]
theorem jb (who fl:List Int):(evOut who fl).length≤fl.length:=by
 unfold evOut;rw [Ad];exact AV _ _
def DS.outs (D:DS):DS:={ D.tell (evOut D.who (failedM D.obs)) with who:=joinM D.who (failedM D.obs) }
def DS.close1 (D:DS)(x:Ob):DS:=
 if x.stt≠1∨(fateM x D.who).1=1 then D
 else if x.net<0 then ({ D with obs:=(markM D.obs x.mem x.ass (fateM x D.who).1 (fateM x D.who).2).2 }:DS).tell [⟨9,x.mem,x.ass,wrap64 (-x.net),0⟩]
 else { D with obs:=(markM D.obs x.mem x.ass (fateM x D.who).1 (fateM x D.who).2).2 }
def DS.close (D:DS):DS:=D.obs.foldl DS.close1 D.outs
theorem nt (D:DS)(x:Ob):(D.close1 x).who=D.who:=by
 unfold DS.close1;split
 ·rfl
 ·split <;> rfl
theorem uu (D:DS)(x:Ob):(D.close1 x).C=D.C:=by
 unfold DS.close1;split
 ·rfl
 ·split <;> rfl
theorem nx (D:DS)(x:Ob):(D.close1 x).log.length≤D.log.length+1:=by
 unfold DS.close1;split
 ·omega
 ·split
  ·show (D.log++[_]).length≤_
   simp
  ·show D.log.length≤_
   omega
theorem DOk.close1 {D:DS}(ok:DOk D)(x:Ob):DOk (D.close1 x):=by
 unfold DS.close1;split
 ·exact ok
 ·split
  ·exact (gE ok _ _ _ _).tell _
  ·exact gE ok _ _ _ _
theorem jc (l:List Ob):∀{D:DS},DOk D→DOk (l.foldl DS.close1 D)∧(l.foldl DS.close1 D).log.length≤D.log.length+l.length∧(l.foldl DS.close1 D).who=D.who:=by
 induction l with
 | nil=>intro D a;exact ⟨a,zY _,rfl⟩
 | cons x l ih=>
  intro D a;obtain ⟨h1,h2,h3⟩:=ih (a.close1 x);have:=nx D x
  rw [List.foldl_cons];exact ⟨h1,by rw [Ay];omega,h3.trans (nt D x)⟩
theorem ny (D:DS)(l:List Ob)(k:Nat)(h:k<l.length):(l.take (k+1)).foldl DS.close1 D=((l.take k).foldl DS.close1 D).close1 l[k]:=by
 rw [z9 h,List.foldl_append];rfl
theorem gM (l:List Ob):(failedM l).length≤l.length:=z5 (sN _) (z5 (Ak _ _) (Ak _ _))
theorem DOk.outs {D:DS}(ok:DOk D)(hw:(joinM D.who (failedM D.obs)).length≤1000):DOk D.outs:=⟨ok.cfg,ok.bal,ok.b64,ok.hlds,ok.rise,ok.obs,ok.o64,hw⟩
theorem lr {D:DS}(ok:DOk D):(evOut D.who (failedM D.obs)).length≤1024:=z5 (jb _ _) (z5 (gM _) ok.obs)
theorem zA {B:Nat}{K:List Nat}{A:DA}{D:DS}{w:World}(h:DkA w B A D)(hK:KOk w K A)(hB:B≤w.heap.size)(ev:List Ev)(ad:Addr)(cap:Nat)(hs:Sl eEv 5 w (.slice (some ad) ev.length cap) ev)(hn:D.log.length+ev.length≤1000000) :
  Calls Tryz.prog 164 #[ptr A.gd,.slice (some ad) ev.length cap] w fun e w'=>∃vl,e=.returned (.tuple #[])∧DSp B K w w' A { A with vl:=vl } (D.tell ev)∧ModT B [138,101] K w w':=
 (iy B A.gd (A.cells D) A.vl D.log ev ad cap K w h.blk rfl h.l1 hB h.log hs hn (hK.blk h.blk (by decide)) hK.log).mono fun _ _ ⟨vl,he,ht⟩=>⟨vl,he,h.told ht,ht.mod⟩
abbrev SO (gd gs bx:Nat)(v:Value)(x:Ob)(W:World):Prop:=W.cell? ⟨gd,9,none⟩=some (ptr gs)∧W.cell? ⟨gd,11,none⟩=some v∧W.cell? ⟨bx,0,none⟩=some (.int .i64 x.cycle)∧W.cell? ⟨bx,1,none⟩=some (.int .i64 x.mem)∧W.cell? ⟨bx,2,none⟩=some (.int .i64 x.ass)∧W.cell? ⟨bx,3,none⟩=some (.int .i64 x.net)∧W.cell? ⟨bx,4,none⟩=some (.int .i64 x.done)∧W.cell? ⟨bx,5,none⟩=some (.int .i64 x.stt)
theorem SO.of {W:World}{B bx gd gs:Nat}{v:Value}{A:DA}{D:DS}{x:Ob}(h:DkA W B A D)(e1:A.gd=gd)(e2:A.gs=gs)(e3:A.vw=v)(hx:Blk W bx 71 (cOb x)):SO gd gs bx v x W:=by
 subst e1 e2 e3;exact ⟨h.blk.c 9,h.blk.c 11,hx.c 0,hx.c 1,hx.c 2,hx.c 3,hx.c 4,hx.c 5⟩
theorem s11 {w:World}{B:Nat}{A:DA}{D:DS}{n:Option Addr}{k:Nat}(h:DkA w B A D)(e:A.vw=.slice n D.who.length k):w.cell? ⟨A.gd,11,none⟩=some (.slice n D.who.length k):=by
 rw [←e];exact h.blk.c 11
theorem zB {B:Nat}{K:List Nat}{A:DA}{D:DS}{w w1:World}(vl:Value)(fl:List Int)(st:DSp B K w w1 A { A with vl:=vl } (D.tell (evOut D.who fl)))(v:Value)(l:List Int)(ho:w1.ownsRow B 3 1 v l.length (flat eI l))(hK:A.gd∉K):DSp B K w (w1.setCell ⟨A.gd,11,none⟩ v) A { A with vl:=vl,vw:=v } { D.tell (evOut D.who fl) with who:=l }:=
 st.trans (DkA.setWho (A:={ A with vl:=vl }) st.at' ho hK)
theorem nz {B:Nat}{K:List Nat}{A:DA}{D:DS}{w:World}(h:DkA w B A D)(ok:DOk D)(hK:KOk w K A)(hB:B≤w.heap.size)(hw:(joinM D.who (failedM D.obs)).length≤1000)(hlog:D.log.length≤900000) :
  Calls Tryz.prog 209 #[ptr A.gd] w (KTup B K A w D.close):=by
 have aV:=aa h;have Z:=aa hK;have OK:=aa ok;have q9:w.cell? ⟨A.gd,9,none⟩=some (ptr A.gs):=h.blk.c 9;have ba:=aa (cC B A.gs A.vo D.obs w h.sheet (by have:=ok.obs;omega));have a3:=ok.obs;have bn:=ok.who;have aK:=aa (lr ok);obtain ⟨nw,kw,aG⟩:=ag h.who;have G:=aa aG;have be:=aa (ok.outs hw);have bi:Hid (D.close=D.obs.foldl DS.close1 D.outs):=aa rfl;have aA:Hid (D.outs={ D.tell (evOut D.who (failedM D.obs)) with who:=joinM D.who (failedM D.obs) }):=aa rfl;have a6:(failedM D.obs).length≤1024:=z5 (gM _) a3;have HJ:=aa hw;have aQ:Hid (∀W v,Sl eOb 6 W v D.obs→Calls Tryz.prog 256 #[v] W (RPo eI 3 1 (failedM D.obs) W)):=aa fun W v hv=>mF v D.obs W hv (by omega)
 have aX:=aa (hK.blk h.blk (by decide));obtain ⟨a,ae⟩:∃a,failedM D.obs=a:=⟨_,rfl⟩;rw [ae] at aA aQ a6 HJ aK;clear h ok hK hw aG ae;go_enter Tryz.func209,Tryz.ntmps209;go_wp2_with (first
  | (go_at_call 85;refine ba.o.mono ?_;rintro e w1 ⟨v1,rfl,o1,c1⟩;have a0:=aa (aQ.o w1 v1 (Sl.own kOb o1));have C1:=aa c1;obtain ⟨n1,k1,rfl⟩:=ag o1;clear o1)
  | (go_at_call 256;refine a0.o.mono ?_;rintro e w2 ⟨v2,rfl,o2,c2⟩;have a4:=aa o2;have C2:=aa (C1.o.trans (c2.mono C1.o.size));obtain ⟨n2,k2,rfl⟩:=ag o2;clear o2))
 go_loopw [17] (fun vi wr=>∃(k:Nat) (vl:Value),k≤a.length∧vi=.int .i64 k∧DSp B K w wr A { A with vl:=vl } (D.tell (evOut D.who (a.take k)))∧wr.ownsRow w.heap.size 3 1 (.slice n2 a.length k2) a.length (flat eI a)) (fun vi _=>a.length - (intOf vi).toNat)
 case atStart=>exact ⟨0,A.vl,Af _,rfl,by rw [show D.tell (evOut D.who (a.take 0))=D from by unfold DS.tell evOut;simp];exact DSp.same aV.o C2.o,aw a4.o C1.o.size⟩
 case round=>
  obtain ⟨k,vl,hk,rfl,t,u⟩:=hrel;have f:=aa t;have y:=aa u;have N:=aa (Sl.own kI u);have ad:=t.mod.size;clear t u;by_cases l:k<a.length
  ·obtain ⟨a',I,M,_,bg,an,L⟩:=N.o;obtain ⟨e1,e2⟩:n2=a'∧k2=I:=by simpa using M
   subst e1 e2;obtain ⟨b,V,rfl,aZ,R⟩:=L (by omega);have r0:=R k l 0 _ rfl;rw [A0,AU] at r0;have a2:(0:Int)≤(k:Int):=by omega
   have aY:(k:Int)<(a.length:Int):=by omega
   unfold maxLen at an;have aq:=aa (np D.who a k l);have U:(D.tell (evOut D.who (a.take k))).log.length+1≤1000000:=by
    show (D.log++evOut D.who (a.take k)).length+1≤_
    have:=jb D.who (a.take k)
    rw [Aa] at this;rw [z8];omega
   clear R L M;generalize a[k]=m at *;have ap:=aa (gg (.slice nw D.who.length kw) D.who m wr (by have:=f.o.at'.who;rw [G.o] at this;exact Sl.own kI this) (by omega));have O:=s11 f.o.at' G.o;have ac:wr.cell? ⟨A.gd,11,none⟩=some (.slice nw D.who.length kw):=O;obtain ⟨bh,aR⟩:∃bh,hasI D.who m=bh:=⟨_,rfl⟩;rw [aR] at ap aq;clear aR O;cases bh with
   | true=>
    have z:Hid (D.tell (evOut D.who (a.take (k+1)))=D.tell (evOut D.who (a.take k))):=aa (by rw [aq.o];simp);go_wp2_with (go_at_call 161;refine ap.o.mono ?_;rintro e w3 ⟨rfl,al⟩;subst al)
    go_roundw
    case rel=>exact ⟨k+1,vl,by omega,by go_num,by rw [z.o];exact f.o,y.o⟩
    case measure=>exact ar (by omega)
   | false=>
    have z:Hid ((D.tell (evOut D.who (a.take k))).tell [⟨8,m,0,0,0⟩]=D.tell (evOut D.who (a.take (k+1)))):=aa (by rw [aq.o];unfold DS.tell;simp [Au]);have P:Bw wr (wr.alloc (.cells #[.int .i64 8,.int .i64 m,.int .i64 0,.int .i64 0,.int .i64 0] 101)):=Bn;have HT:=aa (dy (K:=K) (f.o.at'.keep P) ((Z.o.step f.o).keep P) (z5 hB (z5 ad P.size)) [⟨8,m,0,0,0⟩] ⟨wr.heap.size,0,none⟩ 1 (Sl.one1b eEv kEv wr 101 ⟨8,m,0,0,0⟩ (by rfl) _ rfl) U);go_wp2_with (first | (go_at_call 161;refine ap.o.mono ?_;rintro e w3 ⟨rfl,al⟩;subst al) | (go_at_call 164;refine HT.o.mono ?_;rintro e w8 ⟨j,rfl,st8⟩;have am:=aa ((f.o.keep P).trans st8);have ax:=aa (ai (ah y.o P) st8.mod (by decide));clear st8))
    go_roundw
    case rel=>exact ⟨k+1,j,by omega,by go_num,by rw [←z.o];exact am.o,ax.o⟩
    case measure=>exact ar (by omega)
  ·obtain rfl:k=a.length:=by omega
   have bc:¬ ((a.length:Int)<(a.length:Int)):=by omega
   rw [show a.take a.length=a from Ae (zY _)] at f;have O:=s11 f.o.at' G.o;have ac:wr.cell? ⟨A.gd,11,none⟩=some (.slice nw D.who.length kw):=O;clear O;have aF:=aa (tH (.slice nw D.who.length kw) (.slice n2 a.length k2) D.who a wr (by have:=f.o.at'.who;rw [G.o] at this;exact Sl.own kI this) N.o (by omega) (by omega));have aB:wr.frozen? ⟨A.gd,11,none⟩=false:=f.o.at'.blk.free 11;go_wp2_with (first
    | (go_at_call 257;refine aF.o.mono ?_;rintro e w3 ⟨v3,rfl,o3,c3⟩;have T:=aa (f.o.keep c3);have bf:=s11 T.o.at' G.o;have aB:=T.o.at'.blk.free 11;have Q:=aa (zB vl a T.o v3 (joinM D.who a) (aw o3 (z5 hB f.o.mod.size)) aX.o);obtain ⟨n3,k3,rfl⟩:=ag o3;have q9:(w3.setCell ⟨A.gd,11,none⟩ (.slice n3 (joinM D.who a).length k3)).cell? ⟨A.gd,9,none⟩=some (ptr A.gs):=Q.o.at'.blk.c 9;clear o3)
    | (go_at_call 85;refine (cC B A.gs A.vo D.obs _ Q.o.at'.sheet (by omega)).mono ?_;rintro e w5 ⟨v5,rfl,o5,c5⟩;have q:=aa (Q.o.keep c5);have O5:=aa o5;obtain ⟨n5,k5,rfl⟩:=ag o5;clear o5))
   obtain ⟨WB,af⟩:∃WB,(w3.setCell ⟨A.gd,11,none⟩ (.slice n3 (joinM D.who a).length k3)).heap.size=WB:=⟨_,rfl⟩;rw [af] at O5;have S:Hid (∀k,A.vo.ownBlock=some k→k<WB):=aa fun k hk=>by rw [←af];exact (Q.o.at'.sheet.own.lt k hk).2
   obtain ⟨H,Y⟩:∃H,D.outs=H:=⟨_,rfl⟩;have e1:({ D.tell (evOut D.who a) with who:=joinM D.who a }:DS)=H:=by rw [←Y,aA.o]
   have ak:=q.o;rw [e1] at ak;have bj:=aa ak;have a7:=aa (show DOk H from by rw [←Y];exact be.o);have bl:H.log.length≤902000:=by
    rw [←e1];show (D.log++evOut D.who a).length≤_
    rw [z8];have:=aK.o
    omega
   have ay:Hid (H.who=joinM D.who a):=aa (by rw [←e1]);have aM:Hid (D.close=D.obs.foldl DS.close1 H):=aa (by rw [bi.o,Y]);clear ak e1 Y q Q T bf aB q9 af f y N ac aF;go_loopw [49] (fun vi wr=>∃(k:Nat) (j:Value),k≤D.obs.length∧vi=.int .i64 k∧DSp B K w wr A { A with vl:=j,vw:=.slice n3 (joinM D.who a).length k3 } ((D.obs.take k).foldl DS.close1 H)∧wr.ownsRow WB 71 6 (.slice n5 D.obs.length k5) D.obs.length (flat eOb D.obs)) (fun vi _=>D.obs.length - (intOf vi).toNat)
   case atStart=>exact ⟨0,vl,Af _,rfl,bj.o,O5.o⟩
   case round=>
    obtain ⟨k,j,hk,rfl,t,u⟩:=hrel;have f:=aa t;have y:=aa u;have N:=aa (Sl.own kOb u);have ad:=t.mod.size;clear t u;by_cases l:k<D.obs.length
    ·obtain ⟨a',I,M,_,bg,an,L⟩:=N.o;obtain ⟨e1,e2⟩:n5=a'∧k5=I:=by simpa using M
     subst e1 e2;obtain ⟨b,V,rfl,aZ,R⟩:=L (by omega);obtain ⟨r0,r1,r2,r3,r4,r5⟩:=g8 (R k l);have a2:(0:Int)≤(k:Int):=by omega
     have aY:(k:Int)<(D.obs.length:Int):=by omega
     unfold maxLen at an;have C:=aa (ny H D.obs k l);have bq:=aa (OK.o.o64 D.obs[k] (Ag l));obtain ⟨aL,aD,aJ⟩:=jc (D.obs.take k) a7.o;have aN:=aa aL;have U:((D.obs.take k).foldl DS.close1 H).log.length+1≤1000000:=by
      have:=aD
      rw [Aa] at this;omega
     have aj:=aa (aJ.trans ay.o);obtain ⟨i,aH⟩:∃i,(D.obs.take k).foldl DS.close1 H=i:=⟨_,rfl⟩;rw [aH] at C aN f U aj;clear R L M aH aL aD aJ;generalize D.obs[k]=x at *;obtain ⟨vw,hvwE⟩:∃vw,Value.slice n3 (joinM D.who a).length k3=vw:=⟨_,rfl⟩;have bm:=aa hvwE;have cX:Bw wr (wr.alloc (.cells (cOb x) 71)):=Bn;obtain ⟨X,hX⟩:∃X,wr.alloc (.cells (cOb x) 71)=X:=⟨_,rfl⟩;have a9:=aa hX;have aO:Hid (Blk X wr.heap.size 71 (cOb x)):=aa (by rw [←hX];exact Blk.new wr 71 (cOb x));have p:Hid (DSp B K w X A { A with vl:=j,vw:=.slice n3 (joinM D.who a).length k3 } i):=aa (by rw [←hX];exact f.o.keep cX);have aP:Hid (X.ownsRow WB 71 6 (.slice (some ⟨b,V,none⟩) D.obs.length k5) D.obs.length (flat eOb D.obs)):=aa (by rw [←hX];exact ah y.o cX);have a5:Hid (WB≤wr.heap.size):=aa (by have:=S.o;have:=f.o.mod.size;have:=y.o.lt b rfl;omega);have a1:Hid (A.vo.ownBlock≠some wr.heap.size):=aa (fun e=>by have:=S.o _ e;have:=a5.o;omega);have bp:=aa (Z.o.step p.o);have bo:=aa (z5 hB p.o.mod.size);have aI:=SO.of p.o.at' rfl rfl rfl aO.o;have aT:=aa (fun (W:World) (hh:DkA W B { A with vl:=j,vw:=.slice n3 (joinM D.who a).length k3 } i)=>sI (.slice n3 (joinM D.who a).length k3) (joinM D.who a) x W (by have:=hh.who;rw [aj.o] at this;exact Sl.own kI this) (by have:=HJ.o;omega))
     have J:Hid (i.close1 x=if x.stt≠1∨(fateM x (joinM D.who a)).1=1 then i else if x.net<0 then ({ i with obs:=(markM i.obs x.mem x.ass (fateM x (joinM D.who a)).1 (fateM x (joinM D.who a)).2).2 }:DS).tell [⟨9,x.mem,x.ass,wrap64 (-x.net),0⟩] else { i with obs:=(markM i.obs x.mem x.ass (fateM x (joinM D.who a)).1 (fateM x (joinM D.who a)).2).2 }):=aa (by unfold DS.close1;rw [aj.o]);obtain ⟨⟨s,dn⟩,hf⟩:∃r,fateM x (joinM D.who a)=r:=⟨_,rfl⟩;rw [hf] at aT J;clear hX cX l hvwE hf;go_wp2_with fail;rw [show wr.alloc (.cells #[.int .i64 x.cycle,.int .i64 x.mem,.int .i64 x.ass,.int .i64 x.net,.int .i64 x.done,.int .i64 x.stt] 71)=X from a9.o];go_region_held3 (fun W=>SO A.gd A.gs wr.heap.size (.slice n3 (joinM D.who a).length k3) x W) (first | exact aI | exact s1 | assumption | go_keep)
      (first | (go_at_call 258;refine (aT.o X.drew p.o.at'.d).mono ?_;rintro e x1 ⟨rfl,c1⟩;have ab:=aa (p.o.keep (bd c1));have ao:=aa (aO.o.keepD c1);have E:=aa (ah aP.o (bd c1));have s1:=SO.of ab.o.at' rfl rfl rfl ao.o;clear c1))
     all_goals
      rename_i n
      clear n aI;have aS:=s1;obtain ⟨t9,aC,u0,u1,u2,u3,u4,u5⟩:=s1;have bb:=ao.o.lt;have a8:Hid (∀W,W.heap=x1.heap→Bw x1 W→Calls Tryz.prog 259 #[ptr A.gs,.int .i64 x.mem,.int .i64 x.ass,.int .i64 s,.int .i64 dn] W fun e w'=>∃r,e=.returned (.int .i64 r)∧DSp B K w w' A { A with vl:=j,vw:=.slice n3 (joinM D.who a).length k3 } { i with obs:=(markM i.obs x.mem x.ass s dn).2 }∧w'.ownsRow WB 71 6 (.slice (some ⟨b,V,none⟩) D.obs.length k5) D.obs.length (flat eOb D.obs)∧SO A.gd A.gs wr.heap.size (.slice n3 (joinM D.who a).length k3) x w'):=aa (fun W e c=>by
       have F:=ab.o.keep c;refine (uq (K:=K) rfl F.at' aN.o (Z.o.step F) x.mem x.ass s dn).mono ?_;rintro e w' ⟨r,he,st,fr⟩;have l:wr.heap.size<W.heap.size:=by rw [‹W.heap=x1.heap›];exact bb
       have hb:Blk w' wr.heap.size 71 (cOb x):=(fr wr.heap.size l a1.o).trans (by rw [‹W.heap=x1.heap›];exact ao.o);have ho:w'.ownsRow WB 71 6 (.slice (some ⟨b,V,none⟩) D.obs.length k5) D.obs.length (flat eOb D.obs):=au (ah E.o c) (fun g hg=>fr g ((ah E.o c).lt g hg).2 (fun e2=>by have:=S.o g e2;have:=((ah E.o c).lt g hg).1;omega));exact ⟨r,he,F.trans st,ho,SO.of st.at' rfl rfl rfl hb⟩)
      by_cases h1:x.stt=1
      rotate_left
      ·have d1:(x.stt != 1)=true:=by simpa using h1
       have z:Hid (i.close1 x=i):=aa (by rw [J.o,if_pos (Or.inl h1)]);clear h1;go_wp2_with fail;go_roundw
       case rel=>exact ⟨k+1,j,by omega,by go_num,by rw [C.o,z.o];exact ab.o,E.o⟩
       case measure=>exact ar (by omega)
      have d1:(x.stt != 1)=false:=by simpa using h1
      by_cases h2:s=1
      ·have d2:(s==1)=true:=by simpa using h2
       have z:Hid (i.close1 x=i):=aa (by rw [J.o,if_pos (Or.inr h2)]);clear h1 h2;go_wp2_with fail;go_roundw
       case rel=>exact ⟨k+1,j,by omega,by go_num,by rw [C.o,z.o];exact ab.o,E.o⟩
       case measure=>exact ar (by omega)
      have d2:(s==1)=false:=by simpa using h2
      have HN:Hid (¬ (x.stt≠1∨s=1)):=aa (by rintro (h | h);exact h h1;exact h2 h);clear h1 h2;go_wp2_with fail;go_region_held3 (fun W=>SO A.gd A.gs wr.heap.size (.slice n3 (joinM D.who a).length k3) x W) (first | exact aS | exact s5 | assumption | go_keep)
       (first | (go_at_call 259;refine (a8.o x1.drew rfl (zZ _ _).drew).mono ?_;rintro e w5 ⟨r5,rfl,av,az,s5⟩;have q:=aa av;have aE:=aa az;clear av az))
      all_goals
       rename_i n
       clear n aS t9 aC u0 u1 u2 u3 u4 u5;obtain ⟨t9,aC,u0,u1,u2,u3,u4,u5⟩:=s5;by_cases h3:x.net<0
       ·have d3:=dT h3;have z:Hid (i.close1 x=({ i with obs:=(markM i.obs x.mem x.ass s dn).2 }:DS).tell [⟨9,x.mem,x.ass,wrap64 (-x.net),0⟩]):=aa (by rw [J.o,if_neg HN.o,if_pos h3]);obtain ⟨nn,aU⟩:∃nn,wrap64 (-x.net)=nn:=⟨_,rfl⟩;rw [aU] at z;have bk:IntKind.i64.wrap (-x.net)=nn:=(IntWalk.i64_left _).trans aU;clear h3;have P:Bw w5 (w5.alloc (.cells #[.int .i64 9,.int .i64 x.mem,.int .i64 x.ass,.int .i64 nn,.int .i64 0] 101)):=Bn;have HT:=aa (zA (K:=K) (q.o.at'.keep P) ((Z.o.step q.o).keep P) (z5 hB (z5 q.o.mod.size P.size)) [⟨9,x.mem,x.ass,nn,0⟩] ⟨w5.heap.size,0,none⟩ 1 (Sl.one1b eEv kEv w5 101 ⟨9,x.mem,x.ass,nn,0⟩ (by rfl) _ rfl) U);go_wp2_with (go_at_call 164;refine HT.o.mono ?_;rintro e w8 ⟨vl8,rfl,st8,m8⟩;have am:=aa ((q.o.keep P).trans st8);have aW:=aa (ai (ah aE.o P) m8 (by decide));clear st8 m8)
        go_roundw
        case rel=>exact ⟨k+1,vl8,by omega,by go_num,by rw [C.o,z.o];exact am.o,aW.o⟩
        case measure=>exact ar (by omega)
       ·have d3:=dF h3;have z:Hid (i.close1 x={ i with obs:=(markM i.obs x.mem x.ass s dn).2 }):=aa (by rw [J.o,if_neg HN.o,if_neg h3]);clear h3;go_wp2_with fail;go_roundw
        case rel=>exact ⟨k+1,j,by omega,by go_num,by rw [C.o,z.o];exact q.o,aE.o⟩
        case measure=>exact ar (by omega)
    ·obtain rfl:k=D.obs.length:=by omega
     have bc:¬ ((D.obs.length:Int)<(D.obs.length:Int)):=by omega
     rw [show D.obs.take D.obs.length=D.obs from Ae (zY _)] at f;go_wp2_with fail;go_end0;exact ⟨_,rfl,by rw [aM.o];exact f.o⟩
def DS.relL (D:DS)(l:List Int):DS:=l.foldl DS.release D
theorem uv (D:DS)(l:List Int)(k:Nat)(h:k<l.length):D.relL (l.take (k+1))=(D.relL (l.take k)).release l[k]:=by
 unfold DS.relL;rw [z9 h,List.foldl_append];rfl
theorem oG (l:List Int):∀{D:DS},DOk D→DOk (D.relL l)∧(D.relL l).log=D.log∧(D.relL l).C=D.C:=by
 induction l with
 | nil=>intro D a;exact ⟨a,rfl,rfl⟩
 | cons x l ih=>intro D a;exact ih (xF a x)
def DS.due1 (D:DS):DS:=D.close.relL (D.close.hlds.map RH.rid)
def DS.need (D:DS):Int:=overM (asumM (D.good 0)).1 (D.balD ⟨1,0⟩ 0)
def shortB (D:DS)(k:Nat):Bool:=(List.range k).any fun s=>decide (0<D.short ((s:Int)+1))
theorem xX {f:Int→Int}{k:Nat}(h:∀j:Nat,j<k→f ((j:Int)+1)≤0)(h2:f ((k:Int)+1)≤0):∀j:Nat,j<k+1→f ((j:Int)+1)≤0:=fun j hj=>by
 rcases Az j k with h3 | h3
 ·exact h j h3
 ·obtain rfl:j=k:=by omega
  exact h2
theorem lu {D:DS}{k:Nat}(h:∀j:Nat,j<k→D.short ((j:Int)+1)≤0):shortB D k=false:=by
 unfold shortB;rw [Bj];intro x a;simpa using Int.not_lt.2 (h x (by simpa using a))
theorem lv {D:DS}{k j:Nat}(hj:j<k)(h:0<D.short ((j:Int)+1)):shortB D k=true:=by
 unfold shortB;rw [At];exact ⟨j,by simpa using hj,by simpa using h⟩
theorem oH (l:List Lg):In64 (asumM l).1:=by
 unfold asumM;split
 ·unfold In64;simp
 ·unfold sumM;exact jI _
def DrawsTo (B:Nat)(K:List Nat)(D:DS)(n:Int)(P:DS→Prop):Prop:=∀W A,DkA W B A D→KOk W K A→B≤W.heap.size→Calls Tryz.prog 212 #[ptr A.gd,.int .i64 n] W fun e w'=>∃A' D',e=.returned (.tuple #[])∧DSp B K W w' A A' D'∧P D'
theorem jd {B:Nat}{K:List Nat}{D:DS}{n:Int}(h:n≤0):DrawsTo B K D n (·=D):=fun W A hA _ _=>by
 have hd:=dT h;have HA:=aa hA;clear h hA;go_enter Tryz.func212,Tryz.ntmps212;go_wp2_with fail;refine bodyPost_ret (results_none rfl _ _ _) rfl ?_;exact ⟨A,D,rfl,DSp.same HA.o (zZ _ _),rfl⟩
theorem DrawsTo.at {B:Nat}{K:List Nat}{D:DS}{n:Int}{P:DS→Prop}(h:DrawsTo B K D n P){W:World}{A:DA}{gd:Nat}(e:A.gd=gd)(hA:DkA W B A D)(hK:KOk W K A)(hB:B≤W.heap.size):Calls Tryz.prog 212 #[ptr gd,.int .i64 n] W fun e w'=>∃A' D',e=.returned (.tuple #[])∧DSp B K W w' A A' D'∧P D':=by
 subst e;exact h W A hA hK hB
def DuePost (B:Nat)(K:List Nat)(A:DA)(D:DS)(P:DS→Prop)(w:World)(e:Ending)(w':World):Prop:=∃b y A' D',e=.returned (.tuple #[.bool b,.int .i64 y])∧DSp B K w w' A A' D'∧
 if D.state≠1 then b=false∧y=11∧D'=D else y=0∧∃D3,P D3∧D'={ D3 with state:=2 }∧b=shortB D' D'.C.secs.length
theorem uw {D:DS}(ok:DOk D)(hw:(joinM D.who (failedM D.obs)).length≤1000):DOk D.close∧D.close.log.length≤D.log.length+2048∧DOk D.due1∧D.due1.log=D.close.log∧D.due1.C=D.C:=by
 have b:D.close.C=D.C:=by
  have:∀(l:List Ob) (D:DS),(l.foldl DS.close1 D).C=D.C:=by
   intro l;induction l with
   | nil=>intro D;rfl
   | cons x l ih=>intro D;rw [List.foldl_cons,ih,uu]
  exact (this _ _).trans rfl
 obtain ⟨a,d,_⟩:=jc D.obs (ok.outs hw);obtain ⟨h3,h4,h5⟩:=oG (D.close.hlds.map RH.rid) (D:=D.close) a;refine ⟨a,?_,h3,h4,h5.trans b⟩;have c:D.outs.log.length≤D.log.length+1024:=by
  show (D.log++evOut D.who (failedM D.obs)).length≤_
  have:=lr ok
  rw [z8];omega
 have:=ok.obs
 show (D.obs.foldl DS.close1 D.outs).log.length≤_
 omega
theorem xY {B:Nat}{K:List Nat}{A A4:DA}{D4:DS}{w x4:World}(st:DSp B K w x4 A A4 D4)(hK:A4.gd∉K):DSp B K w (x4.setCell ⟨A.gd,13,none⟩ (.int .i64 2)) A A4 { D4 with state:=2 }:=by
 have h:=st.trans (st.at'.setState (K:=K) 2 hK);rw [st.gd] at h;exact h
theorem ux {B:Nat}{K:List Nat}{A:DA}{D:DS}{w:World}(h:DkA w B A D)(ok:DOk D)(hK:KOk w K A)(hB:B≤w.heap.size)(hw:(joinM D.who (failedM D.obs)).length≤1000)(hlog:D.log.length≤890000)(P:DS→Prop)(hP:∀D3,P D3→DOk D3)(hdr:DrawsTo B K D.due1 D.due1.need P) :
  Calls Tryz.prog 171 #[ptr A.gd] w (DuePost B K A D P w):=by
 obtain ⟨W1,m⟩:∃W1,w.alloc (.cells #[.int .i64 1] 3)=W1:=⟨_,rfl⟩;have u:Bw w W1:=by rw [←m];exact Bn
 have d:=ew (h.keep u) 1 w.heap.size (by rw [←m];exact Blk.new w 3 #[.int .i64 1]);have aj:=aa m;have Y:=aa h;have H:=aa hK;by_cases hs:D.state=1
 rotate_left
 ·rw [if_neg (Ne.symm hs)] at d;have l:=aa d;have HS:=aa hs;clear h ok hK m d hs;go_enter Tryz.func171,Tryz.ntmps171;go_wp2_with fail;rw [show w.alloc (.cells #[.int .i64 1] 3)=W1 from aj.o];go_wp2_with (go_at_call 152;refine l.o.mono ?_;rintro e w1 ⟨rfl,hw⟩;subst hw)
  go_ret2;exact ⟨_,_,A,D,rfl,DSp.same Y.o u,by rw [if_pos HS.o];exact ⟨rfl,rfl,rfl⟩⟩
 ·rw [if_pos hs.symm] at d;have l:=aa d;have HS:=aa hs;obtain ⟨r,aL,ah,aR,ak⟩:=uw ok hw;have ay:=aa (nz (h.keep u) ok (hK.keep u) (z5 hB u.size) hw (by omega));have R:Hid (D.due1=D.close.relL (D.close.hlds.map RH.rid)):=aa rfl;have q:Hid (D.due1.need=overM (asumM (D.due1.good 0)).1 (D.due1.balD ⟨1,0⟩ 0)):=aa rfl;have F:=aa r;have y:=aa ah;have L:=aa hdr;have HP:=aa hP;have HC:=aa ak;have aX:D.C.secs.length≤8:=ok.cfg.s2;have X:=aa (r.hlds);have E:=aa (r.cfg.m2);obtain ⟨DC,hDC⟩:∃DC,D.close=DC:=⟨_,rfl⟩;rw [hDC] at ay R F X E;obtain ⟨ids,hids⟩:∃ids,DC.hlds.map RH.rid=ids:=⟨_,rfl⟩;have aK:Hid (∀W U,DkA W B U DC→Calls Tryz.prog 210 #[ptr U.gv] W (RPo eI 2 1 ids W)):=aa (fun W U hA=>by rw [←hids];exact mW hA F.o);rw [hids] at R;have a1:ids.length≤16:=by rw [←hids,Ad];exact z5 X.o E.o
  clear hids;clear h ok hK m d hs r ah hdr hP aL aR hDC ak hw;go_enter Tryz.func171,Tryz.ntmps171;go_wp2_with fail;rw [show w.alloc (.cells #[.int .i64 1] 3)=W1 from aj.o];go_wp2_with (first
   | (go_at_call 152;refine l.o.mono ?_;rintro e w1 ⟨rfl,hw⟩;subst hw)
   | (go_at_call 209;refine ay.o.mono ?_;rintro e w2 ⟨U,rfl,p⟩;have ao:=aa ((DSp.same (K:=K) Y.o u).trans p);have q8:w2.cell? ⟨A.gd,8,none⟩=some (ptr U.gv):=s8w p.gd p.at';clear p)
   | (go_at_call 210;refine (aK.o _ _ ao.o.at').mono ?_;rintro e w3 ⟨v3,rfl,o3,c3⟩;have aC:=aa (ao.o.keep c3);have O3:=aa o3;obtain ⟨n3,k3,rfl⟩:=ag o3;clear o3 c3))
  go_loopw [22] (fun vi wr=>∃(k:Nat) (A':DA),k≤ids.length∧vi=.int .i64 k∧DSp B K w wr A A' (DC.relL (ids.take k))∧wr.ownsRow w2.heap.size 2 1 (.slice n3 ids.length k3) ids.length (flat eI ids)) (fun vi _=>ids.length - (intOf vi).toNat)
  case atStart=>exact ⟨0,U,Af _,rfl,aC.o,O3.o⟩
  case round=>
   obtain ⟨k,A',hk,rfl,O,J⟩:=hrel;have a:=aa O;have aQ:=aa J;have aM:=aa (Sl.own kI J);have ae:=O.mod.size;clear O J;by_cases hlt:k<ids.length
   ·obtain ⟨a',am,aq,_,a0,aH,au⟩:=aM.o;obtain ⟨e1,e2⟩:n3=a'∧k3=am:=by simpa using aq
    subst e1 e2;obtain ⟨b,aY,rfl,aV,az⟩:=au (by omega);have r0:=az k hlt 0 _ rfl;rw [A0,AU] at r0;have aJ:(0:Int)≤(k:Int):=by omega
    have aD:(k:Int)<(ids.length:Int):=by omega
    unfold maxLen at aH;have ab:=aa (uv DC ids k hlt);have ad:=aa (oG (ids.take k) F.o).1;obtain ⟨Dk,av⟩:∃Dk,DC.relL (ids.take k)=Dk:=⟨_,rfl⟩;rw [av] at ab ad a;clear az au aq av;generalize ids[k]=x at *;have q8:wr.cell? ⟨A.gd,8,none⟩=some (ptr A'.gv):=s8w a.o.gd a.o.at';have aP:=aa (jK (K:=K) a.o.at' ad.o (H.o.step a.o) (z5 hB ae) x);go_wp2_with (go_at_call 211;refine aP.o.mono ?_;rintro e w5 ⟨vh5,r5,rfl,st5⟩;have aB:=aa (a.o.trans st5);have af:=aa (ai aQ.o st5.mod (by decide));clear st5)
    go_roundw
    case rel=>exact ⟨k+1,_,by omega,by go_num,by rw [ab.o];exact aB.o,af.o⟩
    case measure=>exact ar (by omega)
   ·obtain rfl:k=ids.length:=by omega
    have aN:¬ ((ids.length:Int)<(ids.length:Int)):=by omega
    rw [show ids.take ids.length=ids from Ae (zY _),←R.o] at a;obtain ⟨D1,ac⟩:∃D1,D.due1=D1:=⟨_,rfl⟩;rw [ac] at a y q L HC;obtain ⟨su,hsu⟩:∃su,(asumM (D1.good 0)).1=su:=⟨_,rfl⟩;have aO:=aa hsu;have aI:Hid (In64 su):=aa (by rw [←hsu];exact oH _);rw [hsu] at q;obtain ⟨nd,hnd⟩:∃nd,D1.need=nd:=⟨_,rfl⟩;rw [hnd] at L q;have aW:=gq y.o 0;clear hsu hnd ac;go_wp2_with (first
     | (go_at_call 203;refine (zy a.o.gd a.o.at' y.o 0).mono ?_;rintro e x1 ⟨v1,rfl,o1,u⟩;have aE:=aa (a.o.keep u);have aG:=aa (Sl.own kLg o1);obtain ⟨na,ka,rfl⟩:=ag o1;clear o1 u)
     | (go_at_call 214;refine (kG _ (D1.good 0) _ aG.o (by omega) (dV _ _)).mono ?_;rintro e x2 ⟨rfl,c2⟩;rw [aO.o];have T:=aa (aE.o.keep c2);clear c2)
     | (go_at_call 213;refine (xV T.o.gd T.o.at' y.o su aI.o).mono ?_;rintro e x3 ⟨rfl,c3⟩;rw [←q.o];have n:=aa (T.o.keep c3);clear c3)
     | (go_at_call 212;refine (L.o.at n.o.gd n.o.at' (H.o.step n.o) (z5 hB n.o.mod.size)).mono ?_;rintro e x4 ⟨A4,I,rfl,V,p4⟩;have P4:=aa p4;have i:=aa (n.o.trans V);clear V p4;have aZ:x4.cell? ⟨A.gd,13,none⟩=some (.int .i64 I.state):=(by rw [←i.o.gd];exact i.o.at'.blk.c 13);have a2:x4.frozen? ⟨A.gd,13,none⟩=false:=(by rw [←i.o.gd];exact i.o.at'.blk.free 13);have f:=aa (xY i.o ((H.o.step i.o).blk i.o.at'.blk (by decide)));have N:=aa (show DOk { I with state:=2 } from (by have o:=HP.o I P4.o;exact ⟨o.cfg,o.bal,o.b64,o.hlds,o.rise,o.obs,o.o64,o.who⟩));have t:=f.o.at'.cfg.sl.s;obtain ⟨ns,ks,hvs,_⟩:=t;have M:=f.o.at'.blk.c 1;rw [f.o.gd] at M;have q1:=M.trans (congrArg some hvs);clear M hvs))
    obtain ⟨z,v⟩:∃z,({ I with state:=2 }:DS)=z:=⟨_,rfl⟩;have aA:=aa v;rw [v] at f N;have t:I.C.secs.length=z.C.secs.length:=by rw [←v]
    rw [t] at q1 ⊢;have an:z.C.secs.length≤8:=N.o.cfg.s2;obtain ⟨S,hS⟩:∃S,z.C.secs.length=S:=⟨_,rfl⟩;have ax:=aa hS;rw [hS] at an ⊢;clear q1 t hS v;generalize x4.setCell ⟨A.gd,13,none⟩ (.int .i64 2)=X5 at *;go_loopw [49] (fun vi wr=>∃k:Nat,k≤S∧vi=.int .i64 k∧Bw X5 wr∧∀j:Nat,j<k→z.short ((j:Int)+1)≤0) (fun vi _=>S - (intOf vi).toNat)
    case atStart=>exact ⟨0,Af _,rfl,zZ _ _,fun j hj=>absurd hj (Nat.not_lt_zero j)⟩
    case round=>
     obtain ⟨k,hk,rfl,g,al⟩:=hrel;have ap:=aa al;clear al;by_cases hlt:k<S
     ·have aJ:(0:Int)≤(k:Int):=by omega
      have aD:(k:Int)<(S:Int):=by omega
      have Z:k≤1000:=z5 hk (z5 an (by decide));have aU:=(aT k Z).1;have aS:=(aT k Z).2;have G:=aa (xW f.o.gd (f.o.at'.keep g) N.o ((k:Int)+1));obtain ⟨sh,Q⟩:∃sh,z.short ((k:Int)+1)=sh:=⟨_,rfl⟩;have aw:=aa Q;rw [Q] at G;clear Q;by_cases h0:0<sh
      ·have d0:=dT h0;have HB:=aa (lv hlt (by rw [aw.o];exact h0));clear h0;go_wp2_with (go_at_call 162;refine G.o.mono ?_;rintro e y1 ⟨rfl,cy⟩;have aF:=aa ((f.o.keep g).keep cy))
       go_ret2;exact ⟨true,0,_,_,rfl,aF.o,by rw [if_neg (by simpa using HS.o)];exact ⟨rfl,I,P4.o,aA.o.symm,by rw [ax.o];exact HB.o.symm⟩⟩
      ·have d0:=dF h0;have HB:Hid (∀j:Nat,j<k+1→z.short ((j:Int)+1)≤0):=aa (xX ap.o (by rw [aw.o];exact Int.not_lt.1 h0));clear h0;go_wp2_with (go_at_call 162;refine G.o.mono ?_;rintro e y1 ⟨rfl,cy⟩;have BY:=aa (g.trans (cy.mono g.size)))
       go_roundw
       case rel=>exact ⟨k+1,hlt,by first | rfl | go_num,BY.o,HB.o⟩
       case measure=>exact ar hlt
     ·obtain rfl:k=S:=by omega
      have aN:¬ ((k:Int)<(k:Int)):=by omega
      have HB:=aa (lu ap.o);go_wp2_with fail;go_ret2;exact ⟨false,0,_,_,rfl,f.o.keep g,by rw [if_neg (by simpa using HS.o)];exact ⟨rfl,I,P4.o,aA.o.symm,by rw [ax.o];exact HB.o.symm⟩⟩
theorem zC (v:Value)(l:List Int)(w:World)(hv:Sl eI 1 w v l)(hn:l.length≤1000000):Calls Tryz.prog 225 #[v] w (RPo eI 2 1 l w):=by
 obtain ⟨a,c,rfl,t,u,q,p⟩:=hv;unfold maxLen at q;cases a with
 | none=>
  have g:l=[]:=by
   cases l with
   | nil=>rfl
   | cons x l=>obtain ⟨b,d,h,_⟩:=p (by simp);cases h
  subst g;refine (Tryz.slices_Clone_int_nil_f225 0 c w).mono ?_;rintro e n ⟨rfl,rfl⟩;exact ⟨_,rfl,⟨by simp [flat],Or.inl ⟨rfl,rfl⟩⟩,zZ _ _⟩
 | some ad=>
  by_cases g:l.length=0
  ·obtain rfl:=Ar g;refine (Tryz.slices_Clone_int_zero_f225 ad c w).mono ?_;rintro e n ⟨r,rfl,f,_,o⟩;exact ⟨_,rfl,by simpa [flat] using f,o⟩
  ·obtain ⟨b,d,s,o,k⟩:=p (by omega);cases s
   refine (Tryz.slices_Clone_int_f225 b d l.length c l w (zY _) (by omega) (fun j hj=>by
    have m:=k j hj 0 _ rfl;rw [A0,AU] at m;rw [m];simp [hj])).mono ?_
   rintro e n ⟨r,rfl,f,i⟩;rw [Ap] at f;refine ⟨_,rfl,by rw [ee];exact f,?_⟩;first | exact i.2 | exact i.2.1 | exact i
theorem jS (a:Int)(v:Value)(l:List Int)(w:World)(hv:Sl eI 1 w v l)(h:ShareOk a l)(hge:sumL l≤a):Calls Tryz.prog 329 #[.int .i64 a,v] w fun e w'=>∃u,e=.returned (.tuple #[u,.int .i64 0])∧w'.ownsRow w.heap.size 2 1 u l.length (flat eI l)∧Bw w w':=by
 have f:=aa hv;have g:=aa (mH a v l w hv h);have d:l.length≤1000000:=by have:=h.n;omega
 have i:=dT hge;obtain ⟨k,j,rfl,_⟩:=hv;clear h hge;go_enter Tryz.func329,Tryz.ntmps329;go_wp2_with (first | (go_at_call 360;refine g.o.mono ?_;rintro e w1 ⟨rfl,c1⟩;have b:=aa (zC _ l w1 (f.o.keep c1) d)) | (go_at_call 225;refine b.o.mono ?_;rintro e w2 ⟨u,rfl,ho,c2⟩;have c:=aa ho;obtain ⟨n2,k2,rfl⟩:=ag ho;clear ho))
 go_ret2;exact ⟨_,rfl,aw c.o c1.size,c1.trans (c2.mono c1.size)⟩
structure SplitOk (a:Int)(cl:List Lg):Prop where
 short:(ashortM a cl).2=0
 ok:ShareOk a (cl.map (·.amt))
 enough:sumL (cl.map (·.amt))≤a
theorem qx (l:List Int):lostM l l=List.replicate l.length 0:=by
 unfold lostM;induction l with
 | nil=>rfl
 | cons x l ih=>
  rw [List.zipWith_cons_cons,ih,Ay,List.replicate_succ];simp
theorem qy (cl:List Lg)(n:Nat):someM (List.replicate n 0) cl=[]:=by
 unfold someM;rw [List.filterMap_eq_nil_iff];intro p d;have c:=List.of_mem_zip (a:=p.1) (b:=p.2) d;have f:p.1=0:=List.eq_of_mem_replicate c.1;unfold someF;rw [f,if_neg (by omega)]
theorem qz (a:Int)(v:Value)(cl:List Lg)(w:World)(hv:Sl eLg 3 w v cl)(h:SplitOk a cl)(h64:∀x∈cl,In64 x.amt):Calls Tryz.prog 269 #[.int .i64 a,v] w fun e w'=>∃u1 u2,e=.returned (.tuple #[u1,u2,.int .i64 0])∧w'.ownsRow w.heap.size 120 3 u1 (someM (cl.map (·.amt)) cl).length (flat eLg (someM (cl.map (·.amt)) cl))∧w'.ownsRow w.heap.size 120 3 u2 ([]:List Lg).length (flat eLg [])∧Bw w w':=by
 obtain ⟨f,b⟩:∃f,w.alloc (.cells #[v] 66)=f:=⟨_,rfl⟩;have H:Bw w f:=by rw [←b];exact Bn
 have d:Blk f w.heap.size 66 #[v]:=by rw [←b];exact Blk.new w 66 #[v]
 have C:=aa d;have ak:(w.alloc (.cells #[v] 66)).cell? ⟨w.heap.size,0,none⟩=some v:=by rw [b];exact d.c 0
 have I:=aa (hv.keep H);have OK:=aa h.ok;have hn:cl.length≤1024:=by have:=h.ok.n;rw [Ad] at this;exact this
 have ai:=aa h.enough;have z:=aa (gi a h.ok.a1 v cl f (hv.keep H) (by omega) h64);obtain ⟨⟨s1,s2⟩,hs⟩:∃r,ashortM a cl=r:=⟨_,rfl⟩;have K:=h.short;rw [hs] at z K;dsimp only at K;subst K;have Y:=aa b;obtain ⟨n1,k1,rfl,_⟩:=hv;have G:Hid (∀W,f.heap.size≤W.heap.size→∀u,Sl eI 1 W u (cl.map (·.amt))→Calls Tryz.prog 329 #[.int .i64 a,u] W fun e w'=>∃u',e=.returned (.tuple #[u',.int .i64 0])∧w'.ownsRow W.heap.size 2 1 u' cl.length (flat eI (cl.map (·.amt)))∧Bw W w'):=aa (fun W _ u hu=>by
  have q:=jS a u _ W hu h.ok h.enough;rw [Ad] at q;exact q)
 have D:Hid (∀W u u',Sl eI 1 W u (cl.map (·.amt))→Sl eI 1 W u' (cl.map (·.amt))→Calls Tryz.prog 330 #[u,u'] W fun e w'=>∃r,e=.returned (.tuple #[r,.int .i64 0])∧w'.ownsRow W.heap.size 2 1 r cl.length (flat eI (List.replicate cl.length 0))∧Bw W w'):=aa (fun W u u' hu hu'=>by
  have q:=sU u u' _ _ W hu hu' rfl (by rw [Ad];omega) (fun i h1 h2=>⟨h.ok.pos _ (Ag _),Int.le_refl _⟩) (fun x hx=>by
   obtain ⟨y,hy,rfl⟩:=AD.1 hx;exact h64 y hy)
  rw [qx,Ad,Bc] at q;exact q)
 have s:Hid (∀W u,Sl eLg 3 W u cl→Calls Tryz.prog 296 #[u] W fun e w'=>∃v',e=.returned v'∧w'.ownsRow W.heap.size 2 1 v' cl.length (flat eI (cl.map (·.amt)))∧Bw W w'):=aa (fun W u hu=>by
  have q:=cW u cl W hu (by omega);unfold RPo at q;rw [Ad] at q;exact q)
 have j:Hid (∀W g u v',Sl eI 1 W v' (cl.map (·.amt))→Sl eLg 3 W u cl→Blk W g 66 #[u]→Calls Tryz.prog 331 #[v',ptr g] W (RPo eLg 120 3 (someM (cl.map (·.amt)) cl) W)):=aa (fun W g u v' hv' hu hg=>gj g v' u _ cl W hv' hu hg (by rw [Ad]) (by rw [Ad];omega));have N:Hid (∀W g u v',Sl eI 1 W v' (List.replicate cl.length 0)→Sl eLg 3 W u cl→Blk W g 66 #[u]→Calls Tryz.prog 331 #[v',ptr g] W (RPo eLg 120 3 [] W)):=aa (fun W g u v' hv' hu hg=>by
  have q:=gj g v' u _ cl W hv' hu hg (by rw [Bc]) (by rw [Bc];omega);rw [qy] at q;exact q)
 obtain ⟨P,hP⟩:∃P,someM (cl.map (·.amt)) cl=P:=⟨_,rfl⟩;obtain ⟨am,ham⟩:∃P,cl.map (·.amt)=P:=⟨_,rfl⟩;rw [hP] at j ⊢;rw [ham] at G D s j;have E:am.length=cl.length:=by rw [←ham,Ad]
 have HL:=aa E;have O:w.heap.size<f.heap.size:=d.lt;have ag:=aa O;clear h h64 b hs d hP ham hn E;have ad:True:=trivial;go_enter Tryz.func269,Tryz.ntmps269
 go_wp2_with (first | (go_at_call 202;rw [show w.alloc (.cells #[.slice n1 cl.length k1] 66)=f from Y.o];refine z.o.mono ?_;rintro e w2 ⟨rfl,B⟩;have g2:=(Blk.keep C.o B).c 0;have A:=aa (I.o.keep B);have Z:=aa (Blk.keep C.o B)) | (go_at_call 296;refine (s.o w2 _ A.o).mono ?_;rintro e w3 ⟨u3,rfl,ho3,c3⟩;have aj:=aa (ah ho3 (zZ _ _));have L:=aa (A.o.keep c3);have M:=aa (Blk.keep Z.o c3);have m:=aa (Sl.own (enc:=eI) (k:=1) (fun _=>rfl) (by rw [HL.o];exact ho3));clear ho3 g2) | (go_at_call 329;refine (G.o w3 (z5 B.size c3.size) _ m.o).mono ?_;rintro e w4 ⟨u4,rfl,ho4,c4⟩;have V:=aa (L.o.keep c4);have ae:=aa (Blk.keep M.o c4);have R:=aa (m.o.keep c4);have p:=aa (Sl.own (enc:=eI) (k:=1) (l:=am) (fun _=>rfl) (by rw [HL.o];exact ho4));clear ho4) | (go_at_call 330;refine (D.o w4 _ _ R.o p.o).mono ?_;rintro e w5 ⟨u5,rfl,ho5,c5⟩;have F:=aa (V.o.keep c5);have t:=aa (Blk.keep ae.o c5);have af:=aa (p.o.keep c5);have Q:=aa (Sl.own (enc:=eI) (k:=1) (l:=List.replicate cl.length 0) (fun _=>rfl) (by rw [Bc];exact ho5));clear ho5) | (go_at_call 331;first | (clear ad;refine (j.o w5 _ _ _ af.o F.o t.o).mono ?_;rintro e w6 ⟨u6,rfl,ho6,c6⟩;have U:=aa ho6;have ac:=aa (F.o.keep c6);have J:=aa (Blk.keep t.o c6);have S:=aa (Q.o.keep c6);clear ho6) | (refine (N.o w6 _ _ _ S.o ac.o J.o).mono ?_;rintro e w7 ⟨u7,rfl,ho7,c7⟩;have ab:=aa ho7;clear ho7)))
 have d2:=H.trans (B.mono H.size);have d3:=d2.trans (c3.mono d2.size);have d4:=d3.trans (c4.mono d3.size);have X:=d4.trans (c5.mono d4.size);have T:=X.trans (c6.mono X.size);go_ret3
 exact ⟨_,_,rfl,aw (ah U.o c7) X.size,aw ab.o T.size,T.trans (c7.mono T.size)⟩
def LegsOk (l:List Lg):Prop:=l.length≤1024∧∀x∈l,In64 x.amt
def TwoLegs (Q:List Lg→List Lg→Prop)(w:World)(e:Ending)(w':World):Prop:=∃u1 u2 G L er,e=.returned (.tuple #[u1,u2,.int .i64 er])∧w'.ownsRow w.heap.size 120 3 u1 G.length (flat eLg G)∧w'.ownsRow w.heap.size 120 3 u2 L.length (flat eLg L)∧Bw w w'∧Q G L
def SplitsTo (a:Int)(cl:List Lg)(Q:List Lg→List Lg→Prop):Prop:=∀W v,Sl eLg 3 W v cl→Calls Tryz.prog 269 #[.int .i64 a,v] W (TwoLegs Q W)
theorem gN {a:Int}{cl:List Lg}(h:SplitOk a cl)(h64:∀x∈cl,In64 x.amt):SplitsTo a cl fun G L=>G=someM (cl.map (·.amt)) cl∧L=[]:=fun W v hv=>
 (qz a v cl W hv h h64).mono fun _ _ ⟨u1,u2,he,h1,h2,hb⟩=>⟨u1,u2,_,_,0,he,h1,h2,hb,rfl,rfl⟩
theorem oI (w:World)(B:Nat):w.ownsRow B 120 3 (.slice none 0 0) ([]:List Lg).length (flat eLg []):=⟨by simp [flat],Or.inl ⟨rfl,rfl⟩⟩
theorem cpayS {a:Int}{l:List Lg}{Q:List Lg→List Lg→Prop}(hs:ccM l=0→SplitsTo a l Q)(h0:ccM l≠0→Q [] [])(v:Value)(w:World)(hv:Sl eLg 3 w v l)(hn:l.length≤100000)(h64:∀x∈l,In64 x.amt):Calls Tryz.prog 274 #[.int .i64 a,v] w (TwoLegs Q w):=by
 have d:=aa (d9 v l w hv hn h64);have g:=aa hv;obtain ⟨m,j,rfl,_⟩:=hv;obtain ⟨y,hy⟩:∃y,ccM l=y:=⟨_,rfl⟩;rw [hy] at d hs h0;clear hy h64;by_cases hy0:y=0
 rotate_left
 ·have k:(y != 0)=true:=by simpa using hy0
  have i:=aa (h0 hy0);clear hs h0 hy0;go_enter Tryz.func274,Tryz.ntmps274;go_wp2_with (go_at_call 334;refine d.o.mono ?_;rintro e f ⟨rfl,b⟩)
  go_ret3
  exact ⟨_,_,[],[],y,rfl,oI _ _,oI _ _,b,i.o⟩
 ·subst hy0;have h:=aa (hs rfl);clear hs h0;go_enter Tryz.func274,Tryz.ntmps274;go_wp2_with (first | (go_at_call 334;refine d.o.mono ?_;rintro e f ⟨rfl,b⟩;have c:=aa (h.o f _ (g.o.keep b))) | (go_at_call 269;refine c.o.mono ?_;rintro e w2 ⟨u1,u2,G,L,er,rfl,o1,o2,c2,q2⟩))
  go_ret3
  exact ⟨_,_,G,L,er,rfl,aw o1 b.size,aw o2 b.size,b.trans (c2.mono b.size),q2⟩
def WorthsTo (C:Cfg)(l r:List Lg):Prop:=∀W v vm vs vc,CSl W vm vs vc C→Sl eLg 3 W v l→Calls Tryz.prog 272 #[cfgV vm vs vc C,v] W fun e w'=>∃u er,e=.returned (.tuple #[u,.int .i64 er])∧w'.ownsRow W.heap.size 120 3 u r.length (flat eLg r)∧Bw W w'
theorem qA (C:Cfg):WorthsTo C [] []:=fun w v vm vs vc hc hv=>by
 have hmk:∀w:World,(Instr.makeMap 409 none).run Tryz.prog w=.ok (.map (some w.heap.size)) (w.alloc (.map #[] 0)):=fun w=>rfl
 obtain ⟨W0,hW0⟩:∃W0,w.alloc (.cells (cfgC vm vs vc C) 26)=W0:=⟨_,rfl⟩;have HW0:=aa hW0;have b0:Bw w W0:=by rw [←hW0];exact Bn
 have b:=b0.alloc b0.size (.map #[] 0);have a:=aa (gK (Grp.new W0 vI) ⟨fun p hp=>absurd hp (by simp),by simp,by simp,fun p hp=>absurd hp (by simp)⟩);have c:Hid (gtM []=([],0)):=aa (by simp [gtM,keysI,badI]);unfold GatherPost at a;rw [c.o] at a;obtain ⟨k,j,rfl,_⟩:=hv;clear hc hW0;have f:(([]:List Lg).length:Int)=0:=rfl;go_enter Tryz.func272,Tryz.ntmps272;go_wp2_with fail;rw [show w.alloc (.cells #[vm,vs,vc,.int .i64 C.line,.int .i64 C.capital,.int .i64 C.lead,.int .i64 C.trades,.int .i64 C.bids] 26)=W0 from HW0.o];go_loopw [17] (fun vi wr=>vi=.int .i64 0∧wr=W0.alloc (.map #[] 0)) (fun _ _=>0)
 case atStart=>exact ⟨rfl,by rw [←HW0.o]⟩
 case round=>
  obtain ⟨rfl,rfl⟩:=hrel;have d:w.heap.size+1=W0.heap.size:=by rw [←HW0.o];simp
  go_wp2_with (go_at_call 333;rw [d];refine a.o.mono ?_;rintro e l ⟨m,rfl,h,i⟩;have g:=b.trans (i.mono b.size))
  go_ret2;exact ⟨_,_,rfl,aw h b.size,g⟩
section
variable {B:Nat}{K:List Nat}{A:DA}{D:DS}{w:World}
def HandPost (B:Nat)(K:List Nat)(A:DA)(w:World)(R:List Lg→List Lg→DS→Prop)(e:Ending)(w':World):Prop:=∃u1 u2 G L A' D',e=.returned (.tuple #[u1,u2])∧w'.ownsRow w.heap.size 120 3 u1 G.length (flat eLg G)∧w'.ownsRow w.heap.size 120 3 u2 L.length (flat eLg L)∧DSp B K w w' A A' D'∧R G L D'
theorem qB {gd:Nat}(eg:A.gd=gd)(h:DkA w B A D)(ok:DOk D)(hK:KOk w K A)(hB:B≤w.heap.size)(hlog:D.log.length≤890000)(s:Int)(Q:List Lg→List Lg→Prop)(hQ:∀G L,Q G L→LegsOk G∧LegsOk L)(hs:SplitsTo (D.balD ⟨1,0⟩ s) (D.good s) Q) :
  Calls Tryz.prog 216 #[ptr gd,.int .i64 s] w (HandPost B K A w fun G L D'=>Q G L∧D'=(D.give G).tell (evEach 14 L)):=by
 subst eg;have f:=aa h;have j:=aa hK;have E:=aa ok;have C:=aa hQ;have q:Bw w (w.alloc (.cells (acs ⟨1,0⟩) 81)):=Bn;have i:=aa (di (h.keep q) ok ⟨1,0⟩ s);have I:=aa hs;obtain ⟨n,J⟩:∃n,D.balD ⟨1,0⟩ s=n:=⟨_,rfl⟩;rw [J] at i I;clear h ok hK hQ hs J;go_enter Tryz.func216,Tryz.ntmps216;go_wp2_with (first
  | (go_at_call 155;refine (aZ _).mono ?_;rintro e x1 ⟨rfl,rfl⟩)
  | (go_at_call 137;refine i.o.mono ?_;rintro e x2 ⟨rfl,F⟩;have m:=aa (q.trans (F.mono q.size));clear F)
  | (go_at_call 203;refine (dx (f.o.keep m.o) E.o s).mono ?_;rintro e Y ⟨V,rfl,x,H⟩;have l:=aa (m.o.trans (H.mono m.o.size));have U:=aa (Sl.own kLg x);obtain ⟨n3,k3,rfl⟩:=ag x;clear x H)
  | (go_at_call 269;refine (I.o _ _ U.o).mono ?_;rintro e W ⟨u1,Z,G,L,X,rfl,u,t,N,k⟩;have P:=aa (l.o.trans (N.mono l.o.size));have M:=aa (aw u l.o.size);have T:=aa (aw t l.o.size);have O:=aa k;have p:=aa (C.o G L k).1;have R:=aa (C.o G L k).2;have d:=aa (DSp.same (K:=K) f.o P.o);obtain ⟨m1,l1,rfl⟩:=ag u;obtain ⟨m2,l2,rfl⟩:=ag t;clear u t N k)
  | (go_at_call 270;refine (ja d.o.at' E.o (j.o.step d.o) (z5 hB d.o.mod.size) _ G _ M.o p.o.1 p.o.2 (by omega)).mono ?_;rintro e x5 ⟨A5,rfl,b⟩;have a:=aa (d.o.trans b);have r:=aa (ai M.o b.mod (by decide));have g:=aa (ai T.o b.mod (by decide));clear b)
  | (go_at_call 271;refine (ut a.o.gd a.o.at' (j.o.step a.o) (z5 hB a.o.mod.size) _ L _ g.o R.o.1 14 (by rw [gL];have:=p.o.1;omega)).mono ?_;rintro e x6 ⟨S,rfl,c⟩;have z:=aa (a.o.trans c);have y:=aa (ai r.o c.mod (by decide));have v:=aa (ai g.o c.mod (by decide));clear c))
 go_ret2;exact ⟨_,_,G,L,S,_,rfl,y.o,v.o,z.o,O.o,rfl⟩
end
end
end Go.Proofs.YtmhohaanddglbaaGreatDoor
