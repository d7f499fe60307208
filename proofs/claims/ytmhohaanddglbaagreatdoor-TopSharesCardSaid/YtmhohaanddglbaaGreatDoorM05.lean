/- Lemmas for TopShares and TopKept; no law is closed here. -/
import Derived.Test.YtmhohaanddglbaaGreatDoorM04
set_option linter.all false
set_option maxRecDepth 100000
set_option maxHeartbeats 16000000
namespace Go.Proofs.YtmhohaanddglbaaGreatDoor
open Go.RowKit Go.Proofs.Tryz ZA ZU ZI ZD ZP ZR ZT ZS ZE ZO
variable{p:Prop}
def Qal(h:p:=by
  go_enter func165,ntmps165;go_wp2_with(first
   |(go_at_call 112;refine(lG A.vm A.vs A.vc D.C _ G.o _).bC ?_;rintro e V⟨a,rfl,b⟩;rw[yc l.o];have R:=aa (b.alloc b.size (bH (eR a) 125));obtain⟨q,j,k,d⟩:=wH rfl (E.o.keep R.o);have f:=aa d;clear d)
   |(go_at_call 161;refine(uA _ D.who m _ f.o i).bC ?_;rintro e g⟨rfl,rfl⟩;rw[z.o]))
  go_ret;exact⟨_,rfl,R.o⟩):p:=h
def QaT(h:p:=by exact⟨ab.os,ab.tape,ab.output,ab.size,ab.block⟩):p:=h
def QaV(h:p:=by clear g d;go_enter func334,ntmps334;go_wp2_with(go_at_call 295;refine G.o.bC ?_;rintro e i⟨rfl,a⟩;rw[U.o];have s:=(a.c (p:=(b,m+1)) h).bu E);go_ret;exact⟨by rw[Z.o];rfl,a⟩):p:=h
def Qbf(h:p:=by go_enter func334,ntmps334;go_wp2_with(go_at_call 295;refine G.o.bC ?_;rintro e i⟨rfl,a⟩;rw[U.o]);go_ret;exact⟨by rw[d.o];rfl,a⟩):p:=h
def Qbk(h:p:=by go_ret2;exact⟨_,by rw[f.o];rfl,by rw[f.o];exact qC _ _ _ _ _,J.o⟩):p:=h
def QbQ(h:p:=by
  have:=uk vK underlying409 bd zeroValue45 W M _ m (h.mid.map.heap hW)
  rw[hL]at this;exact this):p:=h
def Qb5(h:p:=by go_wp2;go_roundw;exact⟨k+1,O,af,aw,by rw[ai.o,HE.o];exact aq.o,aj.o⟩;exact eZ af):p:=h
def Qcd(h:p:=by have:=ab.o.at'.who;rw[al.o]at this;exact Sl.own kI this):p:=h
def Qcs(h:p:=by
  rintro e W3⟨rfl,S⟩;gi_wp2
  go_roundw;exact⟨k+1,af,aw,S⟩;exact aV):p:=h
def Qc1(h:p:=by rw[<-j.o.gv];exact jC j.o.gd j.o.at'):p:=h
def Qdp(h:p:=by go_wp2;go_end0;exact⟨rfl,by rw[H.o];exact G.o,i.o⟩):p:=h
section
open Go.Shelf
attribute [local go_sem] Oper.semAt_some
structure qG(W:World)(bo bp:Nat)(vc vf vo:Value)(p:Pl)(out:List Int):Prop where
 pl:nx W vc vf p
 o:Sl eI 1 W vo out
 bp:bI W bp 340 (jw vc vf p)
 bo:bI W bo 74 #[vo]
 mem:∀x∈out,0<x/\x<=(p.cw:Int)
 c64:ep p.cw
 f64:ep p.cI
 lR:bO p.line
 jR:bO p.cap
def Ag(W:bD)(k m n:Int)(hn:bO n):mC (aZ W (nt ⟨k,m,n⟩) 343) (.slice (some (be W 0)) 1 1) [⟨k,m,n⟩]:=⟨Sl.fg i9 sS W 343 _ rfl _ rfl,au,fun x hx=>by simp at hx;subst hx;exact hn⟩
variable{m l:Nat}
def JK(h:m<l)(h2:l<=16):wrap64 m=(m:Int):=jF _ af
def JL(n:Nat)(vc vf:bE)(ao:Option Addr)(lo ko:Nat)(p:Pl)(w:bD):CallsIn Fence.wide n prog 326 #[rq vc vf p,.slice ao lo ko] w fun e w'=>e=.returned (.func (.func 355) #[] #[ptr (w.heap.size+1),ptr w.heap.size])/\w'=(w.alloc (bH (jw vc vf p) 340)).alloc (bH #[.slice ao lo ko] 74):=by
 have s:Fence.wide.fn 326:=trivial;refine callsIn_of_wp func326 rfl s ?_ rfl;simp only[ntmps326,mN,gL,jE,Nat.reduceAdd,Nat.reduceSub,uU,uT,uW,uV,lU,rY];gi_wp2
 go_ret;exact⟨rfl,rfl⟩
def qH:Code->Code
 |.seq _ y=>y
 |c=>c
def te:Code->Code
 |.seq x _=>x
 |c=>c
section
variable {n:Nat} {bo bp:Nat} {a1 a2 no:Option Addr} {k1 k2 ko:Nat} {p:Pl} {out:List Int} {l:Nat} {J:Nat->World->Prop}
def V6(hn:1<=n)(ho:out.length<=1000)(h16:p.cw.length<=16)(HJ:Hid (∀k A B,J k A->Bw A B->J k B))(HI:Hid (∀k W,J k W->qG W bo bp (.slice a1 p.cw k1) (.slice a2 p.cw k2) (.slice no out ko) p out))(HY:Hid (∀k v s W,k<out.length+out.length+3->J k W->mC W v s->YieldAt Fence.wide (n-1) prog l #[v] W fun e W'=>e=.returned (.bool true)/\J (k+1) W'))(Q:Exit->Act->bD->Prop)(u3 u4 u5 u6 u7 u8 u9 u10 u11 u12 u13 u14 u15 u16 u17 u18 u19 u20 u21 u22 u23 u24 u25 u26 u27 u28 u29 u30 u31 u32 u33 u34 u35 u36 u37 u38 u39 u40 u41 u42 u43 u44 u45 u46 u47 u48 u49 u50 u51 u52 u53 u54 u55 u56 u57 u58 u59 u60 u61 u62 u63 u64 u65 u66 u67 u68 u69 u70 u71 u72 u73 u74 u75 u76 u77 u78 u79 u80 u81 u82 u83 u84 u85:bE)(W:bD)(HW:Hid (J 0 W))(hQ:Hid (∀(u3 u4 u5 u6 u7 u8 u9 u10 u11 u12 u13 u14 u15 u16 u17 u18 u19 u20 u21 u22 u23 u24 u25 u26 u27 u28 u29 u30 u31 u32 u33 u34 u35 u36 u37 u38 u39 u40 u41 u42 u43 u44 u45 u46 u47 u48 u49 u50 u51 u52 u53 u54 u55 u56 u57 u58 u59 u60 u61 u62 u63 u64 u65 u66 u67 u68 u69 u70 u71 u72 u73 u74 u75 u76 u77 u78 u79 u80 u81 u82 u83 u84 u85:bE) (W2:bD),J out W2->Q .normal ⟨#[.func (.yield l) #[] #[],ptr bo,ptr bp,u3,u4,u5,u6,u7,u8,u9,u10,u11,u12,u13,u14,u15,u16,u17,u18,u19,u20,u21,u22,u23,u24,u25,u26,u27,u28,u29,u30,u31,u32,u33,u34,u35,u36,u37,u38,u39,u40,u41,u42,u43,u44,u45,u46,u47,u48,u49,u50,u51,u52,u53,u54,u55,u56,u57,u58,u59,u60,u61,u62,u63,u64,u65,u66,u67,u68,u69,u70,u71,u72,u73,u74,u75,u76,u77,u78,u79,u80,u81,u82,u83,u84,u85],[]⟩ W2)):
  Code.wpIn Fence.wide n prog (te (f355.body.getD .skip)) Q ⟨#[.func (.yield l) #[] #[],ptr bo,ptr bp,u3,u4,u5,u6,u7,u8,u9,u10,u11,u12,u13,u14,u15,u16,u17,u18,u19,u20,u21,u22,u23,u24,u25,u26,u27,u28,u29,u30,u31,u32,u33,u34,u35,u36,u37,u38,u39,u40,u41,u42,u43,u44,u45,u46,u47,u48,u49,u50,u51,u52,u53,u54,u55,u56,u57,u58,u59,u60,u61,u62,u63,u64,u65,u66,u67,u68,u69,u70,u71,u72,u73,u74,u75,u76,u77,u78,u79,u80,u81,u82,u83,u84,u85],[]⟩ W:=by
 have hF:Fence.wide.fn 355:=trivial;have ad:Fence.wide.fn 356:=trivial;have ab:Fence.wide.fn 192:=trivial;have f:Fence.wide.round=none:=rfl;have q0:=(HI.o _ _ HW.o).bo.c 0;simp only[f355,pB,te,qH];gi_wp2
 gi_loopw [13] (fun vi wr=>∃k:Nat,k<=out.length/\vi=.int .i64 (k:Int)/\J k wr) (aW out)
 exact⟨0,cH _,rfl,HW.o⟩;obtain⟨k,hk,rfl,I⟩:=hrel;have X:=aa I;have a:=HI.o _ _ I;clear I;by_cases h:k<out.length
 ·obtain⟨F,H,b,ac,rfl,y,z⟩:=a.o.hd;have L:=z k h 0 _ rfl;rw[gD,gg]at L;unfold maxLen at H;have O:0<=(k:Int):=af;have C:k<(out:Int):=af;have Z:=a.mem _ (cZ h);let⟨m,r⟩:∃m:Nat,out[k]=(m:Int)+1:=⟨(out[k]-1).toNat,af⟩;rw[r]at L Z;have u:m<p.cw:=af;have t:m<p.cw:=u;obtain⟨x,D,V,Y,rfl,U,K⟩:=a.pl.c.hd;have R:=K m t 0 _ rfl;rw[gD,gg]at R;unfold maxLen at D;have d:=aa (a.c64 _ (cZ t));let⟨c,P⟩:=aH (p.cw[m]);rw[P]at R d;have j:=a.bp.c 0;have G:0<=(m:Int):=ub m;have g:m<(p.cw:Int):=adb.2 u;have q:=aa (HY.o k (.slice (some (be wr 0)) 1 1) [⟨8,(m:Int)+1,c⟩] _ af (HJ.o _ _ _ X.o aI) (Ag wr 8 ((m:Int)+1) c d.o));clear a z K r P;let⟨E,T,N,body,hy,M⟩:=q.o;clear q;have q:=aa M;clear M;gi_wp2_with (gi_at_call 356;refine(callsIn_wide.2 (zQ 8 ((m:Int)+1) c wr)).mono ?_;rintro e w2⟨rfl,rfl⟩)
  refine q.o.mono ?_;exact Qcs
 ·obtain rfl:k=out.length:=af;have i:¬(out.length<(out:Int)):=af;clear a;gi_wp2
  exact hQ.o _ _ _ _ _ _ _ _ _ _ _ _ _ _ _ _ _ _ _ _ _ _ _ _ _ _ _ _ _ _ _ _ _ _ _ _ _ _ _ _ _ _ _ _ _ _ _ _ _ _ _ _ _ _ _ _ _ _ _ _ _ _ _ _ _ _ _ _ _ _ _ _ _ _ _ _ _ _ _ _ _ _ _ wr X.o
def V7(hn:1<=n)(ho:out.length<=1000)(h16:p.cw.length<=16)(HJ:Hid (∀k A B,J k A->Bw A B->J k B))(HI:Hid (∀k W,J k W->qG W bo bp (.slice a1 p.cw k1) (.slice a2 p.cw k2) (.slice no out ko) p out))(HY:Hid (∀k v s W,k<out.length+out.length+3->J k W->mC W v s->YieldAt Fence.wide (n-1) prog l #[v] W fun e W'=>e=.returned (.bool true)/\J (k+1) W'))(Q:Exit->Act->bD->Prop)(u3 u4 u5 u6 u7 u8 u9 u10 u11 u12 u13 u14 u15 u16 u17 u18 u19 u20 u21 u22 u23 u24 u25 u26 u27 u28 u29 u30 u31 u32 u33 u34 u35 u36 u37 u38 u39 u40 u41 u42 u43 u44 u45 u46 u47 u48 u49 u50 u51 u52 u53 u54 u55 u56 u57 u58 u59 u60 u61 u62 u63 u64 u65 u66 u67 u68 u69 u70 u71 u72 u73 u74 u75 u76 u77 u78 u79 u80 u81 u82 u83 u84 u85:bE)(W:bD)(HW:Hid (J out W))(hQ:Hid (∀(u3 u4 u5 u6 u7 u8 u9 u10 u11 u12 u13 u14 u15 u16 u17 u18 u19 u20 u21 u22 u23 u24 u25 u26 u27 u28 u29 u30 u31 u32 u33 u34 u35 u36 u37 u38 u39 u40 u41 u42 u43 u44 u45 u46 u47 u48 u49 u50 u51 u52 u53 u54 u55 u56 u57 u58 u59 u60 u61 u62 u63 u64 u65 u66 u67 u68 u69 u70 u71 u72 u73 u74 u75 u76 u77 u78 u79 u80 u81 u82 u83 u84 u85:bE) (W2:bD),J (out.length+out.length) W2->Q .normal ⟨#[.func (.yield l) #[] #[],ptr bo,ptr bp,u3,u4,u5,u6,u7,u8,u9,u10,u11,u12,u13,u14,u15,u16,u17,u18,u19,u20,u21,u22,u23,u24,u25,u26,u27,u28,u29,u30,u31,u32,u33,u34,u35,u36,u37,u38,u39,u40,u41,u42,u43,u44,u45,u46,u47,u48,u49,u50,u51,u52,u53,u54,u55,u56,u57,u58,u59,u60,u61,u62,u63,u64,u65,u66,u67,u68,u69,u70,u71,u72,u73,u74,u75,u76,u77,u78,u79,u80,u81,u82,u83,u84,u85],[]⟩ W2)):
  Code.wpIn Fence.wide n prog (te (qH (f355.body.getD .skip))) Q ⟨#[.func (.yield l) #[] #[],ptr bo,ptr bp,u3,u4,u5,u6,u7,u8,u9,u10,u11,u12,u13,u14,u15,u16,u17,u18,u19,u20,u21,u22,u23,u24,u25,u26,u27,u28,u29,u30,u31,u32,u33,u34,u35,u36,u37,u38,u39,u40,u41,u42,u43,u44,u45,u46,u47,u48,u49,u50,u51,u52,u53,u54,u55,u56,u57,u58,u59,u60,u61,u62,u63,u64,u65,u66,u67,u68,u69,u70,u71,u72,u73,u74,u75,u76,u77,u78,u79,u80,u81,u82,u83,u84,u85],[]⟩ W:=by
 have hF:Fence.wide.fn 355:=trivial;have ai:Fence.wide.fn 356:=trivial;have ag:Fence.wide.fn 192:=trivial;have ae:Fence.wide.round=none:=rfl;have E:=(HI.o _ _ HW.o).bo.c 0;simp only[f355,pB,te,qH];gi_wp2
 gi_loopw [31] (fun vi wr=>∃k:Nat,k<=out.length/\vi=.int .i64 (k:Int)/\J (out.length+k) wr) (aW out)
 exact⟨0,cH _,rfl,HW.o⟩;obtain⟨k,hk,rfl,hj⟩:=hrel;have L:=aa hj;have a:=HI.o _ _ hj;clear hj;by_cases z:k<out.length
 ·obtain⟨F,ab,b,ah,rfl,y,X⟩:=a.o.hd;have r0:=X k z 0 _ rfl;rw[gD,gg]at r0;unfold maxLen at ab;have O:0<=(k:Int):=af;have C:k<(out:Int):=af;have Z:=a.mem _ (cZ z);let⟨m,R⟩:∃m:Nat,out[k]=(m:Int)+1:=⟨(out[k]-1).toNat,af⟩;rw[R]at r0 Z;have u:m<p.cw:=af;have t:m<p.cI:=by have:=a.pl.e;omega
  let⟨D,H,T,_,x,Y,I⟩:=a.pl.f;obtain⟨e1,r⟩:a2=D/\k2=H:=by have h:=T;rw[<-a.pl.e]at h;simpa using h
  subst e1 r;obtain⟨V,ad,rfl,U,K⟩:=I af;have s0:=K m t 0 _ rfl;rw[gD,gg]at s0;unfold maxLen at Y;have d:=aa (a.f64 _ (cZ t));let⟨c,P⟩:=aH (p.cI[m]);rw[P]at s0 d;have j:=a.bp.c 1;have G:0<=(m:Int):=ub m;have g:m<(p.cw:Int):=adb.2 u;have q:=aa (HY.o (out.length+k) (.slice (some (be wr 0)) 1 1) [⟨9,(m:Int)+1,c⟩] _ af (HJ.o _ _ _ L.o aI) (Ag wr 9 ((m:Int)+1) c d.o));clear a X T I K R P;let⟨fn,ac,N,body,hy,M⟩:=q.o;clear q;have q:=aa M;clear M;gi_wp2_with (gi_at_call 356;refine(callsIn_wide.2 (zQ 9 ((m:Int)+1) c wr)).mono ?_;rintro e w2⟨rfl,rfl⟩)
  refine q.o.mono ?_;exact Qcs
 ·obtain rfl:k=out.length:=af;have i:¬(out.length<(out:Int)):=af;clear a;gi_wp2
  exact hQ.o _ _ _ _ _ _ _ _ _ _ _ _ _ _ _ _ _ _ _ _ _ _ _ _ _ _ _ _ _ _ _ _ _ _ _ _ _ _ _ _ _ _ _ _ _ _ _ _ _ _ _ _ _ _ _ _ _ _ _ _ _ _ _ _ _ _ _ _ _ _ _ _ _ _ _ _ _ _ _ _ _ _ _ wr L.o
def V8(Q:Exit->Act->bD->Prop)(u3 u4 u5 u6 u7 u8 u9 u10 u11 u12 u13 u14 u15 u16 u17 u18 u19 u20 u21 u22 u23 u24 u25 u26 u27 u28 u29 u30 u31 u32 u33 u34 u35 u36 u37 u38 u39 u40 u41 u42 u43 u44 u45 u46 u47 u48 u49 u50 u51 u52 u53 u54 u55 u56 u57 u58 u59 u60 u61 u62 u63 u64 u65 u66 u67 u68 u69 u70 u71 u72 u73 u74 u75 u76 u77 u78 u79 u80 u81 u82 u83 u84 u85:bE)(W:bD)(hQ:Hid (Q .normal ⟨#[.func (.yield l) #[] #[],ptr bo,ptr bp,u3,u4,u5,u6,u7,bd,u9,u10,u11,u12,u13,u14,u15,u16,u17,u18,u19,u20,u21,u22,u23,u24,u25,u26,u27,u28,u29,u30,u31,u32,u33,u34,u35,u36,u37,u38,u39,u40,u41,u42,u43,u44,u45,u46,u47,u48,u49,u50,u51,u52,u53,u54,u55,u56,u57,u58,u59,u60,u61,u62,u63,u64,u65,u66,u67,u68,u69,u70,u71,u72,u73,u74,u75,u76,u77,u78,u79,u80,u81,u82,u83,u84,u85],[]⟩ W)):
  Code.wpIn Fence.wide n prog (te (qH (qH (f355.body.getD .skip)))) Q ⟨#[.func (.yield l) #[] #[],ptr bo,ptr bp,u3,u4,u5,u6,u7,u8,u9,u10,u11,u12,u13,u14,u15,u16,u17,u18,u19,u20,u21,u22,u23,u24,u25,u26,u27,u28,u29,u30,u31,u32,u33,u34,u35,u36,u37,u38,u39,u40,u41,u42,u43,u44,u45,u46,u47,u48,u49,u50,u51,u52,u53,u54,u55,u56,u57,u58,u59,u60,u61,u62,u63,u64,u65,u66,u67,u68,u69,u70,u71,u72,u73,u74,u75,u76,u77,u78,u79,u80,u81,u82,u83,u84,u85],[]⟩ W:=by
 simp only[f355,pB,te,qH];gi_wp2
 exact hQ.o
def V9(hn:1<=n)(ho:out.length<=1000)(h16:p.cw.length<=16)(HJ:Hid (∀k A B,J k A->Bw A B->J k B))(HI:Hid (∀k W,J k W->qG W bo bp (.slice a1 p.cw k1) (.slice a2 p.cw k2) (.slice no out ko) p out))(HY:Hid (∀k v s W,k<out.length+out.length+3->J k W->mC W v s->YieldAt Fence.wide (n-1) prog l #[v] W fun e W'=>e=.returned (.bool true)/\J (k+1) W'))(Q:Exit->Act->bD->Prop)(u3 u4 u5 u6 u7 u9 u10 u11 u12 u13 u14 u15 u16 u17 u18 u19 u20 u21 u22 u23 u24 u25 u26 u27 u28 u29 u30 u31 u32 u33 u34 u35 u36 u37 u38 u39 u40 u41 u42 u43 u44 u45 u46 u47 u48 u49 u50 u51 u52 u53 u54 u55 u56 u57 u58 u59 u60 u61 u62 u63 u64 u65 u66 u67 u68 u69 u70 u71 u72 u73 u74 u75 u76 u77 u78 u79 u80 u81 u82 u83 u84 u85:bE)(W:bD)(HW:Hid (J (out.length+out.length) W))(hQ:Hid (∀(u3 u4 u5 u6 u7 u9 u10 u11 u12 u13 u14 u15 u16 u17 u18 u19 u20 u21 u22 u23 u24 u25 u26 u27 u28 u29 u30 u31 u32 u33 u34 u35 u36 u37 u38 u39 u40 u41 u42 u43 u44 u45 u46 u47 u48 u49 u50 u51 u52 u53 u54 u55 u56 u57 u58 u59 u60 u61 u62 u63 u64 u65 u66 u67 u68 u69 u70 u71 u72 u73 u74 u75 u76 u77 u78 u79 u80 u81 u82 u83 u84 u85:bE) (W2:bD) (n8:Option Addr) (k8:Nat) (L:bF Dr),Bw W W2->W2.ownsRow W.heap.size 343 3 (.slice n8 L k8) L (bN i9 L)->L.length<=p.cw.length->pQ L->Q .normal ⟨#[.func (.yield l) #[] #[],ptr bo,ptr bp,u3,u4,u5,u6,u7,.slice n8 L k8,u9,u10,u11,u12,u13,u14,u15,u16,u17,u18,u19,u20,u21,u22,u23,u24,u25,u26,u27,u28,u29,u30,u31,u32,u33,u34,u35,u36,u37,u38,u39,u40,u41,u42,u43,u44,u45,u46,u47,u48,u49,u50,u51,u52,u53,u54,u55,u56,u57,u58,u59,u60,u61,u62,u63,u64,u65,u66,u67,u68,u69,u70,u71,u72,u73,u74,u75,u76,u77,u78,u79,u80,u81,u82,u83,u84,u85],[]⟩ W2)):
  Code.wpIn Fence.wide n prog (te (qH (qH (qH (f355.body.getD .skip))))) Q ⟨#[.func (.yield l) #[] #[],ptr bo,ptr bp,u3,u4,u5,u6,u7,bd,u9,u10,u11,u12,u13,u14,u15,u16,u17,u18,u19,u20,u21,u22,u23,u24,u25,u26,u27,u28,u29,u30,u31,u32,u33,u34,u35,u36,u37,u38,u39,u40,u41,u42,u43,u44,u45,u46,u47,u48,u49,u50,u51,u52,u53,u54,u55,u56,u57,u58,u59,u60,u61,u62,u63,u64,u65,u66,u67,u68,u69,u70,u71,u72,u73,u74,u75,u76,u77,u78,u79,u80,u81,u82,u83,u84,u85],[]⟩ W:=by
 have hF:Fence.wide.fn 355:=trivial;have ao:Fence.wide.fn 356:=trivial;have an:Fence.wide.fn 192:=trivial;have al:Fence.wide.round=none:=rfl;have S3:=HI.o _ _ HW.o;have q1:=S3.bp.c 1;let⟨G,gi,N,b,S⟩:=wm Dz;have y:p.cI.length=p.cw.length:=S3.pl.e.symm;have m:=aa y;have Z:=S3.pl.f;clear S3 y;simp only[f355,pB,te,qH];gi_wp2
 gi_loopw [8,50] (fun vr vi wr=>Bw W wr/\∃(k:Nat) (L:bF Dr),k<=p.cw.length/\vi=.int .i64 (k:Int)/\wr.ownsRow W.heap.size 343 3 vr L (bN i9 L)/\L.length<=k/\pQ L) (fun _ vi _=>p.cw.length-(intOf vi).toNat)
 exact⟨bM _ _,0,[],cH _,rfl,mQ _ _ _ _,cH _,nofun⟩;obtain⟨u,k,L,hk,rfl,a,ai,F⟩:=hrel;let⟨HB,HO,E⟩:=Jh3 u a F;have g:=u.size;have ae:=aa (HJ.o _ _ _ HW.o u);have S1:=HI.o _ _ ae.o;obtain⟨n8,k8,rfl⟩:=bV a;clear u a F;by_cases ad:k<p.cw.length
 ·have t:k<p.cI.length:=by have:=S1.pl.e;omega
  let⟨D,H,T,_,am,ag,ab⟩:=S1.pl.f;obtain⟨e1,r⟩:a2=D/\k2=H:=by have h:=T;rw[<-S1.pl.e]at h;simpa using h
  subst e1 r;obtain⟨V,ak,rfl,U,K⟩:=ab af;have s0:=K k t 0 _ rfl;rw[gD,gg]at s0;unfold maxLen at ag;have d:=aa (S1.f64 _ (cZ t));let⟨c,P⟩:=aH (p.cI[k]);rw[P]at s0 d;have p0:=S1.bo.c 0;have ac:=aa (H4 _ out ((k:Int)+1) wr S1.o af);have O:0<=(k:Int):=ub k;have C:k<(p.cw:Int):=adb.2 ad;clear S1 T ab K P;cases hh:iR out ((k:Int)+1)
  ·gi_wp2_with (first
    |(gi_at_call 192;refine(callsIn_wide.2 ac.o).bC ?_;rintro e w2⟨rfl,rfl⟩;rw[hh])
    |(gi_at_builtin;refine wpListIn_append_own _ rfl _ _ 396 rfl W.heap.size 343 G (.agg #[(),(),()]) 3 24 underlying396 gi N b S rfl ah (.slice n8 L k8) L (bN i9 L) rfl (HO.o.alloc _) (be w2 0) 1 1 (i9 ⟨9,(k:Int)+1,c⟩) rfl rfl (Tg w2 ⟨9,(k:Int)+1,c⟩ _ rfl) (Dy _) az af aA ?_;intro j X R Y _;have I:=aa R;have HG:=aa Y;obtain⟨M,z,rfl⟩:=ownsRow_succ R;clear R Y))
   have aj:=(HB.o.alloc g (bH (nt ⟨9,(k:Int)+1,c⟩) 343)).grown HG.o aA (fun q hq=>(HO.o.lt q hq).1);go_roundw
   case rel=>exact⟨aj,k+1,L++[⟨9,(k:Int)+1,c⟩],af,aw,by rw[cO,show bN i9 (L++[⟨9,(k:Int)+1,c⟩])=bN i9 L++i9 ⟨9,(k:Int)+1,c⟩from aK];exact I.o,by rw[cO,eN];omega,fun x hx=>by
    rcases xq.1 hx with hx|hx
    ·exact E.o x hx
    ·simp at hx;subst hx;exact d.o⟩
   case measure=>exact aV
  ·gi_wp2_with (gi_at_call 192;refine(callsIn_wide.2 ac.o).bC ?_;rintro e w2⟨rfl,rfl⟩;rw[hh])
   go_roundw;exact⟨HB.o,k+1,L,af,aw,HO.o,af,E.o⟩;exact aV
 ·obtain rfl:k=p.cw.length:=af;have i:¬(p.cw.length<(p.cw:Int)):=af;clear S1;gi_wp2
  exact hQ.o _ _ _ _ _ _ _ _ _ _ _ _ _ _ _ _ _ _ _ _ _ _ _ _ _ _ _ _ _ _ _ _ _ _ _ _ _ _ _ _ _ _ _ _ _ _ _ _ _ _ _ _ _ _ _ _ _ _ _ _ _ _ _ _ _ _ _ _ _ _ _ _ _ _ _ _ _ _ _ _ _ _ wr n8 k8 L HB.o HO.o ai E.o
end
def JM(n:Nat)(hn:1<=n)(bo bp:Nat)(vc vf vo:bE)(p:Pl)(out:bF Int)(ho:out.length<=1000)(I:bD->Prop)(hI:∀W,I W->qG W bo bp vc vf vo p out):JI Fence.wide n prog 355 #[ptr bo,ptr bp] (out.length+out.length+3) I:=by
 intro l J hJ j H W hW;have s:Fence.wide.fn 355:=trivial;have v:Fence.wide.fn 356:=trivial;have B:Fence.wide.fn 192:=trivial;have f:Fence.wide.round=none:=rfl;have i:=hI W (j 0 W hW);obtain⟨a1,K,a2,k2,rfl,rfl⟩:=i.pl.forms;have u:=i.pl.n;have D:=aa i;have b:Hid (∀k W,J k W->qG W bo bp (.slice a1 p.cw K) (.slice a2 p.cw k2) vo p out):=aa (fun k W h=>hI W (j k W h));let⟨U,z,O⟩:=Jh3 H hJ hW;obtain⟨V,ko,rfl,_⟩:=i.o;clear i hI j H hJ hW;refine callsIn_of_wp func355 rfl s ?_ f;simp only[ntmps355,mN,gL,jE,Nat.reduceAdd,Nat.reduceSub,uU,uT,uW,uV,lU,rY];refine wpIn_seq (V6 hn ho u z b U _ _ _ _ _ _ _ _ _ _ _ _ _ _ _ _ _ _ _ _ _ _ _ _ _ _ _ _ _ _ _ _ _ _ _ _ _ _ _ _ _ _ _ _ _ _ _ _ _ _ _ _ _ _ _ _ _ _ _ _ _ _ _ _ _ _ _ _ _ _ _ _ _ _ _ _ _ _ _ _ _ _ _ _ W O (aa fun x3 x4 x5 x6 x7 x8 x9 x10 x11 x12 x13 x14 x15 x16 x17 x18 x19 x20 x21 x22 x23 x24 x25 x26 x27 x28 x29 x30 x31 x32 x33 x34 x35 x36 x37 x38 x39 x40 x41 x42 x43 x44 x45 x46 x47 x48 x49 x50 x51 x52 x53 x54 x55 x56 x57 x58 x59 x60 x61 x62 x63 x64 x65 x66 x67 x68 x69 x70 x71 x72 x73 x74 x75 x76 x77 x78 x79 x80 x81 x82 x83 x84 x85 W1 hj1=> ?_));refine wpIn_seq (V7 hn ho u z b U _ _ _ _ _ _ _ _ _ _ _ _ _ _ _ _ _ _ _ _ _ _ _ _ _ _ _ _ _ _ _ _ _ _ _ _ _ _ _ _ _ _ _ _ _ _ _ _ _ _ _ _ _ _ _ _ _ _ _ _ _ _ _ _ _ _ _ _ _ _ _ _ _ _ _ _ _ _ _ _ _ _ _ _ W1 (aa hj1) (aa fun u3 u4 u5 u6 u7 u8 u9 u10 u11 u12 u13 u14 u15 u16 u17 u18 u19 u20 u21 u22 u23 u24 u25 u26 u27 u28 u29 u30 u31 u32 u33 u34 u35 u36 u37 u38 u39 u40 u41 u42 u43 u44 u45 u46 u47 u48 u49 u50 u51 u52 u53 u54 u55 u56 u57 u58 u59 u60 u61 u62 u63 u64 u65 u66 u67 u68 u69 u70 u71 u72 u73 u74 u75 u76 u77 u78 u79 u80 u81 u82 u83 u84 u85 W2 hj2=> ?_));clear hj1 O W1 x3 x4 x5 x6 x7 x8 x9 x10 x11 x12 x13 x14 x15 x16 x17 x18 x19 x20 x21 x22 x23 x24 x25 x26 x27 x28 x29 x30 x31 x32 x33 x34 x35 x36 x37 x38 x39 x40 x41 x42 x43 x44 x45 x46 x47 x48 x49 x50 x51 x52 x53 x54 x55 x56 x57 x58 x59 x60 x61 x62 x63 x64 x65 x66 x67 x68 x69 x70 x71 x72 x73 x74 x75 x76 x77 x78 x79 x80 x81 x82 x83 x84 x85;have ac:=aa hj2;clear hj2;refine wpIn_seq (V8 _ _ _ _ _ _ _ _ _ _ _ _ _ _ _ _ _ _ _ _ _ _ _ _ _ _ _ _ _ _ _ _ _ _ _ _ _ _ _ _ _ _ _ _ _ _ _ _ _ _ _ _ _ _ _ _ _ _ _ _ _ _ _ _ _ _ _ _ _ _ _ _ _ _ _ _ _ _ _ _ _ _ _ _ W2 (aa ?_));refine wpIn_seq (V9 hn ho u z b U _ _ _ _ _ _ _ _ _ _ _ _ _ _ _ _ _ _ _ _ _ _ _ _ _ _ _ _ _ _ _ _ _ _ _ _ _ _ _ _ _ _ _ _ _ _ _ _ _ _ _ _ _ _ _ _ _ _ _ _ _ _ _ _ _ _ _ _ _ _ _ _ _ _ _ _ _ _ _ _ _ _ _ W2 ac (aa fun y3 y4 y5 y6 y7 y9 y10 y11 y12 y13 y14 y15 y16 y17 y18 y19 y20 y21 y22 y23 y24 y25 y26 y27 y28 y29 y30 y31 y32 y33 y34 y35 y36 y37 y38 y39 y40 y41 y42 y43 y44 y45 y46 y47 y48 y49 y50 y51 y52 y53 y54 y55 y56 y57 y58 y59 y60 y61 y62 y63 y64 y65 y66 y67 y68 y69 y70 y71 y72 y73 y74 y75 y76 y77 y78 y79 y80 y81 y82 y83 y84 y85 W3 n8 k8 L hb hown hk hLd=> ?_));let⟨q,Q,E⟩:=Jh3 (z.o _ _ _ ac.o hb) hown hLd;clear hb hown hLd;have X:=U.o (out.length+out.length) (.slice n8 L k8) L W3 af q.o ⟨Sl.own sS Q.o,af,E.o⟩;obtain⟨P,d,F,Y,R,g⟩:=X;have X:=aa g;clear g;gi_wp2
 refine X.o.mono ?_;rintro e W4⟨rfl,ab⟩;have m:=b.o _ _ ab;have s2:=m.bp.c 2;have T:=U.o (out.length+out.length+1) (.slice (some (be W4 0)) 1 1) [⟨3,0,p.line⟩] _ af (z.o _ _ _ ab aI) (Ag W4 3 0 p.line m.lR);obtain⟨ai,ag,Z,ad,S,G⟩:=T;have T:=aa G;clear G m R;gi_wp2_with (gi_at_call 356;refine(callsIn_wide.2 (zQ 3 0 p.line W4)).mono ?_;rintro e w2⟨rfl,rfl⟩)
 refine T.o.mono ?_;rintro e M⟨rfl,x⟩;have t:=b.o _ _ x;have s3:=t.bp.c 3;have y:=U.o (out.length+out.length+2) (.slice (some (be M 0)) 1 1) [⟨4,0,p.cap⟩] _ af (z.o _ _ _ x aI) (Ag M 4 0 p.cap t.jR);obtain⟨ah,a,C,ae,N,r⟩:=y;have y:=aa r;clear r t S;gi_wp2_with (gi_at_call 356;refine(callsIn_wide.2 (zQ 4 0 p.cap M)).mono ?_;rintro e w2⟨rfl,rfl⟩)
 refine y.o.mono ?_;rintro e W6⟨rfl,A⟩;gi_wp2
 refine bodyPost_end (results_none rfl _ _ _) rfl ?_;exact⟨⟨_,rfl⟩,A⟩
end
def Wa(t t2 e:TypeId)(ht:prog.underlying t=some (.slice e))(h2:prog.underlying t2=some (.slice e))(ty:TypeId)(s x:bE)(w:bD):(Builtin.append_ #[t,t2] ty #[s,x]).run prog w=(Builtin.append_ #[t,t] ty #[s,x]).run prog w:=by
 unfold Builtin.append_;simp only[li,List.getElem?_cons_zero,List.getElem?_cons_succ,Sem.run_bind,run_underlying ht,run_underlying h2,Result.andThen_ok];cases s with
 |slice b n c=>
  show Sem.run prog (sizeOf e>>=fun size=>underlying t2>>=fun u=>_) w=Sem.run prog (sizeOf e>>=fun size=>underlying t>>=fun u=>_) w;rw[Sem.run_bind,Sem.run_bind];congr 1;funext a w1
  rw[Sem.run_bind,Sem.run_bind,run_underlying ht,run_underlying h2]
 |_=>rfl
section
variable {α:Type} {enc:α->List Value} {k:Nat}
def Wb{ops:Array Oper}{rest:bF Oper}{o:Oper}{a:Act}{Q:Exit->Act->bD->Prop}(hk:∀x,(enc x).length=k)(h0:0<k)(hone:∀x,∀u∈enc x,u.oneCell'=true)(w:bD)(hgd:o.guard=none)(s x:Operand)(t t2:TypeId)(hop:o.op=.call {callee:=.builtin .append,args:=#[s,x],argTypes:=#[t,t2]})(base:Nat)(e:TypeId)(i:TypeInfo)(z:bE)(bytes:Nat)(ht:prog.underlying t=some (.slice e))(ht2:prog.underlying t2=some (.slice e))(hi:prog.info? e=some i)(hz:i.zero=some z)(hsize:i.size=k)(hby:i.bytes=bytes)(hzs:z.cells.size=k)(v:bE)(l:bF α)(hv:a.eval s=v)(ho:w.ownsRow base e k v l (bN enc l))(A:Option Addr)(c:Nat)(ev:bF α)(hx:a.eval x=.slice A ev c)(hs:Sl enc k w (.slice A ev c) ev)(h63:l.length+ev.length<=maxLen)(hbytes:(l.length+ev.length)*bytes<=140737488355328)(hbase:base<=w)(h:∀v' w',w'.ownsRow base e k v' (l++ev).length (bN enc (l++ev))->w.grownBy w' v.ownBlock->(v'.ownBlock=v.ownBlock∨v'.ownBlock=some w.heap.size)->wpList prog ops Q rest (a.put o.dst v') w'):wpList prog ops Q (o::rest) a w:=
 wpList_plain hgd fun K hK=>by
  obtain⟨v',w',hr,h2,h3,h5⟩:=GC hk h0 hone w base t o.type e i z bytes ht hi hz hsize hby hzs v l ho A c ev hs h63 hbytes hbase;rw[<-Wa t t2 e ht ht2]at hr;unfold Oper.wp execOp;simp only[hop,resolve,invoke,builtin,Sem.run_bind,Sem.run_pure,Result.andThen_ok,List.map_toArray,eu,nH,hv,hx,hr];exact hK _ _ (h v' w' h2 h3 h5)
end
section
open Go.Shelf
section
attribute [local go_sem↓] Go.wp_at_zero Go.wp_at_succ
def Wc(B b5 b9 n:Nat)(w:World)(e:Ending)(w':World):Prop:=∃(nd':Int) (v':Value) (R':List Dr),e=.returned (.tuple #[])/\bI w' b5 2 #[nd']/\bI w' b9 336 #[v']/\w'.ownsRow B 343 3 v' R' (bN i9 R')/\R'.length<=n+16/\pQ R'/\bO nd'/\cg B [2,336,343] [] w w'
variable{B b5 b9:Nat}{w:bD}{v:bE}
def We{nd:Int}{vs:bE}{R s:bF Dr}(h5:bI w b5 2 #[nd])(h9:bI w b9 336 #[v])(ho:w.ownsRow B 343 3 v R (bN i9 R))(hB5:B<=b5)(hB9:B<=b9)(hB:B<=w)(hs:mC w vs s)(hR:R.length<=100000)(hd:pQ R)(h64:bO nd):
  bG 323 #[vs,ptr b5,ptr b9] w (Wc B b5 b9 R w):=by
 have H:=aa (TA vs s nd w hs.at' hs.n hs.ok h64);have am:=hs.n;let⟨H5,H9,Q,E⟩:=Jh4 h5 h9 ho hd;have p5:=h5.c 0;obtain⟨T,F,rfl,_⟩:=hs.at';obtain⟨V,ko,rfl⟩:=bV ho;let⟨i1,L,N,ae,S⟩:=wm Dz;clear h5 h9 ho hs hd;go_enter func323,ntmps323;go_wp2_with fail;refine H.o.bC ?_;rintro e w1⟨u,G,rfl,Z,b,ap,d⟩;let⟨O1,t,ak⟩:=Jh3 Z b d;have P:=aa (fun(W:bD) (c:Bw w1 W)=>IB u G W ((Sl.own sS Z).keep c));obtain⟨ng,z,rfl⟩:=bV Z;let⟨P5,O⟩:=Jh2 (H5.o.keep b) (H9.o.keep b);have q5:=P5.o.c 0;have J:=P5.o.free 0;clear Z b d p5;go_wp2_with fail;have an:B<=w1:=bW hB t.o.size;go_region_with(go_at_call 325;refine(P.o w1.drew (bM _ _).drew).bC ?_;rintro e k⟨tt,rfl,al,f⟩;have C2:=aa (Dv f);have I:=aa (P5.o.keepD f);have j:=aa (O.o.keepD f);have D:=aa (sx O1.o f);have aj:=I.o.c 0;have ag:=I.o.free 0;clear f)
 all_goals
  let⟨q,m⟩:=aH (IntKind.i64.wrap (nd-tt));have NW:=aa (show bO q by rw[<-m,xE];unfold bO wrap64;omega);rw[m];have m3:cg B [2] [] k (k.setCell (be b5 0) (aY q)):=cg.set I.o au hB5 au;have M3:=aa m3;have ac:=aa (show bI (k.setCell (be b5 0) (aY q)) b5 2 #[aY q]from I.o.set 0 _);let⟨i,Y,ab⟩:=Jh3 (j.o.cu m3 ah) (dq D.o m3 ah) (dq (cJ (cJ Q.o t.o) C2.o) m3 ah);clear m3 q5 J aj ag m;generalize k.setCell (be b5 0) (aY q)=X at*;let⟨r9,ao,r⟩:=Jt3 (i.o.c 0) M3.o.size C2.o.size;have y:=aa (Sl.own sS Y.o);let⟨L9,g⟩:=aH ((R++G).length);have U:=aa g;have ai:Hid (L9<=R.length+16):=aa (by rw[<-g,cO];omega);clear g;go_wp2_with(at_builtin;refine Wb sS ah Dy _ rfl _ _ 336 396 rfl B 343 i1 (.agg #[(),(),()]) 24 underlying336 underlying396 L N ae S aB (.slice V R ko) R rfl ab.o ng z G rfl y.o (by show R.length+G.length<=maxLen;unfold maxLen;omega) (by show(R.length+G.length)*24<=_;omega) af ?_;intro v' w4 h l M;have M4:=aa (cg.grown (B:=B) (TS:=[343]) (K:=[]) ab.o l au (bL _) au);have a:=aa (i.o.cu M4.o ah);have p:=aa (ac.o.cu M4.o ah);have ad:=aa h;have C:=h;rw[U.o]at C;obtain⟨A,k3,rfl⟩:=bV C;have s9:=a.o.c 0;have h9:=a.o.free 0;clear l M h C);have m5:cg B [336] [] w4 (w4.setCell (be b9 0) (.slice A L9 k3)):=cg.set a.o au hB9 au;go_end0;exact⟨q,.slice A L9 k3,R++G,rfl,p.o.cu m5 ah,a.o.set 0 _,dq ad.o m5 ah,by rw[U.o];exact ai.o,fun x hx=>(by
   rcases xq.1 hx with hx|hx
   ·exact E.o x hx
   ·exact ak.o x hx),NW.o,((cg.below t.o).bu (cg.below C2.o)).bu ((M3.o.bC ah).bu ((M4.o.bC ah).bu (m5.bC ah)))⟩
end
end
section
open Go.Shelf
attribute [local go_sem] Oper.semAt_some
variable{B:Nat}
def Ah(W:bD)(l:Nat)(o:Obj)(h:B<=l):Below B W (W.putObj l o):=⟨rfl,rfl,rfl,Nat.le_of_eq World.putObj_size.symm,fun k hk=>xv af⟩
variable{W:bD}{g l:Nat}{o':Obj}
def tg{T:Nat}{cs:Array bE}(h:bI W g T cs)(hl:∃o,W.heap[l]?=some o/\o.isCells=false):bI (W.putObj l o') g T cs:=by
 refine(xv ?_).bu h;rintro rfl;obtain⟨o,d,c⟩:=hl;unfold bI at h;rw[h]at d;cases d
 cases c
variable{TS:bF TypeId}{K:bF Nat}{W':bD}
def cg.keeps(m:cg B TS K W W'):KeepsOthers W W':=⟨m.size,fun k o hk ho=>(m.far k (Fz.1 hk).1 (ci (ci fun cs T fr e=>by rw[hk]at e;cases e;cases ho))).bu hk⟩
structure th(w:World)(b5 b9 b10 bo bp:Nat)(vc vf vo:Value)(p:Pl)(k:Nat)(W:World):Prop where
 eK:Bw w W
 o:bI W bo 74 #[vo]
 p:bI W bp 340 (jw vc vf p)
 f:bI W b10 399 #[.func (.func 323) #[] #[ptr b5,ptr b9]]
 r:∃(nd:Int) (v:Value) (R:List Dr),bI W b5 2 #[nd]/\bI W b9 336 #[v]/\W.ownsRow w 343 3 v R (bN i9 R)/\R.length<=16*k/\pQ R/\bO nd
variable{w:bD}{b5 b9 bo bp k:Nat}{vc vf vo:bE}{p:Pl}
def th.keep{b10:Nat}(h:th w b5 b9 b10 bo bp vc vf vo p k W)(c:Bw W W'):th w b5 b9 b10 bo bp vc vf vo p k W':=by let⟨H,v,R,d,a,x,M⟩:=h.r;exact⟨h.eK.bu (c.bC h.eK.size),h.o.keep c,h.p.keep c,h.f.keep c,H,v,R,d.keep c,a.keep c,cJ x c,M⟩
def th.putObj{b10:Nat}(h:th w b5 b9 b10 bo bp vc vf vo p k W)(hw:w.heap.size<=l)(hl:∃o,W.heap[l]?=some o/\o.isCells=false):th w b5 b9 b10 bo bp vc vf vo p k (W.putObj l o'):=by let⟨H,v,R,d,c,x,M⟩:=h.r;obtain⟨o,J,P⟩:=hl;exact⟨h.eK.bu (Ah _ _ _ hw),tg h.o ⟨o,J,P⟩,tg h.p ⟨o,J,P⟩,tg h.f ⟨o,J,P⟩,H,v,R,tg d ⟨o,J,P⟩,tg c ⟨o,J,P⟩,ownsRow_putObj x _ J P,M⟩
def Wf(n:Nat)(w:World)(e:Ending)(w':World):Prop:=∃v R y,e=.returned (.tuple #[v,aY y])/\w'.ownsRow w.heap.size 343 3 v R.length (bN i9 R)/\R.length<=n/\pQ R/\Bw w w'
def Wg(vc vf vo:bE)(p:Pl)(out:bF Int)(need:Int)(w:bD)(h:nx w vc vf p)(ho:Sl eI 1 w vo out)(hn:out.length<=1000)(c64:ep p.cw)(f64:ep p.cI)(lR:bO p.line)(jR:bO p.cap)(h64:bO need):
  bG 262 #[rq vc vf p,vo,need] w (Wf (16*(out.length+out.length+3)) w):=by
 refine(callsIn_wide (n:=9)).1 ?_;have hF:Fence.wide.fn 262:=trivial;have aC:Fence.wide.fn 322:=trivial;have az:Fence.wide.fn 326:=trivial;have aA:Fence.wide.fn 323:=trivial;have am:Fence.wide.round=none:=rfl;have C:Bw w ((w.alloc (bH (jw vc vf p) 340)).alloc (bH #[need] 2)):=aI.alloc au _;have ar:=aa (IA vc vf vo p out _ (h.keep C) (ho.keep C));have N:Hid (bI ((w.alloc (bH (jw vc vf p) 340)).alloc (bH #[need] 2)) w 340 (jw vc vf p)):=aa ((bI.new w 340 _).alloc _);have I:Hid (bI ((w.alloc (bH (jw vc vf p) 340)).alloc (bH #[need] 2)) (w.heap.size+1) 2 #[need]):=aa (heap_alloc2_new _ _ _);let⟨HP,Q,Z,ae,CA⟩:=Jh5 h ho h64 (ch c64 (ch f64 (ch lR jR))) C;obtain⟨a1,k1,a2,U,rfl,rfl⟩:=h.forms;obtain⟨V,d,rfl,_⟩:=ho;refine callsIn_of_wp_marks func262 rfl hF ?_ am;simp only[ntmps262,mN,gL,jE,Nat.reduceAdd,Nat.reduceSub,uU,uT,uW,uV,lU,rY];let⟨p0,p1,Y,p3⟩:=N.o.k4 0 1 2 3;clear h h64 c64 f64 lR jR C;gi_wp2_with fail
 refine(callsIn_wide.2 ar.o).bC ?_;rintro e i⟨y,rfl,b,S⟩;let⟨C1,J,N1,G⟩:=Jh4 (CA.o.bu (b.bC CA.o.size)) (N.o.keep b) (I.o.keep b) S;clear p0 p1 Y p3 S b;by_cases hy:y=0
 rotate_left
 ·have ay:(y !=0)=true:=aG hy;clear hy;gi_wp2
  exact⟨.tuple #[bd,y],by simp[results,results262,go_sem],bd,[],y,rfl,mQ _ _ _ _,cH _,(nofun),C1.o⟩
 have HM:=aa (G.o hy);subst hy;have n0:=N1.o.c 0;by_cases a:need<0
 ·have d1:=dT a;clear a;gi_wp2
  exact⟨.tuple #[bd,(1:Int)],by simp[results,results262,go_sem],bd,[],1,rfl,mQ _ _ _ _,cH _,(nofun),C1.o⟩
 have d1:=dF a;clear a;have c2:Bw i ((i.alloc (bH #[bd] 336)).alloc (bH #[.func (.func 323) #[] #[ptr (w.heap.size+1),ptr i.heap.size]] 399)):=aI.alloc au _;have HL:=aa ((bI.new i 336 #[bd]).alloc (bH #[.func (.func 323) #[] #[ptr (w.heap.size+1),ptr i.heap.size]] 399));have q:Hid (bI ((i.alloc (bH #[bd] 336)).alloc (bH #[.func (.func 323) #[] #[ptr (w.heap.size+1),ptr i.heap.size]] 399)) (i.heap.size+1) 399 #[.func (.func 323) #[] #[ptr (w.heap.size+1),ptr i.heap.size]]):=aa (heap_alloc2_new _ _ _);let⟨W2,ad⟩:=aH ((i.alloc (bH #[bd] 336)).alloc (bH #[.func (.func 323) #[] #[ptr (w.heap.size+1),ptr i.heap.size]] 399));rw[ad]at c2 HL q;let⟨C2,m,N2⟩:=Jh3 (C1.o.bu (c2.bC C1.o.size)) (J.o.keep c2) (N1.o.keep c2);have E:bI ((i.alloc (bH #[bd] 336)).alloc (bH #[.func (.func 323) #[] #[ptr (w.heap.size+1),ptr i.heap.size]] 399)) w 340 (jw (.slice a1 p.cw k1) (.slice a2 p.cw U) p):=by rw[ad];exact m.o
 let⟨p0,p1,Y,p3⟩:=E.k4 0 1 2 3;let⟨ao,aq⟩:=Jh2 (JL 8 (.slice a1 p.cw k1) (.slice a2 p.cw U) V out d p W2) ad;have X:=aa (show w.heap.size+1<i.heap.size from N1.o.lt);clear ad c2 E;gi_wp2_with fail
 clear p0 p1 Y p3 n0;rw[show(i.alloc (bH #[bd] 336)).alloc (bH #[.func (.func 323) #[] #[ptr (w.heap.size+1),ptr i.heap.size]] 399)=W2 from aq.o];refine ao.o.bC ?_;rintro e O⟨rfl,ag⟩;have F:Bw W2 O:=by rw[ag];exact aI.alloc au _
 have j:Hid (bI O W2.heap.size 340 (jw (.slice a1 p.cw k1) (.slice a2 p.cw U) p)):=aa (by rw[ag];exact(bI.new W2 340 _).alloc _);have av:Hid (bI O (W2.heap.size+1) 74 #[.slice V out d]):=aa (by rw[ag];exact heap_alloc2_new _ _ _);have HI:Hid (th w (w.heap.size+1) i (i.heap.size+1) (W2.heap.size+1) W2.heap.size (.slice a1 p.cw k1) (.slice a2 p.cw U) (.slice V out d) p 0 O):=aa ⟨C2.o.bu (F.bC C2.o.size),av.o,j.o,q.o.keep F,need,bd,[],N2.o.keep F,HL.o.keep F,mQ _ _ _ _,cH _,(nofun),Z.o⟩;have al:w.heap.size<=O:=bW C2.o.size F.size;clear ag F;dsimp only;gi_wp2_with fail
 refine JJ am af (gf:=355) (lb:=#[ptr (W2.heap.size+1),ptr W2.heap.size]) rfl trivial (enters_of func355 aj rfl) rfl (out.length+out.length+3) (fun W=>qG W (W2.heap.size+1) W2.heap.size (.slice a1 p.cw k1) (.slice a2 p.cw U) (.slice V out d) p out) (th w (w.heap.size+1) i (i.heap.size+1) (W2.heap.size+1) W2.heap.size (.slice a1 p.cw k1) (.slice a2 p.cw U) (.slice V out d) p)
  (fun k A h=>⟨HP.o.keep h.eK,Q.o.keep h.eK,h.p,h.o,HM.o,ae.o.1,ae.o.2.1,ae.o.2.2.1,ae.o.2.2.2⟩)
  (fun k A B h c=>h.keep c) (fun k A l o' hl hx h=>h.putObj (bW al hl) hx) HI.o (JM 8 af _ _ _ _ _ p out hn _ (fun W h=>h))
  (fun v=>{tmps:=#[rq (.slice a1 p.cw k1) (.slice a2 p.cw U) p,.slice V out d,need,ptr w,undef,ptr (w.heap.size+1),.slice none 0 0,(),(),ptr i,ptr (i.heap.size+1),v,.agg #[.slice a1 p.cw k1,.slice a2 p.cw U,p.line,p.cap],.slice V out d,(),(),.bool false,undef,need,.bool false,.func (.func 323) #[] #[ptr (w.heap.size+1),ptr i.heap.size],.agg #[.slice a1 p.cw k1,.slice a2 p.cw U,p.line,p.cap],.slice V out d,.func (.func 355) #[] #[ptr (W2.heap.size+1),ptr W2.heap.size],v,undef,undef,undef,undef],defers:=[]}) ?assign ?body ?done
 case assign=>
  intro l v W K hK;gi_wp2
  exact hK
 case body=>
  intro l k v s W hk hI L;let⟨H,vv,R,h5,T,ac,an,ab,ak⟩:=hI.r;have hf:=hI.f.c 0;have g:=hI.eK.size;have ai:=aa hI;have H9:=T.lt;have HD:=aa (We (B:=w.heap.size) h5 T ac af (bW C1.o.size (bL _)) g L af ab ak);clear hI h5 T ac ab ak L;gi_wp2_with (gi_at_call 323;refine(CallsIn.inRound l (callsIn_wide.2 HD.o)).bC ?_;rintro e w4⟨ax,v4,R4,rfl,g5,g9,ap,aB,x,t,M⟩)
  refine⟨M.keeps,⟨M.low ai.o.eK (bL _),ai.o.o.cu M ah,ai.o.p.cu M ah,ai.o.f.cu M ah,ax,v4,R4,g5,g9,ap,af,x,t⟩⟩
 case done=>
  intro D W z hI hK;let⟨H,vv,R,h5,T,ac,an,ab,ak⟩:=hI.r;have P:=T.c 0;let⟨HR,u,aw⟩:=Jh3 ac hI.eK ab;clear hI h5 T ac ab ak;gi_wp2
  refine⟨au,.inl ⟨_,_,rfl,run_takeDeferred hK, ?_⟩⟩;refine⟨.tuple #[vv,()],by simp[results,results262,go_sem],vv,R,0,rfl,ownsRow_putObj HR.o _ hK rfl,an,aw.o,u.o.bu (Ah _ _ _ (bW al z))⟩
structure tj(w:World)(b7 bo bp:Nat)(vc vf vo:Value)(p:Pl)(W:World):Prop where
 eK:Bw w W
 o:bI W bo 74 #[vo]
 p:bI W bp 340 (jw vc vf p)
 r:∃n:Int,bI W b7 2 #[n]/\bO n
def tj.keep{b7:Nat}(h:tj w b7 bo bp vc vf vo p W)(c:Bw W W'):tj w b7 bo bp vc vf vo p W':=by let⟨n,d,a⟩:=h.r;exact⟨h.eK.bu (c.bC h.eK.size),h.o.keep c,h.p.keep c,n,d.keep c,a⟩
def tj.putObj{b7:Nat}(h:tj w b7 bo bp vc vf vo p W)(hw:w.heap.size<=l)(hl:∃o,W.heap[l]?=some o/\o.isCells=false):tj w b7 bo bp vc vf vo p (W.putObj l o'):=by let⟨n,d,c⟩:=h.r;exact⟨h.eK.bu (Ah _ _ _ hw),tg h.o hl,tg h.p hl,n,tg d hl,c⟩
def Wh(w:World)(e:Ending)(w':World):Prop:=∃n y:Int,e=.returned (.tuple #[n,y])/\bO n/\Bw w w'
def Wi(vc vf vo:bE)(p:Pl)(out:bF Int)(w:bD)(h:nx w vc vf p)(ho:Sl eI 1 w vo out)(hn:out.length<=1000)(c64:ep p.cw)(f64:ep p.cI)(lR:bO p.line)(jR:bO p.cap):
  bG 264 #[rq vc vf p,vo] w (Wh w):=by
 refine(callsIn_wide (n:=9)).1 ?_;have hF:Fence.wide.fn 264:=trivial;have ay:Fence.wide.fn 322:=trivial;have ar:Fence.wide.fn 326:=trivial;have aw:Fence.wide.fn 325:=trivial;have f:Fence.wide.round=none:=rfl;have C:Bw w (w.alloc (bH (jw vc vf p) 340)):=aI;let⟨am,N,HP,Q,ab,CA⟩:=Jh6 (IA vc vf vo p out _ (h.keep C) (ho.keep C)) (bI.new w 340 (jw vc vf p)) h ho (ch c64 (ch f64 (ch lR jR))) C;obtain⟨a1,k1,a2,U,rfl,rfl⟩:=h.forms;obtain⟨V,d,rfl,_⟩:=ho;refine callsIn_of_wp_marks func264 rfl hF ?_ f;simp only[ntmps264,mN,gL,jE,Nat.reduceAdd,Nat.reduceSub,uU,uT,uW,uV,lU,rY];let⟨p0,Z,Y,p3⟩:=N.o.k4 0 1 2 3;clear h c64 f64 lR jR C;gi_wp2_with fail
 refine(callsIn_wide.2 am.o).bC ?_;rintro e i⟨y,rfl,b,S⟩;let⟨t,J,G⟩:=Jh3 (CA.o.bu (b.bC CA.o.size)) (N.o.keep b) S;clear p0 Z Y p3 S b;by_cases hy:y=0
 rotate_left
 ·have aq:(y !=0)=true:=aG hy;clear hy;gi_wp2
  exact⟨.tuple #[(),y],by simp[results,results264,go_sem],0,y,rfl,aJ,t.o⟩
 have HM:=aa (G.o hy);subst hy;have c2:Bw i (i.alloc (bH #[()] 2)):=aI;have I:=aa (bI.new i 2 #[()]);let⟨W2,R⟩:=aH (i.alloc (bH #[()] 2));rw[R]at c2 I;let⟨C2,B2⟩:=Jh2 (t.o.bu (c2.bC t.o.size)) (J.o.keep c2);have E:bI (i.alloc (bH #[()] 2)) w 340 (jw (.slice a1 p.cw k1) (.slice a2 p.cw U) p):=by rw[R];exact B2.o
 let⟨p0,Z,Y,p3⟩:=E.k4 0 1 2 3;let⟨ag,ai⟩:=Jh2 (JL 8 (.slice a1 p.cw k1) (.slice a2 p.cw U) V out d p W2) R;clear R c2 E;gi_wp2_with fail
 clear p0 Z Y p3;rw[show i.alloc (bH #[()] 2)=W2 from ai.o];refine ag.o.bC ?_;rintro e O⟨rfl,ac⟩;have F:Bw W2 O:=by rw[ac];exact aI.alloc au _
 have j:Hid (bI O W2.heap.size 340 (jw (.slice a1 p.cw k1) (.slice a2 p.cw U) p)):=aa (by rw[ac];exact(bI.new W2 340 _).alloc _);have an:Hid (bI O (W2.heap.size+1) 74 #[.slice V out d]):=aa (by rw[ac];exact heap_alloc2_new _ _ _);have HI:Hid (tj w i (W2.heap.size+1) W2.heap.size (.slice a1 p.cw k1) (.slice a2 p.cw U) (.slice V out d) p O):=aa ⟨C2.o.bu (F.bC C2.o.size),an.o,j.o,0,I.o.keep F,aJ⟩;have ae:w.heap.size<=O:=bW C2.o.size F.size;clear ac F;dsimp only;gi_wp2_with fail
 refine JJ f af (gf:=355) (lb:=#[ptr (W2.heap.size+1),ptr W2.heap.size]) rfl trivial (enters_of func355 aj rfl) rfl (out.length+out.length+3) (fun W=>qG W (W2.heap.size+1) W2.heap.size (.slice a1 p.cw k1) (.slice a2 p.cw U) (.slice V out d) p out) (fun _=>tj w i (W2.heap.size+1) W2.heap.size (.slice a1 p.cw k1) (.slice a2 p.cw U) (.slice V out d) p)
  (fun k A h=>⟨HP.o.keep h.eK,Q.o.keep h.eK,h.p,h.o,HM.o,ab.o.1,ab.o.2.1,ab.o.2.2.1,ab.o.2.2.2⟩)
  (fun k A B h c=>h.keep c) (fun k A l o' hl hx h=>h.putObj (bW ae hl) hx) HI.o (JM 8 af _ _ _ _ _ p out hn _ (fun W h=>h))
  (fun v=>{tmps:=#[rq (.slice a1 p.cw k1) (.slice a2 p.cw U) p,.slice V out d,ptr w,undef,(),(),(),ptr i,v,.agg #[.slice a1 p.cw k1,.slice a2 p.cw U,p.line,p.cap],.slice V out d,(),(),.bool false,undef,.agg #[.slice a1 p.cw k1,.slice a2 p.cw U,p.line,p.cap],.slice V out d,.func (.func 355) #[] #[ptr (W2.heap.size+1),ptr W2.heap.size],v,undef,undef,undef,undef,undef],defers:=[]}) ?assign ?body ?done
 case assign=>
  intro l v W K hK;gi_wp2
  exact hK
 case body=>
  intro l k v s W hk hI L;let⟨H,h7,ad⟩:=hI.r;have av:=hI.eK.size;let⟨a,H7⟩:=Jh2 hI h7;have HT:=aa (fun(X:bD) (c:Bw W X)=>IB v s X (L.at'.keep c));obtain⟨T,ks,rfl,_⟩:=L.at';have q7:=h7.c 0;have f7:=h7.free 0;have ax:prog.follows .mixedOrders=true:=aj;clear hI h7 L ad;gi_wp2_with fail
  gi_region_with_o (gi_at_call 325;refine(CallsIn.inRound l (callsIn_wide.2 (HT.o W.drew (bM _ _).drew))).bC ?_;rintro e w4⟨tt,rfl,ap,c4⟩;have C4:=aa (Dv c4);have P4:=aa (H7.o.keep C4.o);have ak:=P4.o.c 0;have al:=P4.o.free 0;clear c4)
  all_goals
   let⟨q,m⟩:=aH (IntKind.i64.wrap (H+tt));have g:=aa (show bO q by rw[<-m,xE];unfold bO wrap64;omega);rw[m];have M:cg w [2] [] W (w4.setCell (be i 0) (aY q)):=(cg.below C4.o).bu (cg.set P4.o au t.o.size au);have x:=aa (show bI (w4.setCell (be i 0) (aY q)) i 2 #[aY q]from P4.o.set 0 _);clear q7 f7 ak al m;generalize w4.setCell (be i.heap.size 0) (aY q)=X at*;gi_wp2
   exact⟨M.keeps,M.low a.o.eK (bL _),a.o.o.cu M ah,a.o.p.cu M ah,q,x.o,g.o⟩
 case done=>
  intro D W z hI hK;let⟨H,h7,ad⟩:=hI.r;have P:=h7.c 0;let⟨u,ao⟩:=Jh2 hI.eK ad;clear hI h7 ad;gi_wp2
  refine⟨au,.inl ⟨_,_,rfl,run_takeDeferred hK, ?_⟩⟩;refine⟨.tuple #[H,()],by simp[results,results264,go_sem],H,0,rfl,ao.o,u.o.bu (Ah _ _ _ (bW ae z))⟩
end
section
open Go.Proofs Go.Shelf
attribute [local go_sem ↓] wp_at_zero wp_at_succ
abbrev vI(x:Int):Value:=x
def jM(k:Int):List (Int×List Int)->List Int
 |[]=>[]
 |p::l=>if k=p.1 then p.2 else jM k l
def Wj(k:Int):∀(G:bF (Int×bF Int)) (bv:bF bE) (i:Nat),bv.length=G.length->k∈G.map (·.1)->∃n,∃h:n<G.length,∃h2:n<bv.length,look k (List.zipWith (fun g v=>(g.1,v)) G bv) i=some (i+n,bv[n])/\jM k G=G[n].2:=by
 intro G;induction G with
 |nil=>intro bv i _ a;simp at a
 |cons p G ih=>
  intro bv i u a;cases bv with
  |nil=>simp at u
  |cons b bv=>
   by_cases h:k=p.1
   ·exact⟨0,au,au,by simp[look,h],by simp[jM,h]⟩
   ·have D:k∈G.map (·.1):=by
     rw[eu,je]at a;rcases a with a|a
     ·exact xl a h
     ·exact a
    let⟨n,d,h2,x,M⟩:=ih bv (i+1) (aG u) D;refine⟨n+1,aG d,aG h2, ?_, ?_⟩
    ·simp only[si,look,h,if_false,x,qj];congr 2;omega
    ·simp only[jM,h,if_false,M,qj]
def mD(G:List (Int×List Int)):List Int:=(G.map (·.1)).mergeSort fun x y=>decide (x<=y)
def JN(G:List (Int×List Int))(k:Int):Lg:=⟨k,0,(du (jM k G)).1⟩
def pW(G:List (Int×List Int)):List Int->Int
 |[]=>0
 |k::l=>if(du (jM k G)).2≠0 then(du (jM k G)).2 else pW G l
def Wk(G:bF (Int×bF Int)):∀(l:bF Int) (k:Nat) (hk:k<l),(∀j (_:j<k) (h2:j<l.length),(du (jM l[j] G)).2=0)->(du (jM l[k] G)).2≠0->pW G l=(du (jM l[k] G)).2:=by
 intro l;induction l with
 |nil=>intro k hk;exact xl hk au
 |cons x l ih=>
  intro k hk H h;cases k with
  |zero=>simp only[jr]at h⊢;rw[pW,yc h]
  |succ k=>
   have O:=H 0 af au;simp only[jr]at O;simp only[qj]at h⊢;rw[pW,ya (aG O)];exact ih k (aG hk) (fun j hj h2=>by have:=H (j+1) af (aG h2);simpa using this) h
def Wl(G:bF (Int×bF Int)):∀(l:bF Int),(∀j (h2:j<l.length),(du (jM l[j] G)).2=0)->pW G l=0:=by
 intro l;induction l with
 |nil=>intro _;rfl
 |cons x l ih=>
  intro H;have O:=H 0 au;simp only[jr]at O;rw[pW,ya (aG O)];exact ih fun j h2=>by have:=H (j+1) (aG h2);simpa using this
def fS(G:List (Int×List Int)):List Lg×Int:=if pW G (mD G)≠0 then([],pW G (mD G))else((mD G).map (JN G),0)
variable{B M:Nat}
def Wm{w:World}{G:List (Int×List Int)}{bv:List Value}(h:fF w B M vI G bv)(hk:∀p∈G,bO p.1)(hnd:(G.map (·.1)).Nodup)(hn:G.length<=100000):∃D0:DataW Unit,w.ownsMap prog 3 (fun _=>some (.nil,[])) M G.length D0/\(intKeys D0).Perm (G.map (·.1))/\Maps.size D0=G.length:=by
 have S:=zS h.lh;let⟨D,z⟩:=aH (List.zipWith (fun(g:Int×List Int) (v:Value)=>(g.1,v)) G bv);have f:D.map (·.1)=G.map (·.1):=by
  rw[<-z];apply jG
  ·simp[h.lh]
  ·intro i d c;simp
 have Z:=h.mid.map;rw[z]at Z S;have m:∀x∈dN vI D,∃a:Int,x.key=vI a/\a∈G.map (·.1)/\Go.WideElems.rd (H:=Unit) prog 3 (fun _=>some (.nil,[])) x=some (.int .i64 a,.nil):=by
  intro x j;unfold dN at j;obtain⟨p,s,rfl⟩:=Fy.1 j;have y:p.1∈D:=by
   obtain⟨⟨a,b⟩,n⟩:=p;exact(List.mem_zipIdx' s).2▸cZ _
  have o:p.1.1∈G.map (·.1):=by rw[<-f];exact Fy.2 ⟨_,y,rfl⟩
  refine⟨p.1.1,rfl,o, ?_⟩;let⟨q,F,V⟩:=Fy.1 o;have u:=hk q F;rw[V]at u;unfold Go.WideElems.rd;rw[Go.Maps.keyOf_int_mk underlying3 (by have h:=wrap64_wf p.1.1;rwa[jF _ u]at h)];rfl
 have I:w.heap[M]?=some (.map (dN vI D).toArray D.length):=Z;have k:(dN vI D).map (·.key)=(G.map (·.1)).map vI:=by
  rw[<-f,lD];have:=ym (List.map Prod.fst) (uj vI D)
  rw[lD,lD]at this;exact this
 have l:(dN vI D).map (·.born)=List.range D.length:=by
  apply mR;intro i;rw[ke,nO];rcases fA i D.length with hi|hi
  ·simp[hi]
  ·simp[hi]
 have t:Go.MapKept.Stamped (dN vI D).toArray D.length:=by
  refine⟨fun x j=> ?_, ?_, ?_⟩
  ·have:x.born∈(dN vI D).map (·.born):=Fy.2 ⟨x,aG j,rfl⟩
   rw[l]at this;simpa using this
  ·show((dN vI D).toArray.toList.map (·.born)).Nodup
   rw[show(dN vI D).toArray.toList=dN vI D from rfl,l];exact yT
  ·show((dN vI D).toArray.toList.map (·.key)).Nodup
   rw[show(dN vI D).toArray.toList=dN vI D from rfl,k];rw[acZ,yR];exact(acZ.1 hnd).imp fun h e=>h (aG e)
 have C:((dN vI D).toArray.toList.map (Go.WideElems.rg (H:=Unit) prog 3 (fun _=>some (.nil,[])))).map (fun p=>Go.intOf p.1)=G.map (·.1):=by
  rw[show(dN vI D).toArray.toList=dN vI D from rfl,lD];have e:(dN vI D).map ((fun p:Lit×DataW Unit=>Go.intOf p.1)∘Go.WideElems.rg (H:=Unit) prog 3 (fun _=>some (.nil,[])))=(dN vI D).map fun x=>match x.key with|.int _ a=>a|_=>0:=by
   apply List.map_congr_left;intro x j;let⟨a,d,_,A⟩:=m x j;simp only[Function.comp_apply,Go.WideElems.rg,A,d];rfl
  rw[e];have r:(dN vI D).map (fun x=>match x.key with|.int _ a=>a|_=>(0:Int))=((dN vI D).map (·.key)).map fun v=>match v with|.int _ a=>a|_=>0:=by rw[lD];rfl
  rw[r,k,lD];have Q:((fun v:Value=>match v with|.int _ a=>a|_=>(0:Int))∘vI)=id:=rfl;rw[Q,List.map_id]
 refine⟨_,⟨(dN vI D).toArray,D.length,I,⟨?_,t,fun x j=> ?_⟩, ?_,rfl⟩, ?_, ?_⟩
 ·simp only[mN,xW];unfold maxLen;omega
 ·let⟨a,_,_,A⟩:=m x (aG j);exact⟨_,A⟩
 ·simp only[mN,xW];omega
 ·show(List.map (fun p:Lit×DataW Unit=>Go.intOf p.1) _).Perm _
  rw[<-C];exact(Go.WideShapes.sorted_perm _).map _
 ·show List.length _=_;rw[(Go.WideShapes.sorted_perm _).length_eq,cR,show(dN vI D).toArray.toList=dN vI D from rfl,xW,S]
def Wn(m:Nat):AnyZI.SortsIn prog l362_ren Fence.wide m:=
 ⟨fun blk off cap ss W hH hblk hsz=>callsIn_wide.2 (AnyM.slices_Sort_int l349 blk off cap ss W hH hblk hsz),
  fun p cap W=>callsIn_wide.2 (AnyM.slices_Sort_int_none l349 p cap W)⟩
def Wo(M:Nat)(w:bD):bG 363 #[.map (some M)] w fun e w'=>e=.returned (.func (.func 378) #[] #[ptr w.heap.size])/\w'=aZ w #[.map (some M)] 409:=callsIn_wide.1 (AnyZI.keys_in l363 Fence.wide 5 trivial rfl (some M) w)
variable{w:bD}{G:bF (Int×bF Int)}{bv:bF bE}
def Wp(h:fF w B M vI G bv)(hk:∀p∈G,bO p.1)(hnd:(G.map (·.1)).Nodup)(hn:G.length<=100000):bG 362 #[.func (.func 378) #[] #[ptr w.heap.size]] (aZ w #[.map (some M)] 409) (gP eI 3 1 (mD G) (aZ w #[.map (some M)] 409)):=by
 let⟨c,a,s,L⟩:=Wm h hk hnd hn;have W:=a.lt;have d:SeqGives Fence.wide 2 prog 378 #[.pointer (some (be w 0))] encZ (fun k=>k.Perm (intKeys c)) (Maps.size c) (aZ w #[.map (some M)] 409):=
  AnyZI.keys_gives (ρ:=l363_ren) {l363 with} Fence.wide _ trivial rfl af w M G.length c _ au au (by
   obtain⟨b,f,u,g,L,z⟩:=a;exact⟨b,f,(rU _ _ M W).bu u,g,L,z⟩)
 have j:=AnyZI.sorted_in l362 Fence.wide 5 trivial trivial trivial trivial rfl af (Wn _) (enters_of func349 aj rfl) 378 #[.pointer (some (be w 0))] trivial (enters_of func378 aj rfl) _ _ (by rw[L];unfold maxLen;omega) (by rw[L];omega) _ d;refine(callsIn_wide.1 j).bC ?_;rintro e l⟨v,k,rfl,U,i,_,u⟩;have o:k.mergeSort (fun x y=>decide (x<=y))=mD G:=mergeSort_of_perm_i (U.bu s);have S:k.length=(mD G).length:=by rw[<-o,xy]
 rw[o]at i;refine⟨v,rfl, ?_,u⟩;rw[<-S,nN];exact i
def nY(G:List (Int×List Int))(K:List Int)(k:Nat):List Lg:=(K.take k).map (JN G)
def Wq(G:bF (Int×bF Int))(K:bF Int)(k:Nat)(h:k<K):nY G K (k+1)=nY G K k++[⟨K[k],0,(du (jM K[k] G)).1⟩]:=by unfold nY;rw[fj h,jf];rfl
def Wr(G:bF (Int×bF Int))(K:bF Int)(k:Nat):(nY G K k).length<=k:=by unfold nY;rw[cR,dx];omega
def JO(G:bF (Int×bF Int)):(mD G).length=G.length:=by unfold mD;rw[xy,cR]
def Ei{k:Int}:k∈mD G↔k∈G.map (·.1):=by unfold mD;exact(List.mergeSort_perm _ _).mem_iff
structure Ej(G:List (Int×List Int)):Prop where
 key:∀p∈G,bO p.1
 nd:(G.map (·.1)).Nodup
 n:G.length<=4096
 row:∀p∈G,ep p.2/\p.2.length<=10000
def Ai(G:List (Int×List Int))(w:World)(e:Ending)(w':World):Prop:=∃u,e=.returned (.tuple #[u,aY (fS G).2])/\w'.ownsRow w 120 3 u (fS G).1.length (bN df (fS G).1)/\Bw w w'
def Ws(h:fF w B M vI G bv)(ok:Ej G){k:Int}(hk:k∈G.map (·.1)):∃n c,(Instr.lookup 409 (.map (some M)) k false).run prog w=.ok (.slice n (jM k G).length c) w/\Sl eI 1 w (.slice n (jM k G).length c) (jM k G)/\ep (jM k G)/\(jM k G).length<=1000000:=by
 let⟨n,d,f,S,a⟩:=Wj k G bv 0 h.lh hk;have J:=h.mid.rows.own n f (by rw[cR];exact d);simp only[lj]at J;have D:=uk vK underlying409 bd zeroValue45 w M _ k h.mid.map;rw[S]at D;let⟨b,c,R⟩:=bV J;rw[<-a]at J R;have v:=ok.row _ (cZ d);rw[<-a]at v;refine⟨b,c, ?_, ?_,v.1,af⟩
 ·rw[<-R];exact D
 ·rw[<-R];exact Sl.own kI J
def Ek(h:fF w B M vI G bv)(ok:Ej G):bG 333 #[.map (some M)] w (Ai G w):=by
 let⟨H,OK⟩:=Jh2 h ok;have a:=aa (Wp h ok.key ok.nd (by have:=ok.n;omega));have D:=JO G;have hn:=ok.n;have ad:Hid (∀k∈mD G,k∈G.map (·.1)):=aa fun k hk=>Ei.1 hk;have C:Bw w (aZ w #[.map (some M)] 409):=aI;have s:Hid (∀K,K=mD G->fS G=if pW G K≠0 then([],pW G K)else(nY G K K.length,0)):=aa fun K hK=>by unfold fS nY;rw[hK,ic]
 let⟨J,hi,S,X,al⟩:=wm oF;let⟨K,hK⟩:=aH (mD G);have N:=aa (s.o K hK.symm);rw[hK]at a ad D;have ar:K.length<=4096:=af;clear h ok hK s D;go_enter func333,ntmps333;go_wp2_with(first
  |(go_at_call 363;refine(Wo M _).bC ?_;rintro e w1⟨rfl,rfl⟩)
  |(go_at_call 362;refine a.o.bC ?_;rintro e w2⟨v2,rfl,o2,c2⟩;have O2:=aa o2;have t:=C.bu (c2.bC C.size);have ao:=aa (Sl.own kI o2);obtain⟨n2,U,rfl⟩:=bV o2;clear o2))
 go_loopw[4,13] (fun vo vi wr=>∃(k:Nat),k<=K.length/\vi=.int .i64 k/\wr.ownsRow w2 120 3 vo (nY G K k).length (bN df (nY G K k))/\Bw w2 wr/\∀j (_:j<k) (h2:j<K.length),(du (jM K[j] G)).2=0) (fun _ vi _=>K.length-(intOf vi).toNat);exact⟨0,cH _,rfl,⟨by simp[bN,nY],bS ⟨rfl,by simp[nY]⟩⟩,bM _ _,fun j hj=>xl hj (yU j)⟩;obtain⟨k,hk,rfl,Y,ab,ag⟩:=hrel;let⟨HO,Q⟩:=Jh2 Y ag;obtain⟨V,ko,rfl⟩:=bV Y;clear Y ag;by_cases ac:k<K.length
 ·obtain⟨ay,am,b,ap,rfl,y,aj⟩:=ao.o.hd;have q0:=aj k ac 0 _ rfl;rw[gD,gg]at q0;have r0:=(ab.c (p:=⟨b,ap+k,none⟩) y).bu q0;have ax:0<=(k:Int):=af;have av:k<(K:Int):=af;unfold maxLen at am;have x:=aa (Wq G K k ac);have z:=Wr G K k;have ai:=aa (fun h=>Wk G K k ac (fun j hj h2=>Q.o j hj h2) h);have F:=aa (ad.o K[k] (cZ ac));have u:Hid ((du (jM K[k] G)).2=0->∀j (_:j<k+1) (h2:j<K.length),(du (jM K[j] G)).2=0):=aa fun h j hj h2=>by
   rcases fA j k with h3|h3
   ·exact Q.o j h3 h2
   ·obtain rfl:j=k:=af;exact h
  clear aj q0 Q;generalize nY G K k=L at*;generalize K[k]=m at*;let⟨nr,cr,aw,W,ak,A⟩:=Ws (H.o.keep (t.bu (ab.bC t.size))) OK.o F.o;have P:=aa (mT _ (jM m G) wr W ak A);let⟨⟨Z,g⟩,f⟩:∃r,du (jM m G)=r:=⟨_,rfl⟩;rw[f]at P x ai u;clear ak W f;by_cases O:g=0
  rotate_left
  ·have d0:(g !=0)=true:=aG O;have HE:=aa (ai.o O);have R:Hid (fS G=([],g)):=aa (by rw[N.o,HE.o,yc O]);clear O;go_wp2_with(go_at_call 230;refine P.o.bC ?_;rintro e T⟨rfl,d⟩;have I:=(t.bu (ab.bC t.size)).bu (d.bC (t.bu (ab.bC t.size)).size));go_ret2;exact⟨_,by rw[R.o];rfl,by rw[R.o];exact qC _ _ _ _ _,I⟩
  ·subst O;have E:=aa (u.o rfl);go_wp2_with(first
    |(go_at_call 230;refine P.o.bC ?_;rintro e T⟨rfl,d⟩;have I:=ab.bu (d.bC ab.size);have v:=aa ((cJ HO.o d).alloc (bH #[m,(),Z] 120));have ae:=I.alloc I.size (bH #[m,(),Z] 120))
    |(at_builtin;refine fG eG ah oE _ rfl _ _ 66 rfl w2 120 J (.agg #[(),(),()]) 24 underlying66 hi S X al aB (.slice V L ko) L rfl v.o (some (be T 0)) 1 [⟨m,0,Z⟩] rfl (Sl.fg df eG _ 120 _ aB _ rfl) Qaj QaX ae.size ?_;intro v' w7 Y l an;have b7:=ae.grown l ae.size (fun q hq=>(v.o.lt q hq).1);rw[<-x.o]at Y;have aq:=aa Y;obtain⟨n7,k7,rfl⟩:=bV Y;clear l an Y))
   go_roundw;exact⟨k+1,ac,by first|rfl|go_num,aq.o,b7,E.o⟩;exact aV
 ·obtain rfl:k=K.length:=af;have i:¬(K.length<(K:Int)):=af;have R:Hid (fS G=(nY G K K.length,0)):=aa (by rw[N.o,Wl G K fun j h2=>Q.o j h2 h2,ya au]);go_wp2;go_ret2;exact⟨_,by rw[R.o];rfl,by rw[R.o];exact d8 HO.o t.size,t.bu (ab.bC t.size)⟩
end
section
attribute [local go_sem ↓] wp_at_zero wp_at_succ
def kY(m:Int):List Lg->Int
 |[]=>0
 |x::l=>if x.mem=m then x.bJ else kY m l
def Wt(m:Int):∀(l:bF Lg) (k:Nat) (h:k<l),(∀j (hj:j<k) (h2:j<l.length),l[j].mem≠m)->l[k].mem=m->kY m l=l[k].bJ:=by
 intro l;induction l with
 |nil=>intro k h;exact xl h au
 |cons x l ih=>
  intro k h H V;cases k with
  |zero=>simp only[jr]at V⊢;rw[kY,yc V]
  |succ k=>
   have O:=H 0 af au;simp only[jr]at O;simp only[qj]at V⊢;rw[kY,ya O];exact ih k (aG h) (fun j hj h2=>H (j+1) af (aG h2)) V
def Wu(m:Int):∀(l:bF Lg),(∀j (h2:j<l.length),l[j].mem≠m)->kY m l=0:=by
 intro l;induction l with
 |nil=>intro _;rfl
 |cons x l ih=>
  intro H;have O:=H 0 au;simp only[jr]at O;rw[kY,ya O];exact ih fun j h2=>H (j+1) (aG h2)
def JP(v:bE)(l:bF Lg)(m:Int)(w:bD)(hv:Sl df 3 w v l)(hn:l.length<=100000):bG 220 #[v,m] w (bi (kY m l) w):=by
 have D:=aa hv;obtain⟨W,K,rfl,_⟩:=hv;go_enter func220,ntmps220;go_wp2;go_loopw[9] (fun vi wr=>∃k:Nat,k<=l.length/\vi=k/\Bw w wr/\∀j (hj:j<k) (h2:j<l.length),l[j].mem≠m) (aW l);exact⟨0,cH _,rfl,bM _ _,fun j hj=>xl hj af⟩;obtain⟨k,y,rfl,a,d⟩:=hrel;have Q:=aa d;clear d;by_cases g:k<l
 ·obtain⟨F,c,b,r,rfl,_,n⟩:=(D.o.keep a).hd;let⟨z,s,P⟩:=kL (n k g);have O:0<=(k:Int):=af;have C:k<(l:Int):=af;unfold maxLen at c;have p:=aa (Wt m l k g (fun j hj h2=>Q.o j hj h2));have f:Hid (l[k].mem≠m->∀j (hj:j<k+1) (h2:j<l.length),l[j].mem≠m):=aa (fun h j hj h2=>by
   rcases fA j k with h3|h3
   ·exact Q.o j h3 h2
   ·obtain rfl:j=k:=af;exact h)
  clear n;generalize l[k]=x at*;have t:=a.alloc a.size (bH (dI x) 120);by_cases Z:x.mem=m
  ·have u:=beq_iff_eq.2 Z;have q:=aa (p.o Z);clear Z;go_wp2;go_ret;exact⟨by rw[q.o];rfl,t⟩
  ·have u:=xp.2 Z;have q:=aa (f.o Z);clear Z;go_wp2;go_roundw;exact⟨k+1,af,aw,t,q.o⟩;exact aV
 ·obtain rfl:k=l.length:=af;have i:¬(l.length<(l:Int)):=af;have q:=aa (Wu m l fun j h2=>Q.o j h2 h2);go_wp2;go_ret;exact⟨by rw[q.o];rfl,a⟩
def El(l:List Lg):Int:=match l with
 |[]=>0
 |x::_=>if x.bK=0 then 0 else 1
def iq(l:List Lg):Int:=if gU l≠0 then gU l else El l
def Em(v:bE)(l:bF Lg)(w:bD)(hv:Sl df 3 w v l)(hn:l.length<=100000)(h64:∀x∈l,bO x.bJ):bG 334 #[v] w (bi (iq l) w):=by
 let⟨D,G⟩:=Jh2 hv (zL v l w hv hn h64);obtain⟨W,K,rfl,_⟩:=hv;let⟨y,B⟩:=aH (gU l);have U:=aa B;have q:Hid (iq l=if y≠0 then y else El l):=aa (by unfold iq;rw[B]);clear B h64;by_cases O:y=0
 rotate_left
 ·have u:(y !=0)=true:=aG O;have d:Hid (iq l=y):=aa (by rw[q.o,yc O]);clear O q;exact Qbf
 ·subst O;cases l with
  |nil=>
   have d:Hid (iq []=0):=aa (by rw[q.o];rfl);clear q;exact Qbf
  |cons x r=>
   have d:Hid (iq (x::r)=if x.bK=0 then 0 else 1):=aa (by rw[q.o];rfl);let⟨Y,z,R,_,F,t,L⟩:=D.o;let⟨A,k⟩:W=Y/\K=z:=aG R;subst A k;obtain⟨b,m,rfl,h,n⟩:=L au;let⟨_,E,_⟩:=kL (n 0 au);rw[Nat.zero_mul,gg]at E;simp only[jr]at E;let⟨N,f⟩:=aH ((x::r).length);have C:0<(N:Int):=by rw[<-f];simp only[gL];omega
   rw[f]at G⊢;clear q n L R f;by_cases g:x.bK=0
   ·have j:(x.bK !=0)=false:=aG g;have Z:Hid (iq (x::r)=0):=aa (by rw[d.o,yc g]);exact QaV
   ·have j:(x.bK !=0)=true:=aG g;have Z:Hid (iq (x::r)=1):=aa (by rw[d.o,ya g]);exact QaV
structure Wv(X:World)(B M:Nat)(G:List (Int×List Int))(bv:List Value)(m x:Int)(u:Value)(L:List Int):Prop where
 look:∀W,W.heap[M]?=X.heap[M]?->(Instr.lookup 409 (.map (some M)) m false).run prog W=.ok u W
 own:X.ownsRow B 2 1 u L (bN eI L)
 ld:L.length<=10000
 far:u.ownBlock≠some M
 step:∀W W' v',fF W B M vI G bv->W.grownBy W' u.ownBlock->W'.ownsRow B 2 1 v' (L++[x]).length (bN eI (L++[x]))->(v'.ownBlock=u.ownBlock∨v'.ownBlock=some W.heap.size)->∃o bv',(Instr.mapUpdate 409 (.map (some M)) m v').run prog W'=.ok () (putObj W' M o)/\fF (putObj W' M o) B M vI (di m x G) bv'
variable{B M:Nat}{G:bF (Int×bF Int)}{bv:bF bE}
def JQ{X:bD}(h:fF X B M vI G bv)(hs:∀p∈G,p.2.length<=10000)(m x:Int):∃u L,Wv X B M G bv m x u L:=by
 rcases zr m G bv 0 h.lh with⟨hL,hadd⟩|⟨n,hn1,hn2,hL,hkey,hadd⟩
 ·refine⟨.slice none 0 0,[],⟨fun W hW=> ?_,⟨aK,bS ⟨rfl,rfl⟩⟩,au,by simp[Value.ownBlock],fun W W' v' hG hg J hat=> ?_⟩⟩
  ·exact QbQ
  ·have S:hG.lh=h.lh:=rfl;have N:=hG.lh;have b:(G.map (fun p:Int×bF Int=>p.2)).length=G.length:=au;have Z:=hG.mid.push.grow bv au (by simp[N]) (v':=v') (zs':=[x]) (by simpa[Value.ownBlock]using hg) (aG J) (by simpa[Value.ownBlock]using hat);have a:=Z.put (List.zipWith (fun g v=>(g.1,v)) G bv++[(m,v')]);have r:(bv++[Value.slice none 0 0]).set bv v'=bv++[v']:=au;have Q:(G.map (fun p:Int×bF Int=>p.2)++[[]]).set bv [x]=(di m x G).map (fun p:Int×bF Int=>p.2):=by
    rw[hadd,N,<-b];simp
   have o:List.zipWith (fun g v=>(g.1,v)) G bv++[(m,v')]=List.zipWith (fun g v=>(g.1,v)) (di m x G) (bv++[v']):=by
    rw[hadd,List.zipWith_append N.symm];rfl
   rw[r,Q]at a;rw[o]at a;refine⟨ew vI (List.zipWith (fun g v=>(g.1,v)) (di m x G) (bv++[v'])),bv++[v'], ?_,⟨by rw[hadd];simp[N],a⟩⟩;have:=Gg vK underlying409 W' M _ m v' Z.map hL
   rw[o]at this;exact this
 ·have J:=h.mid.rows.own n hn2 (by rw[cR];exact hn1);simp only[lj]at J;rw[fW]at hL;refine⟨bv[n],G[n].2,⟨fun W hW=> ?_,J,hs _ (cZ hn1),fun e=>DF h.mid _ (cZ hn2) M e rfl,fun W W' v' hG hg ho2 hat=> ?_⟩⟩
  ·exact QbQ
  ·have Z:=hG.mid.grow n hn2 (by rw[cR];exact hn1) (v':=v') (zs':=G[n].2++[x]) hg ho2 hat;have:=Bu vK underlying409 W' M _ m n bv[n] v' Z.map hL
   exact⟨_,_,this,fF.IN hG.lh hn1 hn2 hkey (hadd x) Z⟩
variable{W W':bD}{u:bE}
def JR{w3:bD}(h:ec [M] w3 W)(hg:W.grownBy W' u.ownBlock)(hb:∀q,u.ownBlock=some q->w3.heap.size<=q):ec [M] w3 W':=⟨hg.os.bu h.os,hg.tape.bu h.tape,hg.output.bu h.output,bW h.size hg.size,fun k hk hn=>(hg.block k (iN hk h.size) (fun e=>by have:=hb k e.symm;omega)).bu (h.far k hk hn)⟩
def JS(hg:W.grownBy W' u.ownBlock)(hM:M<W)(hf:u.ownBlock≠some M):W'.heap[M]?=W.heap[M]?:=hg.block M hM (Ne.symm hf)
noncomputable def lL(M:Nat)(m:Int)(W:World):Value:=match (Instr.lookup 409 (.map (some M)) m false).run prog W with
 |.ok v _=>v
 |_=>.nilFunc
def uI{m:Int}(h:(Instr.lookup 409 (.map (some M)) m false).run prog W=.ok u W):lL M m W=u/\(Instr.lookup 409 (.map (some M)) m false).run prog W=.ok (lL M m W) W:=by
 have e:lL M m W=u:=by unfold lL;rw[h]
 exact⟨e,by rw[e];exact h⟩
def tu(h:fF W B M vI G bv)(m:Int):(Instr.lookup 409 (.map (some M)) m false).run prog W=.ok (lL M m W) W:=(uI (uk vK underlying409 bd zeroValue45 W M _ m h.mid.map)).2
def fI(l:List Lg):List (Int×List Int):=l.foldl (fun G x=>di x.mem x.bJ G) []
def JT(l:bF Lg)(k:Nat)(h:k<l):fI (l.take (k+1))=di l[k].mem l[k].bJ (fI (l.take k)):=by unfold fI;rw[fj h,rX];rfl
def wE(l:bF Lg):(fI l).length<=l.length/\∀p∈fI l,p.2.length<=l.length:=by have h:=Cs Lg.mem Lg.bJ l [] 0 (bL _) (fun q hq=>xl hq au);simpa[fI]using h
def JU(P:Int->Prop):∀(l:bF Lg) (G:bF (Int×bF Int)),(∀x∈l,P x.mem)->(∀p∈G,P p.1)->∀p∈l.foldl (fun G x=>di x.mem x.bJ G) G,P p.1:=by
 intro l;induction l with
 |nil=>intro G _ h p s;exact h p s
 |cons x l ih=>
  intro G d c;refine ih _ (fun y hy=>d y (jS _ hy)) fun p s=> ?_;have a:p.1∈(di x.mem x.bJ G).map (·.1):=Fy.2 ⟨p,s,rfl⟩;rw[IP]at a;split at a
  ·let⟨q,F,e⟩:=Fy.1 a;rw[<-e];exact c q F
  ·rcases xq.1 a with a|a
   ·let⟨q,F,e⟩:=Fy.1 a;rw[<-e];exact c q F
   ·rw[List.mem_singleton.1 a];exact d x (iG ..)
def Eo{l:bF Lg}(h1:∀x∈l,bO x.mem)(h2:∀x∈l,bO x.bJ)(hn:l.length<=4096):Ej (fI l):=⟨JU bO l [] h1 (fun p hp=>xl hp au),IQ Lg.mem Lg.bJ l [] au,bW (wE l).1 hn,fun p hp=>⟨IR bO Lg.mem Lg.bJ l [] h2 (fun p hp=>xl hp au) p hp,by have:=(wE l).2 p hp;omega⟩⟩
def ly(a b:List Lg):List Lg×Int:=
 if gU a≠0 then([],gU a)else if gU b≠0 then([],gU b)
 else if iq a≠0∨iq b≠0 then([],1)
 else if(fS (fI (a++b))).2≠0 then([],(fS (fI (a++b))).2)
 else if(dK ((ei a).1+(ei b).1)).2≠0 then([],(dK ((ei a).1+(ei b).1)).2)
 else((fS (fI (a++b))).1,0)
def Ww(r:List Lg×Int)(w:World)(e:Ending)(w':World):Prop:=∃u,e=.returned (.tuple #[u,r.2])/\w'.ownsRow w 120 3 u r.1 (bN df r.1)/\Bw w w'
def Ep(n:Int):bO (dK n).1:=by
 unfold dK;split
 ·assumption
 ·unfold bO;simp
def JV(l:bF Lg):bO (ei l).1:=by
 unfold ei;split
 ·unfold bO;simp
 ·unfold du;exact Ep _
def Er:(prog.info? 2).map (fun i=>(i.zero,i.size,i.bytes))=some (some (.int .i64 0),1,8):=aj
def Wx(u1 u2:bE)(a b:bF Lg)(w:bD)(h1:Sl df 3 w u1 a)(h2:Sl df 3 w u2 b)(hn1:a.length<=1024)(hn2:b.length<=1024)(hm:∀x∈a++b,bO x.mem)(h64:∀x∈a++b,bO x.bJ):bG 273 #[u1,u2] w (Ww (ly a b) w):=by
 have I:∀x∈a,bO x.bJ:=fun x hx=>h64 x (List.mem_append_left _ hx);have ai:∀x∈b,bO x.bJ:=fun x hx=>h64 x (List.mem_append_right _ hx);have cA:Bw w (aZ w #[u1,u2] 66):=aI;let⟨bP,H1,H2⟩:=Jh3 (bI.new w 66 #[u1,u2]) h1 h2;have s:Hid (∀W,Bw w W->bG 295 #[u1] W (bi (gU a) W)):=aa fun W c=>zL u1 a W (h1.keep c) af I;have Q:Hid (∀W,Bw w W->bG 295 #[u2] W (bi (gU b) W)):=aa fun W c=>zL u2 b W (h2.keep c) af ai;have P:Hid (∀W,Bw w W->bG 334 #[u1] W (bi (iq a) W)):=aa fun W c=>Em u1 a W (h1.keep c) af I;have av:Hid (∀W,Bw w W->bG 334 #[u2] W (bi (iq b) W)):=aa fun W c=>Em u2 b W (h2.keep c) af ai;have ay:Hid (∀W,Bw w W->bG 245 #[u1] W (bi (bg (ei a)) W)):=aa fun W c=>zM u1 a W (h1.keep c) af I;have aC:Hid (∀W,Bw w W->bG 245 #[u2] W (bi (bg (ei b)) W)):=aa fun W c=>zM u2 b W (h2.keep c) af ai;have HJ:Hid (ly a b=if gU a≠0 then([],gU a)else if gU b≠0 then([],gU b)else if iq a≠0∨iq b≠0 then([],1)else if(fS (fI (a++b))).2≠0 then([],(fS (fI (a++b))).2)else if(dK ((ei a).1+(ei b).1)).2≠0 then([],(dK ((ei a).1+(ei b).1)).2)else((fS (fI (a++b))).1,0)):=aa rfl;have a3:Hid (∀W g,bI W g 66 #[u1,u2]->Bw w W->bG 335 #[.slice (some ⟨g,0,none⟩) 2 2] W (gP df 120 3 (a++b) W)):=aa fun W g hg c=>RX g u1 u2 a b W hg (h1.keep c) (h2.keep c) af af;have bQ:(a++b).length<=2048:=aN;let⟨l,hl⟩:=aH (a++b);rw[hl]at a3 HJ hm h64 bQ;let⟨HM,br⟩:=Jh2 hm h64;obtain⟨n1,k1,rfl,_⟩:=h1;obtain⟨n2,U,rfl,_⟩:=h2;clear hm h64 hl;let⟨ea,an⟩:=aH (gU a);let⟨eb,am⟩:=aH (gU b);let⟨b1,b4⟩:=Jh2 an am;rw[an,am]at HJ;rw[an]at s;rw[am]at Q;clear I ai an am;go_enter func273,ntmps273;go_wp2;go_loopw[24] (fun vi wr=>Bw w wr/\bI wr w 66 #[.slice n1 a.length k1,.slice n2 b.length U]/\((vi=.int .i64 (0:Nat))∨(vi=.int .i64 (1:Nat)/\ea=0)∨(vi=.int .i64 (2:Nat)/\ea=0/\eb=0))) (fun vi _=>2-(intOf vi).toNat);exact⟨cA,bP.o,bS rfl⟩;obtain⟨a1,aD,hr⟩:=hrel;let⟨ac,aM⟩:=Jh2 a1 aD;let⟨q0,q1⟩:=aD.k2 0 1;clear a1 aD;rcases hr with rfl|⟨rfl,O⟩|⟨rfl,O,h0b⟩
 ·go_wp2_with(go_at_call 295;refine(s.o _ ac.o).bC ?_;rintro e x1⟨rfl,c1⟩;have J:=aa (ac.o.bu (c1.bC ac.o.size));have aE:=aa (aM.o.keep c1);clear c1)
  ·have ag:(ea !=0)=true:=aF;have T:ea≠0:=aG ag;have f:Hid (ly a b=([],ea)):=aa (by rw[HJ.o,yc T]);exact Qbk
  ·have ag:(ea !=0)=false:=aF;go_roundw;exact⟨J.o,aE.o,ci (bS ⟨rfl,aG ag⟩)⟩;decide
 ·go_wp2_with(go_at_call 295;refine(Q.o _ ac.o).bC ?_;rintro e x1⟨rfl,c1⟩;have J:=aa (ac.o.bu (c1.bC ac.o.size));have aE:=aa (aM.o.keep c1);clear c1)
  ·have ag:(eb !=0)=true:=aF;have T:eb≠0:=aG ag;have f:Hid (ly a b=([],eb)):=aa (by rw[HJ.o,ya (aG O),yc T]);exact Qbk
  ·have ag:(eb !=0)=false:=aF;go_roundw;exact⟨J.o,aE.o,ci (ci ⟨rfl,O,aG ag⟩)⟩;decide
 ·have a0:=aa HJ.o;clear HJ;have ao:Hid (ly a b=if iq a≠0∨iq b≠0 then([],1)else if(fS (fI l)).2≠0 then([],(fS (fI l)).2)else if(dK ((ei a).1+(ei b).1)).2≠0 then([],(dK ((ei a).1+(ei b).1)).2)else((fS (fI l)).1,0)):=aa (by rw[a0.o,ya (aG O),ya (aG h0b)]);clear a0 O h0b s Q aM q0 q1;have bh:True:=trivial;let⟨ca,ar⟩:=aH (iq a);let⟨cb,aL⟩:=aH (iq b);rw[ar,aL]at ao;rw[ar]at P;rw[aL]at av;clear ar aL;have b8:∀w:bD,(Instr.makeMap 409 none).run prog w=.ok (.map (some w.heap.size)) (w.alloc (.map #[] 0)):=fun w=>rfl;by_cases m:ca=0/\cb=0
  rotate_left
  ·have f:Hid (ly a b=([],1)):=aa (by rw[ao.o,yc af]);by_cases t:ca=0
   ·have a2:cb≠0:=fun h=>m ⟨t,h⟩;have d1:(ca !=0)=false:=aG t;have d2:(cb !=0)=true:=aG a2;clear m t a2;go_wp2_with(go_at_call 334;(first|(clear bh;refine(P.o _ ac.o).bC ?_;rintro e x1⟨rfl,c1⟩;have J:=aa (ac.o.bu (c1.bC ac.o.size));clear c1)|(refine(av.o _ J.o).bC ?_;rintro e x2⟨rfl,c2⟩;have B2:=aa (J.o.bu (c2.bC J.o.size));clear c2)));go_ret2;exact⟨_,by rw[f.o];rfl,by rw[f.o];exact qC _ _ _ _ _,B2.o⟩
   ·have d1:(ca !=0)=true:=aG t;clear m t;go_wp2_with(go_at_call 334;(refine(P.o _ ac.o).bC ?_;rintro e x1⟨rfl,c1⟩;have J:=aa (ac.o.bu (c1.bC ac.o.size));clear c1));exact Qbk
  ·obtain⟨rfl,rfl⟩:=m;have ak:Hid (ly a b=if(fS (fI l)).2≠0 then([],(fS (fI l)).2)else if(dK ((ei a).1+(ei b).1)).2≠0 then([],(dK ((ei a).1+(ei b).1)).2)else((fS (fI l)).1,0)):=aa (by rw[ao.o,ya au]);clear ao;go_wp2_with(first
    |(go_at_call 334;(first|(clear bh;refine(P.o _ ac.o).bC ?_;rintro e x1⟨rfl,c1⟩;have J:=aa (ac.o.bu (c1.bC ac.o.size));clear c1)|(refine(av.o _ J.o).bC ?_;rintro e x2⟨rfl,c2⟩;have B2:=aa (J.o.bu (c2.bC J.o.size));clear c2;have B3:=aa (B2.o.alloc B2.o.size (.map #[] 0));have G3:=aa (fF.new x2 vI);have B4:=aa (B3.o.alloc B3.o.size (bH #[.slice n1 a.length k1,.slice n2 b.length U] 66));have G4:=aa (G3.o.alloc (bH #[.slice n1 a.length k1,.slice n2 b.length U] 66));have K4:=aa (bI.new (x2.alloc (.map #[] 0)) 66 #[.slice n1 a.length k1,.slice n2 b.length U]);have ba:Hid ((x2.alloc (.map #[] 0)).heap.size=x2.heap.size+1):=aa au))))
   have aR:=a3.o _ (x2.heap.size+1) (by have h:=K4.o;rw[ba.o]at h;exact h) B4.o;refine aR.bC ?_;rintro e w3⟨v3,rfl,S,F⟩;have B5:=aa (B4.o.bu (F.bC B4.o.size));have Z:Hid (et w3 x2 vI []):=aa (G4.o.keep F).mid.map;have bU:Hid (Bw x2 w3):=aa ((aI.alloc au _).bu (F.bC aA));have a9:=aa S;obtain⟨n3,k3,rfl⟩:=bV S;have bq:x2.heap.size<w3:=Z.o.lt;let⟨M,hM⟩:=aH x2.heap.size;rw[hM]at Z bq;let⟨j0,hj,bz,bW,bn⟩:=wm Er;have bR:Hid (∀wr,ec [M] w3 wr->Bw w wr):=aa fun wr hm=>hm.low B5.o (fun k hk=>by rw[List.mem_singleton.1 hk,<-hM];exact B2.o.size);have bm:Hid (∀wr,ec [M] w3 wr->et wr M vI []∨True):=aa fun _ _=>ci trivial;have al:Hid (w3.ownsRow w 120 3 (.slice n3 l.length k3) l.length (bN df l)):=aa (d8 a9.o B4.o.size);have C:Hid (∀wr,ec [M] w3 wr->wr.ownsRow w 120 3 (.slice n3 l.length k3) l.length (bN df l)):=aa fun wr hm=>ed al.o fun g hg=>hm.far g (al.o.lt g hg).2 (by simpa using vQ Z.o al.o g hg);have bB:Hid (fF w3 w3 M vI [] []):=aa ⟨rfl,⟨Z.o,⟨rfl,fun i h=>xl h au,fun i j h=>xl h au⟩⟩⟩;clear S F bU B4 G4 K4 ba B3 G3 Z bm a9 J;rw[hM];clear hM aR;go_wp2;go_loopw[48] (fun vi wr=>∃(k:Nat) (bv:bF bE),k<=l.length/\vi=k/\fF wr w3 M vI (fI (l.take k)) bv/\ec [M] w3 wr/\wr.ownsRow w 120 3 (.slice n3 l.length k3) l.length (bN df l)) (fun vi _=>l.length-(intOf vi).toNat);exact⟨0,[],cH _,rfl,bB.o,ec.refl _ _,al.o⟩;obtain⟨k,bv,hk,rfl,hG,K,dY⟩:=hrel;let⟨HG,v,bX,bT⟩:=Jh4 hG K dY (Sl.own eG dY);clear hG K dY;by_cases az:k<l.length
   ·obtain⟨cd,bA,b,bx,rfl,b0,bk⟩:=bT.o.hd;let⟨r0,r1,r2⟩:=kL (bk k az);have b2:0<=(k:Int):=af;have bY:k<(l:Int):=af;unfold maxLen at bA;have aS:=aa (JT l k az);have N:Hid (∀p∈fI (l.take k),p.2.length<=10000):=aa fun p hp=>by have:=(wE (l.take k)).2 p hp;rw[dx]at this;omega
    clear bk;generalize l[k]=x at*;let⟨G,a6⟩:=aH (fI (l.take k));rw[a6]at HG aS N;clear a6;have cX:Bw wr (aZ wr (dI x) 120):=aI;let⟨X,E⟩:=aH (wr.alloc (bH (dI x) 120));have bM:=aa E;have ad:Hid (bI X wr.heap.size 120 (dI x)):=aa (by rw[<-E];exact bI.new wr 120 (dI x));have ae:Hid (fF X w3 M vI G bv):=aa (by rw[<-E];exact HG.o.keep cX);have a7:Hid (ec [M] w3 X):=aa (by rw[<-E];exact v.o.alloc _);have bZ:Hid (X.ownsRow w 120 3 (.slice (some ⟨b,bx,none⟩) l.length k3) l.length (bN df l)):=aa (by rw[<-E];exact cJ bX.o cX);let⟨u,L,z⟩:=JQ ae.o N.o x.mem x.bJ;have aj:=aa z;obtain⟨nu,ku,rfl⟩:=bV z.own;have hL:=z.ld;have aU:(X.drew.alloc (bH #[aY x.bJ] 2)).heap[M]?=X.heap[M]?:=rU X.drew _ M ae.o.mid.map.lt;have aW:(X.cell? ⟨wr.heap.size,0,none⟩=some (.int .i64 x.mem)/\X.cell? ⟨wr.heap.size,2,none⟩=some (.int .i64 x.bJ))/\(Instr.lookup 409 (.map (some M)) (aY x.mem) false).run prog X=.ok (lL M x.mem X) X:=⟨⟨ad.o.c 0,ad.o.c 2⟩,tu ae.o _⟩;have bb:((X.drew.alloc (bH #[aY x.bJ] 2)).cell? ⟨wr.heap.size,0,none⟩=some (.int .i64 x.mem)/\(X.drew.alloc (bH #[aY x.bJ] 2)).cell? ⟨wr.heap.size,2,none⟩=some (.int .i64 x.bJ))/\(Instr.lookup 409 (.map (some M)) (aY x.mem) false).run prog (X.drew.alloc (bH #[aY x.bJ] 2))=.ok (lL M x.mem (X.drew.alloc (bH #[aY x.bJ] 2))) (X.drew.alloc (bH #[aY x.bJ] 2)):=⟨⟨((ad.o.d (wd:=X.drew)).alloc _).c 0,((ad.o.d (wd:=X.drew)).alloc _).c 2⟩,tu (ae.o.d.alloc _) _⟩;have R:(X.drew.cell? ⟨wr.heap.size,0,none⟩=some (.int .i64 x.mem)/\X.drew.cell? ⟨wr.heap.size,2,none⟩=some (.int .i64 x.bJ))/\(Instr.lookup 409 (.map (some M)) (aY x.mem) false).run prog X.drew=.ok (lL M x.mem X.drew) X.drew:=⟨⟨ad.o.c 0,ad.o.c 2⟩,tu ae.o.d _⟩;have A:lL M x.mem X.drew=.slice nu L ku:=(uI (z.look X.drew rfl)).1;have D:lL M x.mem (X.drew.alloc (bH #[aY x.bJ] 2))=.slice nu L ku:=(uI (z.look (X.drew.alloc (bH #[aY x.bJ] 2)) aU)).1;clear E cX az z aU;go_wp2_with fail;rw[show wr.alloc (bH #[aY x.mem,aY x.bK,aY x.bJ] 120)=X from bM.o];go_region_held_law(fun W=>(W.cell? ⟨wr.heap.size,0,none⟩=some (.int .i64 x.mem)/\W.cell? ⟨wr.heap.size,2,none⟩=some (.int .i64 x.bJ))/\(Instr.lookup 409 (.map (some M)) (aY x.mem) false).run prog W=.ok (lL M x.mem W) W) (first|exact aW|exact bb|exact R|exact aT|exact bc|assumption|go_keep)
     (first|(refine lV kI ah kj _ aB _ _ 45 aB w3 2 j0 (aY 0) 8 underlying45 hj bz bW bn aB (.slice nu L ku) L (by first|exact A|exact D|rfl) (by exact aj.o.own.alloc _) (some ⟨X.heap.size,0,none⟩) 1 1 [x.bJ] aB aB (by exact Sl.qr eI kI X 2 x.bJ (cs:=#[.int .i64 x.bJ]) rfl) aP aO (by have h9:=a7.o.size;simp;omega) ?_;intro v' w5 aq ab a8;have bs:=aj.o.step _ w5 v' (ae.o.d.alloc _) QaT aq (by exact a8);obtain⟨o6,bp,b9,bl⟩:=bs;have aQ:=aa bl;have bo:=aa (JR (a7.o.drew.alloc (bH #[aY x.bJ] 2)) (u:=.slice nu L ku) QaT (fun q hq=>(aj.o.own.lt q hq).1));have V:=aa (((ad.o.d (wd:=X.drew)).alloc (bH #[aY x.bJ] 2)).grown (w':=w5) (aj.o.own.alloc _) QaT ah);have aJ:w5.heap[M]?=X.heap[M]?:=(JS (W:=X.drew.alloc (bH #[aY x.bJ] 2)) QaT (iN ae.o.mid.map.lt au) aj.o.far).bu (rU X.drew _ M ae.o.mid.map.lt);have aT:=ch (ch (V.o.c 0) (V.o.c 2)) (uI (aj.o.look w5 aJ)).2;have aV:bI (putObj w5 M o6) wr.heap.size 120 (dI x):=(sD w5 M _ _ (sG (ae.o.mid.map.heap aJ) V.o)).bu V.o;have bc:=ch (ch (aV.c 0) (aV.c 2)) (tu aQ.o x.mem);clear ab a8 aq bl aJ))
    all_goals
     clear aW bb R aT bc A D;have a5:=aa (bo.o.bu (vL w5 M o6));go_wp2;go_roundw;exact⟨k+1,bp,af,aw,by rw[aS.o];exact aQ.o,a5.o,C.o _ a5.o⟩;simp[intOf];omega
   ·obtain rfl:k=l.length:=af;have cc:¬(l.length<(l:Int)):=af;rw[show l.take l.length=l from eU (bL _)]at HG;have bw:=bR.o _ v.o;have H:=aa (Ek HG.o (Eo HM.o br.o af));let⟨⟨gl,ge⟩,y⟩:∃r,fS (fI l)=r:=⟨_,rfl⟩;have b3:=aa y;rw[y]at ak;unfold Ai at H;rw[y]at H;clear y;by_cases O:ge=0
    rotate_left
    ·have d0:(ge !=0)=true:=aG O;have f:Hid (ly a b=([],ge)):=aa (by rw[ak.o,yc O]);clear O;go_wp2_with(go_at_call 333;refine H.o.bC ?_;rintro e w5⟨u5,rfl,B,c5⟩;have b5:=bw.bu (c5.bC bw.size));go_ret2;exact⟨_,by rw[f.o];rfl,by rw[f.o];exact qC _ _ _ _ _,b5⟩
    ·subst O;let⟨⟨sv,se⟩,ax⟩:∃r,dK ((ei a).1+(ei b).1)=r:=⟨_,rfl⟩;rw[ax]at ak;have i1:=JV a;have i2:=JV b;have Y:=aa (fun W=>Be (ei a).1 (ei b).1 i1 i2 W);rw[ax]at Y;let⟨⟨sa,ta⟩,a4⟩:∃r,ei a=r:=⟨_,rfl⟩;let⟨⟨sb,tb⟩,n⟩:∃r,ei b=r:=⟨_,rfl⟩;rw[a4]at ay Y;rw[n]at aC Y;have ap:True:=trivial;clear ax a4 n i1 i2;by_cases O:se=0
     rotate_left
     ·have d0:(se !=0)=true:=aG O;have f:Hid (ly a b=([],se)):=aa (by rw[ak.o,ya au,yc O]);clear O;go_wp2_with(first
       |(go_at_call 333;refine H.o.bC ?_;rintro e w5⟨u5,rfl,B,c5⟩;have b5:=aa (bw.bu (c5.bC bw.size)))
       |(go_at_call 245;(first|(clear ap;refine(ay.o _ b5.o).bC ?_;rintro e x6⟨rfl,c6⟩;have b6:=aa (b5.o.bu (c6.bC b5.o.size)))|(refine(aC.o _ b6.o).bC ?_;rintro e x7⟨rfl,c7⟩;have b7:=aa (b6.o.bu (c7.bC b6.o.size)))))
       |(go_at_call 281;refine(Y.o _).bC ?_;rintro e w8⟨rfl,aK⟩;subst aK))
      go_ret2;exact⟨_,by rw[f.o];rfl,by rw[f.o];exact qC _ _ _ _ _,b7.o⟩
     ·subst O;have f:Hid (ly a b=(gl,0)):=aa (by rw[ak.o,ya au,ya au]);go_wp2_with(first
       |(go_at_call 333;refine H.o.bC ?_;rintro e w5⟨u5,rfl,B,c5⟩;have b5:=aa (bw.bu (c5.bC bw.size));have O5:=aa (d8 B bw.size);obtain⟨n5,k5,rfl⟩:=bV B;clear B)
       |(go_at_call 245;(first|(clear ap;refine(ay.o _ b5.o).bC ?_;rintro e x6⟨rfl,c6⟩;have b6:=aa (b5.o.bu (c6.bC b5.o.size));have O6:=aa (cJ O5.o c6))|(refine(aC.o _ b6.o).bC ?_;rintro e x7⟨rfl,c7⟩;have b7:=aa (b6.o.bu (c7.bC b6.o.size));have O7:=aa (cJ O6.o c7))))
       |(go_at_call 281;refine(Y.o _).bC ?_;rintro e w8⟨rfl,aK⟩;subst aK))
      go_ret2;exact⟨_,by rw[f.o];rfl,by rw[f.o];exact O7.o,b7.o⟩
section
variable {B:Nat} {K:List Nat} {A:DA} {D:DS} {w:World}
def tw{gv:Nat}(e:A.gv=gv)(h:cQ w B A D)(ok:cC D)(hK:dS w K A)(hB:B<=w)(a b:Ac)(bK bJ:Int)(h64:bO bJ):
  bG 167 #[ptr gv,fo a,fo b,bK,bJ] w fun e w'=>∃A' r,e=.returned (aY r)/\cL B K w w' A A' (D.move a b bK bJ):=by
 subst e;exact(DR h ok hK hB a b bK bJ h64).bC fun _ _ ⟨_,_,_,r,he,hs⟩=>⟨_,r,he,hs⟩
variable{gd:Nat}
def tx(e:A.gd=gd)(h:cQ w B A D)(hK:dS w K A)(hB:B<=w)(ev:bF Ev)(ad:Addr)(cap:Nat)(hs:Sl eE 5 w (.slice (some ad) ev cap) ev)(hn:D.log.length+ev.length<=1000000):
  bG 164 #[ptr gd,.slice (some ad) ev cap] w fun e w'=>∃A',e=.returned (.tuple #[])/\cL B K w w' A A' (D.tell ev):=by
 subst e;exact(yl h hK hB ev ad cap hs hn).bC fun _ _ ⟨_,he,hs⟩=>⟨_,he,hs⟩
end
abbrev S4(gd gv bx:Nat)(x:Lg)(W:World):Prop:=W.cell? (be gd 8)=some (ptr gv)/\W.cell? (be bx 0)=x.mem/\W.cell? (be bx 1)=x.bK/\W.cell? (be bx 2)=x.bJ
variable{B bx gd:Nat}{A:DA}{D:DS}
def S4.of{gv:Nat}{x:Lg}(h:cQ W B A D)(e1:A.gd=gd)(e2:A.gv=gv)(hx:bI W bx 120 (dI x)):S4 gd gv bx x W:=by subst e1 e2;exact⟨h.blk.c 8,hx.c 0,hx.c 1,hx.c 2⟩
def DS.uJ(D:DS)(x:Lg):DS:=(D.move ⟨1,0⟩ ⟨7,x.mem⟩ x.bK x.bJ).tell [⟨13,x.mem,x.bK,x.bJ,0⟩]
def DS.give(D:DS)(l:List Lg):DS:=l.foldl DS.uJ D
def Wy(D:DS)(l:bF Lg)(k:Nat)(h:k<l):D.give (l.take (k+1))=(D.give (l.take k)).uJ l[k]:=by unfold DS.give;rw[fj h,rX];rfl
def Es(l:bF Lg):∀D:DS,(D.give l).log.length=D.log.length+l.length:=by
 induction l with
 |nil=>intro D;rfl
 |cons x l ih=>
  intro D;show(DS.give (D.uJ x) l).log.length=_
  rw[ih];show(D.log++[_]).length+_=_
  simp;omega
def cC.uJ(ok:cC D)(x:Lg):cC (D.uJ x):=(ok.move _ _ _ _).tell _
def cC.give(l:bF Lg):∀{D:DS},cC D->cC (D.give l):=by
 induction l with
 |nil=>intro D n;exact n
 |cons x l ih=>intro D n;exact ih (n.uJ x)
def wF(B:Nat)(K:List Nat)(A:DA)(w:World)(D':DS)(e:Ending)(w':World):Prop:=∃A',e=.returned (.tuple #[])/\cL B K w w' A A' D'
variable{K:bF Nat}{w:bD}
def JW(h:cQ w B A D)(ok:cC D)(hK:dS w K A)(hB:B<=w)(v:bE)(l:bF Lg)(B0:Nat)(hv:w.ownsRow B0 120 3 v l.length (bN df l))(hn:l.length<=1024)(h64:∀x∈l,bO x.bJ)(hlog:D.log.length<=900000):
  bG 270 #[ptr A.gd,v] w (wF B K A w (D.give l)):=by
 let⟨ao,P,OK,M,Z⟩:=Jh5 h hK ok hv h64;obtain⟨n2,k2,rfl⟩:=bV hv;clear h ok hK hv h64;go_enter func270,ntmps270;go_wp2;go_loopw[8] (fun vi wr=>∃(k:Nat) (q:DA),k<=l.length/\vi=k/\cL B K w wr A q (D.give (l.take k))/\wr.ownsRow B0 120 3 (.slice n2 l.length k2) l.length (bN df l)) (aW l.length);exact⟨0,A,cH _,rfl,cL.same ao.o (bM _ _),M.o⟩;obtain⟨k,q,hk,rfl,t,dY⟩:=hrel;let⟨ae,g,aq⟩:=Jh3 t dY (Sl.own eG dY);have ak:=t.mod.size;clear t dY;by_cases ac:k<l.length
 ·obtain⟨F,ap,b,m,rfl,y,n⟩:=aq.o.hd;let⟨r0,s,r2⟩:=kL (n k ac);have O:0<=(k:Int):=af;have C:k<(l:Int):=af;unfold maxLen at ap;let⟨aj,T,J⟩:=Jh3 (Wy D l k ac) (Z.o l[k] (cZ ac)) (cC.give (l.take k) OK.o);have E:(D.give (l.take k)).log.length+1<=1000000:=by rw[Es,dx];omega
  let⟨p,N⟩:=aH (D.give (l.take k));rw[N]at aj J ae E;clear n N;generalize l[k]=x at*;have I:Bw wr (aZ wr (dI x) 120):=aI;let⟨H,R,ag⟩:=Jh3 (bI.new wr 120 (dI x)) (ae.o.keep I) (cJ g.o I);have f:=I.size;have Y:Hid (wr.heap.size<(wr.alloc (bH (dI x) 120)).heap.size):=aa H.o.lt;let⟨X,hX⟩:=aH (wr.alloc (bH (dI x) 120));have a:=aa hX;rw[hX]at H R ag f Y;let⟨z,d,an⟩:=Jh3 (j7.start X B q p R.o.at') (P.o.step R.o) (bW hB (bW ak f));have am:=S4.of R.o.at' R.o.gd R.o.gv H.o;clear hX I ac;go_wp2_with fail;rw[show wr.alloc (bH #[aY x.mem,aY x.bK,aY x.bJ] 120)=X from a.o];go_region_held3(fun W=>S4 A.gd A.gv wr x W) (first|exact am|exact s1|exact s2|exact s3|assumption|go_keep)
   (first
    |(go_at_call 155;refine(mZ _).bC ?_;rintro e V⟨rfl,rfl⟩;(first|have S:=aa (G.o.alloc (bH (cT ⟨1,0⟩) 81))|have S:=aa (z.o.alloc (bH (cT ⟨1,0⟩) 81)));have s1:=S4.of S.o.2 R.o.gd R.o.gv (H.o.keep S.o.1))
    |(go_at_call 140;refine(qZ x.mem _).bC ?_;rintro e x2⟨rfl,rfl⟩;(first|have G:=aa (S.o.alloc (bH (cT ⟨7,x.mem⟩) 81))|have G:=aa (z.o.alloc (bH (cT ⟨7,x.mem⟩) 81)));have s2:=S4.of G.o.2 R.o.gd R.o.gv (H.o.keep G.o.1))
    |(go_at_call 167;(first|(refine(tw (K:=K) R.o.gv G.o.2 J.o (d.o.keep G.o.1) (bW an.o G.o.1.size) ⟨1,0⟩ ⟨7,x.mem⟩ x.bK x.bJ T.o).bC ?_;rintro e L⟨A3,r3,rfl,ad⟩;have j:=aa (ad.before G.o.1))|(refine(tw (K:=K) R.o.gv S.o.2 J.o (d.o.keep S.o.1) (bW an.o S.o.1.size) ⟨1,0⟩ ⟨7,x.mem⟩ x.bK x.bJ T.o).bC ?_;rintro e L⟨A3,r3,rfl,ad⟩;have j:=aa (ad.before S.o.1)));have c:=aa (H.o.cu j.o.mod ah);have s3:=S4.of j.o.at' (j.o.gd.bu R.o.gd) (j.o.gv.bu R.o.gv) c.o;clear ad))
  all_goals
   rename_i r;clear r s1 s2 am;let⟨ab,al⟩:=Jh2 (R.o.bu j.o) (dq ag.o j.o.mod ah);have U:=aa (P.o.step ab.o);obtain⟨t0,t1,t2,t3⟩:=s3;have cY:Bw L (L.alloc (bH #[(13:Int),aY x.mem,aY x.bK,aY x.bJ,()] 101)):=aI;have HT:=aa (tx (K:=K) ab.o.gd (ab.o.at'.keep cY) (U.o.keep cY) (bW hB (bW ab.o.mod.size cY.size)) [⟨13,x.mem,x.bK,x.bJ,0⟩] (be L 0) 1 (Sl.fg eE jg L 101 ⟨13,x.mem,x.bK,x.bJ,0⟩ aB _ rfl) E);go_wp2_with(go_at_call 164;refine HT.o.bC ?_;rintro e w8⟨A8,rfl,Q⟩;have u:=aa ((ab.o.keep cY).bu Q);have ai:=aa (dq (cJ al.o cY) Q.mod ah);clear Q);go_roundw;exact⟨k+1,A8,af,aw,by rw[aj.o];exact u.o,ai.o⟩;exact eZ af
 ·obtain rfl:k=l.length:=af;have i:¬(l.length<(l:Int)):=af;rw[show l.take l.length=l from eU (bL _)]at ae;go_wp2;go_end0;exact⟨q,rfl,ae.o⟩
def ey(k:Int)(l:List Lg):List Ev:=l.map fun x=>⟨k,x.mem,x.bK,x.bJ,0⟩
def Wz(D:DS)(kd:Int)(l:bF Lg)(k:Nat)(h:k<l):(D.tell (ey kd (l.take k))).tell [⟨kd,l[k].mem,l[k].bK,l[k].bJ,0⟩]=D.tell (ey kd (l.take (k+1))):=by unfold DS.tell ey;rw[fj h,jf];simp[fz]
def WA(h:cQ w B A D)(hK:dS w K A)(hB:B<=w)(v:bE)(l:bF Lg)(B0:Nat)(hv:w.ownsRow B0 120 3 v l (bN df l))(hn:l.length<=1024)(kd:Int)(hlog:D.log.length<=900000):
  bG 271 #[v,kd,.func (.func 164) #[ptr A.gd] #[]] w (wF B K A w (D.tell (ey kd l))):=by
 let⟨d,P,M⟩:=Jh3 h hK hv;obtain⟨R,U,rfl⟩:=bV hv;clear h hK hv;go_enter func271,ntmps271;go_wp2;go_loopw[10] (fun vi wr=>∃(k:Nat) (q:DA),k<=l.length/\vi=k/\cL B K w wr A q (D.tell (ey kd (l.take k)))/\wr.ownsRow B0 120 3 (.slice R l U) l (bN df l)) (aW l);exact⟨0,A,cH _,rfl,by rw[show D.tell (ey kd (l.take 0))=D from by unfold DS.tell ey;simp];exact cL.same d.o (bM _ _),M.o⟩;obtain⟨k,q,T,rfl,t,J⟩:=hrel;let⟨X,g,H⟩:=Jh3 t J (Sl.own eG J);have G:=t.mod.size;clear t J;by_cases f:k<l
 ·obtain⟨F,c,b,m,rfl,y,n⟩:=H.o.hd;let⟨V,s,W⟩:=kL (n k f);have O:0<=(k:Int):=af;have C:k<(l:Int):=af;unfold maxLen at c;have j:=aa (Wz D kd l k f);have E:(D.tell (ey kd (l.take k))).log.length+1<=1000000:=by
   show(D.log++ey kd (l.take k)).length+1<=_
   unfold ey;rw[cO,cR,dx];omega
  let⟨p,N⟩:=aH (D.tell (ey kd (l.take k)));rw[N]at j X E;clear n N;generalize l[k]=x at*;have I:Bw wr (aZ wr (dI x) 120):=aI;have r:=I.alloc I.size (bH #[kd,x.mem,x.bK,x.bJ,()] 101);let⟨S,z⟩:=Jh2 (tx (K:=K) X.o.gd (X.o.at'.keep r) ((P.o.step X.o).keep r) (bW hB (bW G r.size)) [⟨kd,x.mem,x.bK,x.bJ,0⟩] (be (wr.heap.size+1) 0) 1 (Sl.fg eE jg (aZ wr (dI x) 120) 101 ⟨kd,x.mem,x.bK,x.bJ,0⟩ aB _ au) E) (cJ g.o r);go_wp2_with(go_at_call 164;refine S.o.bC ?_;rintro e Y⟨L,rfl,Q⟩;have u:=aa ((X.o.keep r).bu Q);have a:=aa (dq z.o Q.mod ah);clear Q);go_roundw;exact⟨k+1,L,af,aw,by rw[<-j.o];exact u.o,a.o⟩;exact eZ af
 ·obtain rfl:k=l.length:=af;have i:¬(l.length<(l:Int)):=af;rw[show l.take l.length=l from eU (bL _)]at X;go_wp2;go_end0;exact⟨q,rfl,X.o⟩
def tz(x:Lg)(done:Int)(lost:Bool):Int×Int:=if x.bJ<=done then(2,x.bJ)else if x.bK=0∨lost=true then(5,done)else(4,done)
def DS.mark(D:DS)(x:Lg)(done:Int)(lost:Bool):DS:={D with bQ:=(fL D.bQ x.mem x.bK (tz x done lost).1 (tz x done lost).2).2}
def cC.mark(ok:cC D)(x:Lg)(done:Int)(lost:Bool):cC (D.mark x done lost):=DW ok _ _ _ _
variable{gs:Nat}
def JX(e:A.gs=gs)(h:cQ w B A D)(ok:cC D)(hK:dS w K A)(m a s d:Int):bG 259 #[ptr gs,m,a,s,d] w fun e w'=>∃r,e=.returned (aY r)/\cL B K w w' A A {D with bQ:=(fL D.bQ m a s d).2}/\∀g,g<w.heap.size->A.vo.ownBlock≠some g->w'.heap[g]?=w.heap[g]?:=by
 subst e;refine(QI B A.gs A.vo D.bQ m a s d ((List.range w).filter fun g=>decide (A.vo.ownBlock≠some g)) w h.fZ aU (fun k hk Z=>by
  have:=(tU.1 Z).2
  simp[hk]at this)).bC ?_
 rintro e w'⟨V,L,Z⟩;have b:cg B [71] K w w':=⟨Z.os,Z.tape,Z.output,Z.size,fun k hk hc=>by
  by_cases R:A.vo.ownBlock=some k
  ·refine Z.far k hk ?_;rcases hc with hc|hc|hc
   ·exact bS hc
   ·exact xl hc (hK.own h.fZ.own ah k R)
   ·exact ci (ci hc)
  ·exact Z.far k hk (ci (bS (tU.2 ⟨FC.2 hk,aG R⟩)))⟩
 exact⟨_,V,h.DK (b.bC ah) L,fun g hg R=>Z.far g hg (ci (bS (tU.2 ⟨FC.2 hg,aG R⟩)))⟩
abbrev S3(gd gs bx:Nat)(x:Lg)(W:World):Prop:=W.cell? (be gd 9)=some (ptr gs)/\W.cell? (be bx 0)=x.mem/\W.cell? (be bx 1)=x.bK/\W.cell? (be bx 2)=x.bJ
def S3.of{x:Lg}(h:cQ W B A D)(e1:A.gd=gd)(e2:A.gs=gs)(hx:bI W bx 120 (dI x)):S3 gd gs bx x W:=by subst e1 e2;exact⟨h.blk.c 9,hx.c 0,hx.c 1,hx.c 2⟩
def WC(x:Lg)(done:Int)(lost:Bool):(decide (x.bJ<=done)=true/\tz x done lost=(2,x.bJ))∨(decide (x.bJ<=done)=false/\(x.bK==0)=true/\tz x done lost=(5,done))∨(decide (x.bJ<=done)=false/\(x.bK==0)=false/\lost=true/\tz x done lost=(5,done))∨(decide (x.bJ<=done)=false/\(x.bK==0)=false/\lost=false/\tz x done lost=(4,done)):=by
 unfold tz;by_cases d:x.bJ<=done
 ·exact bS ⟨dT d,yc d⟩
 ·by_cases c:x.bK=0
  ·exact ci (bS ⟨dF d,aG c,by rw[ya d,yc (bS c)]⟩)
  ·cases lost
   ·exact ci (ci (ci ⟨dF d,aG c,rfl,by rw[ya d,ya (by simp[c])]⟩))
   ·exact ci (ci (bS ⟨dF d,aG c,rfl,by rw[ya d,yc au]⟩))
def WD(h:cQ w B A D)(ok:cC D)(hK:dS w K A)(x:Lg)(done:Int)(lost:Bool):
  bG 219 #[ptr A.gd,vLg x,done,.bool lost] w fun e w'=>e=.returned (.tuple #[])/\cL B K w w' A A (D.mark x done lost)/\∀g,g<w.heap.size->A.vo.ownBlock≠some g->w'.heap[g]?=w.heap[g]?:=by
 let⟨a,v⟩:=aH (w.alloc (bH (dI x) 120));have b:Bw w a:=by rw[<-v];exact aI
 have R:Hid (bI a w 120 (dI x)):=aa (by rw[<-v];exact bI.new w 120 (dI x));let⟨E,J,P,L,l⟩:=Jh5 v h (h.keep b) (hK.keep b) ok;have F:Hid (A.vo.ownBlock≠some w.heap.size):=aa (fun e=>by have:=h.fZ.own.lt _ e;omega);let⟨⟨s,f⟩,y⟩:∃r,tz x done lost=r:=⟨_,rfl⟩;have H:Hid (D.mark x done lost={D with bQ:=(fL D.bQ x.mem x.bK s f).2}):=aa (by unfold DS.mark;rw[y]);have C:Hid (∀W,W.heap=a.heap->Bw w W->bG 259 #[ptr A.gs,x.mem,x.bK,s,f] W fun e w'=>∃r,e=.returned (aY r)/\cL B K w w' A A {D with bQ:=(fL D.bQ x.mem x.bK s f).2}/\(∀g,g<w.heap.size->A.vo.ownBlock≠some g->w'.heap[g]?=w.heap[g]?)/\S3 A.gd A.gs w x w'):=aa (fun W e c=>by
  refine(JX (K:=K) rfl ((h.keep b).d e) ok ((hK.keep b).d e) x.mem x.bK s f).bC ?_;rintro e w'⟨r,V,p,I⟩;have z:w.heap.size<W.heap.size:=by rw[‹W.heap=a.heap›];exact R.o.lt
  have u:bI w' w 120 (dI x):=(I w z F.o).bu (by rw[‹W.heap=a.heap›];exact R.o);exact⟨r,V,(cL.same h c).bu ⟨p.at',p.mod,p.gd,p.gv,p.gs,p.gx,p.goes⟩,fun g hg hv=>(I g (Nat.lt_trans hg z) hv).bu (c.block g hg),S3.of p.at' rfl rfl u⟩)
 have N:=S3.of P.o rfl rfl R.o;obtain⟨t,j,Z,Y⟩:=N;have N:S3 A.gd A.gs w x a:=⟨t,j,Z,Y⟩;have m:=WC x done lost;rw[y]at m;clear h ok hK v y;have q:Hid (∀W:bD,True):=aa fun _=>trivial;rcases m with⟨t1,e⟩|⟨t1,t2,e⟩|⟨t1,t2,rfl,e⟩|⟨t1,t2,rfl,e⟩<;>(obtain⟨rfl,rfl⟩:_/\_:=aG e)<;>clear e
 ·go_enter func219,ntmps219;go_wp2_with fail;rw[show w.alloc (bH #[x.mem,x.bK,x.bJ] 120)=a from E.o];go_wp2;go_region;go_wp2;go_region_held3(fun W=>S3 A.gd A.gs w x W) (first|exact N|exact S|assumption|go_keep)
   (first|(go_at_call 259;refine(C.o a.drew.drew rfl b.drew.drew).bC ?_;rintro e T⟨k,rfl,M,n,S⟩;have G:=aa M;have i:=aa n))
  all_goals
   exact Qdp
 all_goals
  go_enter func219,ntmps219;go_wp2_with fail;rw[show w.alloc (bH #[x.mem,x.bK,x.bJ] 120)=a from E.o];go_wp2;go_region_held3(fun W=>S3 A.gd A.gs w x W) (first|exact N|exact S|assumption|go_keep)
   (first|(go_at_call 259;refine(C.o a.drew rfl b.drew).bC ?_;rintro e T⟨k,rfl,M,n,S⟩;have G:=aa M;have i:=aa n))
  all_goals
   exact Qdp
section
variable {B:Nat} {K:List Nat} {A:DA} {D:DS} {w:World} {gd:Nat}
def uK(e:A.gd=gd)(h:cQ w B A D)(ok:cC D)(a:Ac)(bK:Int):bG 137 #[ptr gd,fo a,bK] w (bi (D.eQ a bK) w):=by subst e;exact ye h ok a bK
def JY(e:A.gd=gd)(h:cQ w B A D)(ok:cC D)(a:Int):bG 203 #[ptr gd,a] w (gP df 120 3 (D.good a) w):=by subst e;exact zU h ok a
def WE(e:A.gd=gd)(h:cQ w B A D)(ok:cC D)(n:Int)(hn:bO n):bG 213 #[ptr gd,n] w (bi (jt n (D.eQ ⟨1,0⟩ 0)) w):=by subst e;exact IS h ok n hn
def WF(e:A.gd=gd)(h:cQ w B A D)(ok:cC D)(a:Int):bG 162 #[ptr gd,a] w (bi (D.short a) w):=by subst e;exact zV h ok a
def WG(e:A.gd=gd)(h:cQ w B A D)(ok:cC D)(hK:dS w K A)(hB:B<=w)(v:bE)(l:bF Lg)(B0:Nat)(hv:w.ownsRow B0 120 3 v l.length (bN df l))(hn:l.length<=1024)(h64:∀x∈l,bO x.bJ)(hlog:D.log.length<=900000):
  bG 270 #[ptr gd,v] w (wF B K A w (D.give l)):=by
 subst e;exact JW h ok hK hB v l B0 hv hn h64 hlog
def JZ(e:A.gd=gd)(h:cQ w B A D)(hK:dS w K A)(hB:B<=w)(v:bE)(l:bF Lg)(B0:Nat)(hv:w.ownsRow B0 120 3 v l (bN df l))(hn:l.length<=1024)(kd:Int)(hlog:D.log.length<=900000):
  bG 271 #[v,kd,.func (.func 164) #[ptr gd] #[]] w (wF B K A w (D.tell (ey kd l))):=by
 subst e;exact WA h hK hB v l B0 hv hn kd hlog
end
def DS.leave1(D:DS)(a:Int):DS:=if 0<D.eQ ⟨1,0⟩ a then(D.move ⟨1,0⟩ ⟨2,0⟩ a (D.eQ ⟨1,0⟩ a)).tell [⟨16,0,a,D.eQ ⟨1,0⟩ a,0⟩]else D
def DS.ja(D:DS):Nat->DS
 |0=>D
 |k+1=>(D.ja k).leave1 k
variable{D:DS}
def cC.leave1(ok:cC D)(a:Int):cC (D.leave1 a):=by
 unfold DS.leave1;split
 ·exact(ok.move _ _ _ _).tell _
 ·exact ok
def cC.ja(ok:cC D):∀k,cC (D.ja k):=by
 intro k;induction k with
 |zero=>exact ok
 |succ k ih=>exact ih.leave1 k
def WH(D:DS)(a:Int):(D.leave1 a).log.length<=D.log.length+1:=by
 unfold DS.leave1;split
 ·show(D.log++[_]).length<=_
  simp
 ·omega
def WI(D:DS):∀k,(D.ja k).log.length<=D.log.length+k:=by
 intro k;induction k with
 |zero=>exact bL _
 |succ k ih=>
  have:=WH (D.ja k) k
  show((D.ja k).leave1 k).log.length<=_
  omega
variable{w:bD}{B gd:Nat}{A:DA}
def jC(e:A.gd=gd)(h:cQ w B A D):w.cell? (be gd 8)=some (ptr A.gv):=by subst e;exact h.blk.c 8
variable{K:bF Nat}
def WJ(h:cQ w B A D)(ok:cC D)(hK:dS w K A)(hB:B<=w)(hlog:D.log.length<=900000):
  bG 221 #[ptr A.gd] w (wF B K A w (D.ja (D.C.secs.length+1))):=by
 let⟨d,P,l⟩:=Jh3 h hK ok;let⟨T,F,ae,_⟩:=h.ct.sl.s;have q1:w.cell? (be A.gd 1)=some (.slice T D.C.secs F):=(h.blk.c 1).bu (ym some ae);have ai:D.C.secs.length<=8:=ok.ct.s2;let⟨S,U⟩:=aH D.C.secs.length;rw[U]at q1 ai⊢;have H:=(gJ S af).1;have ah:=(gJ S af).2;let⟨N,hN⟩:=aH (S+1);have G:(S:Int)+1=(N:Int):=af;rw[G]at H ah;rw[hN];clear h ok hK ae U;go_enter func221,ntmps221;go_wp2;go_loopw[11] (fun vi wr=>∃(k:Nat) (q:DA),k<=N/\vi=k/\cL B K w wr A q (D.ja k)) (aW N);exact⟨0,A,cH _,rfl,cL.same d.o (bM _ _)⟩;obtain⟨k,q,hk,rfl,t⟩:=hrel;have X:=aa t;have al:=t.mod.size;clear t;by_cases ag:k<N
 ·have am:0<=(k:Int):=af;have an:k<(N:Int):=af;have J:=aa (l.o.ja k);have E:(D.ja k).log.length<=900010:=by have:=WI D k;omega
  have x:Hid (D.ja (k+1)=(D.ja k).leave1 k):=aa rfl;let⟨p,ac⟩:=aH (D.ja k);rw[ac]at x J X E;have cA:Bw wr (aZ wr (cT ⟨1,0⟩) 81):=aI;have ab:=aa (uK X.o.gd (X.o.at'.keep cA) J.o ⟨1,0⟩ (k:Int));have b:=aa (ru J.o ⟨1,0⟩ (k:Int));have Z:p.leave1 k=if 0<p.eQ ⟨1,0⟩ k then(p.move ⟨1,0⟩ ⟨2,0⟩ k (p.eQ ⟨1,0⟩ k)).tell [⟨16,0,k,p.eQ ⟨1,0⟩ k,0⟩]else p:=rfl;let⟨n,hn⟩:=aH (p.eQ ⟨1,0⟩ (k:Int));rw[hn]at ab b Z;have ad:=aa Z;clear ac hn Z ag;by_cases O:0<n
  rotate_left
  ·have d0:=dF O;have HE:Hid (p.leave1 k=p):=aa (by rw[ad.o,ya O]);clear O;go_wp2_with(first|(go_at_call 155;refine(mZ _).bC ?_;rintro e V⟨rfl,rfl⟩)|(go_at_call 137;refine ab.o.bC ?_;rintro e g⟨rfl,f⟩;have C2:=aa (cA.bu (f.bC cA.size))));go_roundw;exact⟨k+1,q,af,aw,by rw[x.o,HE.o];exact X.o.keep C2.o⟩;exact eZ af
  ·have d0:=dT O;have HE:Hid (p.leave1 k=(p.move ⟨1,0⟩ ⟨2,0⟩ k n).tell [⟨16,0,k,n,0⟩]):=aa (by rw[ad.o,yc O]);clear O;go_wp2_with(first|(go_at_call 155;refine(mZ _).bC ?_;rintro e V⟨rfl,rfl⟩)|(go_at_call 137;refine ab.o.bC ?_;rintro e g⟨rfl,f⟩;have C2:=aa (cA.bu (f.bC cA.size))));have a:=aa (X.o.keep C2.o);let⟨aj,ak,z⟩:=Jh3 (P.o.step a.o) (bW hB a.o.mod.size) (j7.start g B q p a.o.at');have m:g.cell? (be A.gd 8)=some (ptr q.gv):=jC a.o.gd a.o.at';go_region_held3(fun W=>W.cell? (be A.gd 8)=some (ptr q.gv)) (first|exact m|exact I|exact s3|assumption|go_keep)
    (first
     |(go_at_call 155;refine(mZ _).bC ?_;rintro e L⟨rfl,rfl⟩;have N1:=aa (z.o.alloc (bH (cT ⟨1,0⟩) 81));have I:=jC a.o.gd N1.o.2)
     |(go_at_call 167;refine(tw (K:=K) rfl N1.o.2 J.o (aj.o.keep N1.o.1) (bW ak.o N1.o.1.size) ⟨1,0⟩ ⟨2,0⟩ (k:Int) n b.o).bC ?_;rintro e R⟨j,M,rfl,y⟩;have Y:=aa (a.o.bu (y.before N1.o.1));have s3:R.cell? (be A.gd 8)=some (ptr q.gv):=(by rw[<-y.gv];exact jC (y.gd.bu a.o.gd) y.at');clear y))
   all_goals
    rename_i r;clear r I s3 m;have v:=aa (P.o.step Y.o);have cY:Bw R (R.alloc (bH #[(16:Int),(),k,aY n,()] 101)):=aI;have HT:=aa (tx (K:=K) Y.o.gd (Y.o.at'.keep cY) (v.o.keep cY) (bW hB (bW Y.o.mod.size cY.size)) [⟨16,0,k,n,0⟩] (be R 0) 1 (Sl.fg eE jg R 101 ⟨16,0,k,n,0⟩ aB _ rfl) (by show p.log.length+1<=1000000;omega));go_wp2_with(go_at_call 164;refine HT.o.bC ?_;rintro e w8⟨A8,rfl,Q⟩;have u:=aa ((Y.o.keep cY).bu Q);clear Q);go_roundw;exact⟨k+1,A8,af,aw,by rw[x.o,HE.o];exact u.o⟩;exact eZ af
 ·obtain rfl:k=N:=af;have i:¬(k<(k:Int)):=af;go_wp2;go_end0;exact⟨q,rfl,X.o⟩
def iW(who fl:List Int):List Ev:=(fl.filter fun m=> !iR who m).map fun m=>⟨8,m,0,0,0⟩
def WK(who fl:bF Int)(k:Nat)(h:k<fl):iW who (fl.take (k+1))=iW who (fl.take k)++if iR who fl[k]then[]else[⟨8,fl[k],0,0,0⟩]:=by unfold iW;rw[fj h,yQ,jf];cases hx:iR who fl[k]<;>simp[hx]
def J0(who fl:bF Int):(iW who fl).length<=fl:=by unfold iW;rw[cR];exact mO _ _
def DS.outs(D:DS):DS:={D.tell (iW D.who (gQ D.bQ))with who:=ft D.who (gQ D.bQ)}
def DS.fa(D:DS)(x:Ob):DS:=
 if x.cN≠1∨(fM x D.who).1=1 then D
 else if x.cE<0 then({D with bQ:=(fL D.bQ x.mem x.bK (fM x D.who).1 (fM x D.who).2).2}:DS).tell [⟨9,x.mem,x.bK,wrap64 (-x.cE),0⟩]
 else{D with bQ:=(fL D.bQ x.mem x.bK (fM x D.who).1 (fM x D.who).2).2}
def DS.close(D:DS):DS:=D.bQ.foldl DS.fa D.outs
def J1(D:DS)(x:Ob):(D.fa x).who=D.who:=by
 unfold DS.fa;split
 ·rfl
 ·split<;>rfl
def WL(D:DS)(x:Ob):(D.fa x).C=D.C:=by
 unfold DS.fa;split
 ·rfl
 ·split<;>rfl
def WM(D:DS)(x:Ob):(D.fa x).log.length<=D.log.length+1:=by
 unfold DS.fa;split
 ·omega
 ·split
  ·show(D.log++[_]).length<=_
   simp
  ·show D.log.length<=_;omega
def cC.fa(ok:cC D)(x:Ob):cC (D.fa x):=by
 unfold DS.fa;split
 ·exact ok
 ·split
  ·exact(DW ok _ _ _ _).tell _
  ·exact DW ok _ _ _ _
def J2(l:bF Ob):∀{D:DS},cC D->cC (l.foldl DS.fa D)/\(l.foldl DS.fa D).log.length<=D.log.length+l.length/\(l.foldl DS.fa D).who=D.who:=by
 induction l with
 |nil=>intro D n;exact⟨n,bL _,rfl⟩
 |cons x l ih=>
  intro D n;let⟨d,c,a⟩:=ih (n.fa x);have:=WM D x
  rw[qX];exact⟨d,by rw[gL];omega,a.bu (J1 D x)⟩
def J4(D:DS)(l:bF Ob)(k:Nat)(h:k<l):(l.take (k+1)).foldl DS.fa D=((l.take k).foldl DS.fa D).fa l[k]:=by rw[fj h,rX];rfl
def J5(l:bF Ob):(gQ l).length<=l:=bW (Ri _) (bW (gK _ _) (gK _ _))
def cC.outs(ok:cC D)(hw:(ft D.who (gQ D.bQ)).length<=1000):cC D.outs:=⟨ok.ct,ok.bal,ok.b64,ok.holds,ok.rise,ok.bQ,ok.fC,hw⟩
def Et(ok:cC D):(iW D.who (gQ D.bQ)).length<=1024:=bW (J0 _ _) (bW (J5 _) ok.bQ)
def WN(h:cQ w B A D)(hK:dS w K A)(hB:B<=w)(ev:bF Ev)(ad:Addr)(cap:Nat)(hs:Sl eE 5 w (.slice (some ad) ev cap) ev)(hn:D.log.length+ev.length<=1000000):
  bG 164 #[ptr A.gd,.slice (some ad) ev cap] w fun e w'=>∃vl,e=.returned (.tuple #[])/\cL B K w w' A {A with vl:=vl} (D.tell ev)/\cg B [138,101] K w w':=
 (Gz B A.gd (A.cells D) A.vl D.log ev ad cap K w h.blk rfl h.l1 hB h.log hs hn (hK.blk h.blk ah) hK.log).bC fun _ _ ⟨vl,he,ht⟩=>⟨vl,he,h.told ht,ht.mod⟩
abbrev SO(gd gs bx:Nat)(v:Value)(x:Ob)(W:World):Prop:=W.cell? (be gd 9)=some (ptr gs)/\W.cell? (be gd 11)=some v/\W.cell? (be bx 0)=x.cycle/\W.cell? (be bx 1)=x.mem/\W.cell? (be bx 2)=x.bK/\W.cell? (be bx 3)=x.cE/\W.cell? (be bx 4)=x.done/\W.cell? (be bx 5)=x.cN
variable{v:bE}
def SO.of{x:Ob}(h:cQ W B A D)(e1:A.gd=gd)(e2:A.gs=gs)(e3:A.vw=v)(hx:bI W bx 71 (gE x)):SO gd gs bx v x W:=by subst e1 e2 e3;exact⟨h.blk.c 9,h.blk.c 11,hx.c 0,hx.c 1,hx.c 2,hx.c 3,hx.c 4,hx.c 5⟩
variable{k:Nat}
def Eu{n:Option Addr}(h:cQ w B A D)(e:A.vw=.slice n D.who k):w.cell? (be A.gd 11)=some (.slice n D.who k):=by rw[<-e];exact h.blk.c 11
def WO{w1:bD}(vl:bE)(fl:bF Int)(st:cL B K w w1 A {A with vl:=vl} (D.tell (iW D.who fl)))(v:bE)(l:bF Int)(ho:w1.ownsRow B 3 1 v l (bN eI l))(hK:A.gd∉K):cL B K w (w1.setCell (be A.gd 11) v) A {A with vl:=vl,vw:=v} {D.tell (iW D.who fl)with who:=l}:=st.bu (cQ.UI (A:={A with vl:=vl}) st.at' ho hK)
def WP(h:cQ w B A D)(ok:cC D)(hK:dS w K A)(hB:B<=w)(hw:(ft D.who (gQ D.bQ)).length<=1000)(hlog:D.log.length<=900000):
  bG 209 #[ptr A.gd] w (wF B K A w D.close):=by
 let⟨a5,P,OK⟩:=Jh3 h hK ok;have q9:w.cell? (be A.gd 9)=some (ptr A.gs):=h.blk.c 9;have bq:=aa (wg B A.gs A.vo D.bQ w h.fZ aU);have bc:=ok.bQ;have bP:=ok.who;have aP:=aa (Et ok);let⟨nw,kw,z⟩:=bV h.who;let⟨al,bv⟩:=Jh2 z (ok.outs hw);have bz:Hid (D.close=D.bQ.foldl DS.fa D.outs):=aa rfl;have Z:Hid (D.outs={D.tell (iW D.who (gQ D.bQ))with who:=ft D.who (gQ D.bQ)}):=aa rfl;have bm:(gQ D.bQ).length<=1024:=bW (J5 _) bc;have HJ:=aa hw;have a0:Hid (∀W v,Sl eS 6 W v D.bQ->bG 256 #[v] W (gP eI 3 1 (gQ D.bQ) W)):=aa fun W v hv=>Rl v D.bQ W hv af;have a6:=aa (hK.blk h.blk ah);let⟨q,au⟩:=aH (gQ D.bQ);rw[au]at Z a0 bm HJ aP;clear h ok hK hw z au;go_enter func209,ntmps209;go_wp2_with(first
  |(go_at_call 85;refine bq.o.bC ?_;rintro e w1⟨v1,rfl,o1,c1⟩;have a8:=aa (a0.o w1 v1 (Sl.own il o1));have C1:=aa c1;obtain⟨n1,k1,rfl⟩:=bV o1;clear o1)
  |(go_at_call 256;refine a8.o.bC ?_;rintro e w2⟨v2,rfl,o2,c2⟩;have bk:=aa o2;have C2:=aa (C1.o.bu (c2.bC C1.o.size));obtain⟨n2,k2,rfl⟩:=bV o2;clear o2))
 go_loopw[17] (fun vi wr=>∃(k:Nat) (vl:bE),k<=q.length/\vi=.int .i64 k/\cL B K w wr A {A with vl:=vl} (D.tell (iW D.who (q.take k)))/\wr.ownsRow w 3 1 (.slice n2 q.length k2) q.length (bN eI q)) (aW q.length);exact⟨0,A.vl,cH _,rfl,by rw[show D.tell (iW D.who (q.take 0))=D from by unfold DS.tell iW;simp];exact cL.same a5.o C2.o,d8 bk.o C1.o.size⟩;obtain⟨k,vl,hk,rfl,t,dY⟩:=hrel;let⟨ab,ag,l⟩:=Jh3 t dY (Sl.own kI dY);have ar:=t.mod.size;clear t dY;by_cases ac:k<q.length
 ·obtain⟨bx,aC,b,ao,rfl,a7,n⟩:=l.o.hd;have r0:=n k ac 0 _ rfl;rw[gD,gg]at r0;have bb:0<=(k:Int):=af;have C:k<(q:Int):=af;unfold maxLen at aC;have aD:=aa (WK D.who q k ac);have E:(D.tell (iW D.who (q.take k))).log.length+1<=1000000:=by
   show(D.log++iW D.who (q.take k)).length+1<=_
   have:=J0 D.who (q.take k)
   rw[dx]at this;rw[cO];omega
  clear n;generalize q[k]=m at*;have U:=aa (uA (.slice nw D.who kw) D.who m wr Qcd af);have J:=Eu ab.o.at' al.o;have f:wr.cell? (be A.gd 11)=some (.slice nw D.who kw):=J;let⟨bh,i⟩:=aH (iR D.who m);rw[i]at U aD;clear i J;cases bh with
  |true=>
   have HE:Hid (D.tell (iW D.who (q.take (k+1)))=D.tell (iW D.who (q.take k))):=aa (by rw[aD.o];simp);go_wp2_with(go_at_call 161;refine U.o.bC ?_;rintro e w3⟨rfl,az⟩;subst az);go_roundw;exact⟨k+1,vl,af,aw,by rw[HE.o];exact ab.o,ag.o⟩;exact eZ af
  |false=>
   have HE:Hid ((D.tell (iW D.who (q.take k))).tell [⟨8,m,0,0,0⟩]=D.tell (iW D.who (q.take (k+1)))):=aa (by rw[aD.o];unfold DS.tell;simp[fz]);have cY:Bw wr (aZ wr #[(8:Int),m,(),(),()] 101):=aI;have HT:=aa (yl (K:=K) (ab.o.at'.keep cY) ((P.o.step ab.o).keep cY) (bW hB (bW ar cY.size)) [⟨8,m,0,0,0⟩] (be wr 0) 1 (Sl.fg eE jg wr 101 ⟨8,m,0,0,0⟩ aB _ rfl) E);go_wp2_with(first|(go_at_call 161;refine U.o.bC ?_;rintro e w3⟨rfl,az⟩;subst az)|(go_at_call 164;refine HT.o.bC ?_;rintro e w8⟨O,rfl,Q⟩;have aA:=aa ((ab.o.keep cY).bu Q);have aE:=aa (dq (cJ ag.o cY) Q.mod ah);clear Q));go_roundw;exact⟨k+1,O,af,aw,by rw[<-HE.o];exact aA.o,aE.o⟩;exact eZ af
 ·obtain rfl:k=q.length:=af;have bs:¬(q.length<(q:Int)):=af;rw[show q.take q.length=q from eU (bL _)]at ab;have J:=Eu ab.o.at' al.o;have f:wr.cell? (be A.gd 11)=some (.slice nw D.who kw):=J;clear J;have aM:=aa (RY (.slice nw D.who kw) (.slice n2 q.length k2) D.who q wr Qcd l.o af af);have F:wr.frozen? (be A.gd 11)=false:=ab.o.at'.blk.free 11;go_wp2_with(first
   |(go_at_call 257;refine aM.o.bC ?_;rintro e w3⟨v3,rfl,S,c3⟩;have j:=aa (ab.o.keep c3);have bw:=Eu j.o.at' al.o;have F:=j.o.at'.blk.free 11;have Y:=aa (WO vl q j.o v3 (ft D.who q) (d8 S (bW hB ab.o.mod.size)) a6.o);obtain⟨n3,u,rfl⟩:=bV S;have q9:(w3.setCell (be A.gd 11) (.slice n3 (ft D.who q).length u)).cell? (be A.gd 9)=some (ptr A.gs):=Y.o.at'.blk.c 9;clear S)
   |(go_at_call 85;refine(wg B A.gs A.vo D.bQ _ Y.o.at'.fZ af).bC ?_;rintro e w5⟨L,rfl,o5,c5⟩;have G:=aa (Y.o.keep c5);have O5:=aa o5;obtain⟨n5,k5,rfl⟩:=bV o5;clear o5))
  let⟨WB,ax⟩:=aH ((w3.setCell (be A.gd 11) (.slice n3 (ft D.who q).length u)).heap.size);rw[ax]at O5;have an:Hid (∀k,A.vo.ownBlock=some k->k<WB):=aa fun k hk=>by rw[<-ax];exact(Y.o.at'.fZ.own.lt k hk).2
  let⟨H,ap⟩:=aH D.outs;have e1:({D.tell (iW D.who q)with who:=ft D.who q}:DS)=H:=by rw[<-ap,Z.o]
  have ay:=G.o;rw[e1]at ay;have bA:=aa ay;have bn:=aa (show cC H from by rw[<-ap];exact bv.o);have bJ:H.log.length<=902000:=by
   rw[<-e1];show(D.log++iW D.who q).length<=_
   rw[cO];have:=aP.o
   omega
  have aF:Hid (H.who=ft D.who q):=aa (by rw[<-e1]);have aR:Hid (D.close=D.bQ.foldl DS.fa H):=aa (by rw[bz.o,ap]);clear ay e1 ap G Y j bw F q9 ax ab ag l f aM;go_loopw[49] (fun vi wr=>∃(k:Nat) (O:bE),k<=D.bQ.length/\vi=.int .i64 k/\cL B K w wr A {A with vl:=O,vw:=.slice n3 (ft D.who q).length u} ((D.bQ.take k).foldl DS.fa H)/\wr.ownsRow WB 71 6 (.slice n5 D.bQ k5) D.bQ (bN eS D.bQ)) (aW D.bQ);exact⟨0,vl,cH _,rfl,bA.o,O5.o⟩;obtain⟨k,O,hk,rfl,t,dY⟩:=hrel;let⟨ab,ag,l⟩:=Jh3 t dY (Sl.own il dY);have ar:=t.mod.size;clear t dY;by_cases ac:k<D.bQ.length
  ·obtain⟨bx,aC,b,ao,rfl,a7,n⟩:=l.o.hd;let⟨r0,r1,r2,r3,r4,r5⟩:=oA (n k ac);have bb:0<=(k:Int):=af;have C:k<(D.bQ:Int):=af;unfold maxLen at aC;let⟨ai,bU⟩:=Jh2 (J4 H D.bQ k ac) (OK.o.fC D.bQ[k] (cZ ac));let⟨aQ,aK,aO⟩:=J2 (D.bQ.take k) bn.o;have aS:=aa aQ;have E:((D.bQ.take k).foldl DS.fa H).log.length+1<=1000000:=by
    have:=aK
    rw[dx]at this;omega
   have T:=aa (aO.bu aF.o);let⟨p,N⟩:=aH ((D.bQ.take k).foldl DS.fa H);rw[N]at ai aS ab E T;clear n N aQ aK aO;generalize D.bQ[k]=x at*;let⟨vw,av⟩:=aH (Value.slice n3 (ft D.who q).length u);have bO:=aa av;have cX:Bw wr (aZ wr (gE x) 71):=aI;let⟨X,hX⟩:=aH (wr.alloc (bH (gE x) 71));have bp:=aa hX;have aT:Hid (bI X wr 71 (gE x)):=aa (by rw[<-hX];exact bI.new wr 71 (gE x));have ae:Hid (cL B K w X A {A with vl:=O,vw:=.slice n3 (ft D.who q).length u} p):=aa (by rw[<-hX];exact ab.o.keep cX);have aV:Hid (X.ownsRow WB 71 6 (.slice (some (b,ao)) D.bQ k5) D.bQ (bN eS D.bQ)):=aa (by rw[<-hX];exact cJ ag.o cX);have bl:Hid (WB<=wr.heap.size):=aa (by have:=an.o;have:=ab.o.mod.size;have:=ag.o.lt b rfl;omega);have ba:Hid (A.vo.ownBlock≠some wr.heap.size):=aa (fun e=>by have:=an.o _ e;have:=bl.o;omega);let⟨bT,bR⟩:=Jh2 (P.o.step ae.o) (bW hB ae.o.mod.size);have aN:=SO.of ae.o.at' rfl rfl rfl aT.o;have a2:=aa (fun(W:bD) (hh:cQ W B {A with vl:=O,vw:=.slice n3 (ft D.who q).length u} p)=>QU (.slice n3 (ft D.who q).length u) (ft D.who q) x W (by have:=hh.who;rw[T.o]at this;exact Sl.own kI this) (by have:=HJ.o;omega));have am:Hid (p.fa x=if x.cN≠1∨(fM x (ft D.who q)).1=1 then p else if x.cE<0 then({p with bQ:=(fL p.bQ x.mem x.bK (fM x (ft D.who q)).1 (fM x (ft D.who q)).2).2}:DS).tell [⟨9,x.mem,x.bK,wrap64 (-x.cE),0⟩]else{p with bQ:=(fL p.bQ x.mem x.bK (fM x (ft D.who q)).1 (fM x (ft D.who q)).2).2}):=aa (by unfold DS.fa;rw[T.o]);let⟨⟨s,dn⟩,hf⟩:∃r,fM x (ft D.who q)=r:=⟨_,rfl⟩;rw[hf]at a2 am;clear hX cX ac av hf;go_wp2_with fail;rw[show wr.alloc (bH #[x.cycle,x.mem,x.bK,x.cE,x.done,x.cN] 71)=X from bp.o];go_region_held3(fun W=>SO A.gd A.gs wr (.slice n3 (ft D.who q).length u) x W) (first|exact aN|exact I|assumption|go_keep)
    (first|(go_at_call 258;refine(a2.o X.drew ae.o.at'.d).bC ?_;rintro e V⟨rfl,c1⟩;have aq:=aa (ae.o.keep (sW c1));have R:=aa (aT.o.keepD c1);have aj:=aa (cJ aV.o (sW c1));have I:=SO.of aq.o.at' rfl rfl rfl R.o;clear c1))
   all_goals
    rename_i ad;clear ad aN;have a1:=I;obtain⟨t9,a,u0,u1,u2,u3,u4,u5⟩:=I;have br:=R.o.lt;have bo:Hid (∀W,W.heap=V.heap->Bw V W->bG 259 #[ptr A.gs,x.mem,x.bK,s,dn] W fun e y=>∃r,e=.returned (aY r)/\cL B K w y A {A with vl:=O,vw:=.slice n3 (ft D.who q).length u} {p with bQ:=(fL p.bQ x.mem x.bK s dn).2}/\y.ownsRow WB 71 6 (.slice (some (b,ao)) D.bQ k5) D.bQ (bN eS D.bQ)/\SO A.gd A.gs wr (.slice n3 (ft D.who q).length u) x y):=aa (fun W e c=>by
     have ak:=aq.o.keep c;refine(JX (K:=K) rfl ak.at' aS.o (P.o.step ak) x.mem x.bK s dn).bC ?_;rintro e y⟨r,he,st,fr⟩;have ac:wr.heap.size<W.heap.size:=by rw[‹W.heap=V.heap›];exact br
     have hb:bI y wr 71 (gE x):=(fr wr ac ba.o).bu (by rw[‹W.heap=V.heap›];exact R.o);have ho:y.ownsRow WB 71 6 (.slice (some (b,ao)) D.bQ k5) D.bQ (bN eS D.bQ):=ed (cJ aj.o c) (fun g hg=>fr g ((cJ aj.o c).lt g hg).2 (fun e2=>by have:=an.o g e2;have:=((cJ aj.o c).lt g hg).1;omega));exact⟨r,he,ak.bu st,ho,SO.of st.at' rfl rfl rfl hb⟩)
    by_cases h1:x.cN=1
    rotate_left
    ·have d1:(x.cN !=1)=true:=aG h1;have HE:Hid (p.fa x=p):=aa (by rw[am.o,yc (bS h1)]);clear h1;exact Qb5
    have d1:(x.cN !=1)=false:=aG h1;by_cases h2:s=1
    ·have d2:(s==1)=true:=aG h2;have HE:Hid (p.fa x=p):=aa (by rw[am.o,yc (ci h2)]);clear h1 h2;exact Qb5
    have d2:(s==1)=false:=aG h2;have HN:Hid (¬(x.cN≠1∨s=1)):=aa (by rintro(h|h);exact h h1;exact h2 h);clear h1 h2;go_wp2;go_region_held3(fun W=>SO A.gd A.gs wr (.slice n3 (ft D.who q).length u) x W) (first|exact a1|exact s5|assumption|go_keep)
     (first|(go_at_call 259;refine(bo.o V.drew rfl (bM _ _).drew).bC ?_;rintro e w5⟨r5,rfl,M,aJ,s5⟩;have G:=aa M;have aL:=aa aJ;clear M aJ))
    all_goals
     rename_i ad;clear ad a1 t9 a u0 u1 u2 u3 u4 u5;obtain⟨t9,a,u0,u1,u2,u3,u4,u5⟩:=s5;by_cases h3:x.cE<0
     ·have d3:=dT h3;have HE:Hid (p.fa x=({p with bQ:=(fL p.bQ x.mem x.bK s dn).2}:DS).tell [⟨9,x.mem,x.bK,wrap64 (-x.cE),0⟩]):=aa (by rw[am.o,ya HN.o,yc h3]);let⟨nn,a3⟩:=aH (wrap64 (-x.cE));rw[a3]at HE;have bB:IntKind.i64.wrap (-x.cE)=nn:=(xE _).bu a3;clear h3;have cY:Bw w5 (aZ w5 #[(9:Int),x.mem,x.bK,aY nn,()] 101):=aI;have HT:=aa (WN (K:=K) (G.o.at'.keep cY) ((P.o.step G.o).keep cY) (bW hB (bW G.o.mod.size cY.size)) [⟨9,x.mem,x.bK,nn,0⟩] (be w5 0) 1 (Sl.fg eE jg w5 101 ⟨9,x.mem,x.bK,nn,0⟩ aB _ rfl) E);go_wp2_with(go_at_call 164;refine HT.o.bC ?_;rintro e w8⟨a9,rfl,Q,m8⟩;have aA:=aa ((G.o.keep cY).bu Q);have a4:=aa (dq (cJ aL.o cY) m8 ah);clear Q m8);go_roundw;exact⟨k+1,a9,af,aw,by rw[ai.o,HE.o];exact aA.o,a4.o⟩;exact eZ af
     ·have d3:=dF h3;have HE:Hid (p.fa x={p with bQ:=(fL p.bQ x.mem x.bK s dn).2}):=aa (by rw[am.o,ya HN.o,ya h3]);clear h3;go_wp2;go_roundw;exact⟨k+1,O,af,aw,by rw[ai.o,HE.o];exact G.o,aL.o⟩;exact eZ af
  ·obtain rfl:k=D.bQ.length:=af;have bs:¬(D.bQ.length<(D.bQ:Int)):=af;rw[show D.bQ.take D.bQ.length=D.bQ from eU (bL _)]at ab;go_wp2;go_end0;exact⟨_,rfl,by rw[aR.o];exact ab.o⟩
def DS.kz(D:DS)(l:List Int):DS:=l.foldl DS.release D
def WQ(D:DS)(l:bF Int)(k:Nat)(h:k<l):D.kz (l.take (k+1))=(D.kz (l.take k)).release l[k]:=by unfold DS.kz;rw[fj h,rX];rfl
def J6(l:bF Int):∀{D:DS},cC D->cC (D.kz l)/\(D.kz l).log=D.log/\(D.kz l).C=D.C:=by
 induction l with
 |nil=>intro D n;exact⟨n,rfl,rfl⟩
 |cons x l ih=>intro D n;exact ih (Jg n x)
def DS.jo(D:DS):DS:=D.close.kz (D.close.holds.map RH.bR)
def DS.need(D:DS):Int:=jt (ei (D.good 0)).1 (D.eQ ⟨1,0⟩ 0)
def tA(D:DS)(k:Nat):Bool:=(List.range k).any fun s=>decide (0<D.short ((s:Int)+1))
def WR{f:Int->Int}(h:∀j:Nat,j<k->f ((j:Int)+1)<=0)(h2:f ((k:Int)+1)<=0):∀j:Nat,j<k+1->f ((j:Int)+1)<=0:=fun j hj=>by
 rcases fA j k with h3|h3
 ·exact h j h3
 ·obtain rfl:j=k:=af;exact h2
def WS(h:∀j:Nat,j<k->D.short ((j:Int)+1)<=0):tA D k=false:=by unfold tA;rw[mP];intro x a;simpa using Int.not_lt.2 (h x (aG a))
def WT{j:Nat}(hj:j<k)(h:0<D.short ((j:Int)+1)):tA D k=true:=by unfold tA;rw[jT];exact⟨j,aG hj,aG h⟩
def Ew(l:bF Lg):bO (ei l).1:=by
 unfold ei;split
 ·unfold bO;simp
 ·unfold du;exact DQ _
def qI(B:Nat)(K:List Nat)(D:DS)(n:Int)(P:DS->Prop):Prop:=∀W A,cQ W B A D->dS W K A->B<=W.heap.size->Calls prog 212 #[ptr A.gd,n] W fun e w'=>∃A' D',e=.returned (.tuple #[])/\cL B K W w' A A' D'/\P D'
variable{n:Int}
def Ex(h:n<=0):qI B K D n (·=D):=fun W A hA _ _=>by
 have hd:=dT h;have HA:=aa hA;clear h hA;go_enter func212,ntmps212;go_wp2_with fail;refine wb (results_none rfl _ _ _) rfl ?_;exact⟨A,D,rfl,cL.same HA.o (bM _ _),rfl⟩
variable{P:DS->Prop}
def qI.at(h:qI B K D n P)(e:A.gd=gd)(hA:cQ W B A D)(hK:dS W K A)(hB:B<=W):bG 212 #[ptr gd,n] W fun e w'=>∃A' D',e=.returned (.tuple #[])/\cL B K W w' A A' D'/\P D':=by subst e;exact h W A hA hK hB
def WU(B:Nat)(K:List Nat)(A:DA)(D:DS)(P:DS->Prop)(w:World)(e:Ending)(w':World):Prop:=∃b y A' D',e=.returned (.tuple #[.bool b,aY y])/\cL B K w w' A A' D'/\
 if D.state≠1 then b=false/\y=11/\D'=D else y=0/\∃D3,P D3/\D'={D3 with state:=2}/\b=tA D' D'.C.secs.length
def Ey(ok:cC D)(hw:(ft D.who (gQ D.bQ)).length<=1000):cC D.close/\D.close.log.length<=D.log.length+2048/\cC D.jo/\D.jo.log=D.close.log/\D.jo.C=D.C:=by
 have P:D.close.C=D.C:=by
  have:∀(l:bF Ob) (D:DS),(l.foldl DS.fa D).C=D.C:=by
   intro l;induction l with
   |nil=>intro D;rfl
   |cons x l ih=>intro D;rw[qX,ih,WL]
  exact(this _ _).bu rfl
 let⟨d,c,_⟩:=J2 D.bQ (ok.outs hw);let⟨a,M,V⟩:=J6 (D.close.holds.map RH.bR) (D:=D.close) d;refine⟨d, ?_,a,M,V.bu P⟩;have A:D.outs.log.length<=D.log.length+1024:=by
  show(D.log++iW D.who (gQ D.bQ)).length<=_
  have:=Et ok
  rw[cO];omega
 have:=ok.bQ
 show(D.bQ.foldl DS.fa D.outs).log.length<=_
 omega
def WV{A4:DA}{D4:DS}{x4:bD}(st:cL B K w x4 A A4 D4)(hK:A4.gd∉K):cL B K w (x4.setCell (be A.gd 13) (aY 2)) A A4 {D4 with state:=2}:=by have h:=st.bu (st.at'.setState (K:=K) 2 hK);rw[st.gd]at h;exact h
def J7(h:cQ w B A D)(ok:cC D)(hK:dS w K A)(hB:B<=w)(hw:(ft D.who (gQ D.bQ)).length<=1000)(hlog:D.log.length<=890000)(P:DS->Prop)(hP:∀D3,P D3->cC D3)(hdr:qI B K D.jo D.jo.need P):
  bG 171 #[ptr A.gd] w (WU B K A D P w):=by
 let⟨g,v⟩:=aH (w.alloc (bH #[(1:Int)] 3));have c1:Bw w g:=by rw[<-v];exact aI
 have ab:=wy (h.keep c1) 1 w QbS;let⟨aC,av,am⟩:=Jh3 v h hK;by_cases L:D.state=1
 rotate_left
 ·rw[ya (Ne.symm L)]at ab;let⟨f,HS⟩:=Jh2 ab L;clear h ok hK v ab L;go_enter func171,ntmps171;go_wp2_with fail;rw[show w.alloc (bH #[(1:Int)] 3)=g from aC.o];go_wp2_with(go_at_call 152;refine f.o.bC ?_;rintro e w1⟨rfl,hw⟩;subst hw);go_ret2;exact⟨_,_,A,D,rfl,cL.same av.o c1,by rw[yc HS.o];exact⟨rfl,rfl,rfl⟩⟩
 ·rw[yc L.symm]at ab;let⟨f,HS⟩:=Jh2 ab L;let⟨ag,a2,aB,a8,aE⟩:=Ey ok hw;have aM:=aa (WP (h.keep c1) ok (hK.keep c1) (bW hB c1.size) hw af);have ar:Hid (D.jo=D.close.kz (D.close.holds.map RH.bR)):=aa rfl;have p:Hid (D.jo.need=jt (ei (D.jo.good 0)).1 (D.jo.eQ ⟨1,0⟩ 0)):=aa rfl;let⟨d,Z,ao,HP,HC⟩:=Jh5 ag aB hdr hP aE;have bk:D.C.secs.length<=8:=ok.ct.s2;let⟨r,ak⟩:=Jh2 (ag.holds) (ag.ct.m2);let⟨DC,aN⟩:=aH D.close;rw[aN]at aM ar d r ak;let⟨jc,a⟩:=aH (DC.holds.map RH.bR);have a1:Hid (∀W U,cQ W B U DC->bG 210 #[ptr U.gv] W (gP eI 2 1 jc W)):=aa (fun W U hA=>by rw[<-a];exact Vn hA d.o);rw[a]at ar;have bo:jc.length<=16:=by rw[<-a,cR];exact bW r.o ak.o
  clear a;clear h ok hK v ab L ag aB hdr hP a2 a8 aN aE hw;go_enter func171,ntmps171;go_wp2_with fail;rw[show w.alloc (bH #[(1:Int)] 3)=g from aC.o];go_wp2_with(first
   |(go_at_call 152;refine f.o.bC ?_;rintro e w1⟨rfl,hw⟩;subst hw)
   |(go_at_call 209;refine aM.o.bC ?_;rintro e w2⟨U,rfl,J⟩;have E:=aa ((cL.same (K:=K) av.o c1).bu J);have m:w2.cell? (be A.gd 8)=some (ptr U.gv):=jC J.gd J.at';clear J)
   |(go_at_call 210;refine(a1.o _ _ E.o.at').bC ?_;rintro e w3⟨v3,rfl,o3,F⟩;have aQ:=aa (E.o.keep F);have Y:=aa o3;obtain⟨n3,k3,rfl⟩:=bV o3;clear o3 F))
  go_loopw[22] (fun vi wr=>∃(k:Nat) (A':DA),k<=jc.length/\vi=k/\cL B K w wr A A' (DC.kz (jc.take k))/\wr.ownsRow w2 2 1 (.slice n3 jc.length k3) jc.length (bN eI jc)) (aW jc.length);exact⟨0,U,cH _,rfl,aQ.o,Y.o⟩;obtain⟨k,A',hk,rfl,t,dY⟩:=hrel;let⟨X,a7,a3⟩:=Jh3 t dY (Sl.own kI dY);have ay:=t.mod.size;clear t dY;by_cases ae:k<jc.length
  ·obtain⟨bn,aU,b,bl,rfl,bb,aP⟩:=a3.o.hd;have r0:=aP k ae 0 _ rfl;rw[gD,gg]at r0;have a0:0<=(k:Int):=af;have aR:k<(jc:Int):=af;unfold maxLen at aU;let⟨ax,aA⟩:=Jh2 (WQ DC jc k ae) ((J6 (jc.take k) d.o).1);let⟨Dk,aJ⟩:=aH (DC.kz (jc.take k));rw[aJ]at ax aA X;clear aP aJ;generalize jc[k]=x at*;have m:wr.cell? (be A.gd 8)=some (ptr A'.gv):=jC X.o.gd X.o.at';have a6:=aa (Vm (K:=K) X.o.at' aA.o (am.o.step X.o) (bW hB ay) x);go_wp2_with(go_at_call 211;refine a6.o.bC ?_;rintro e w5⟨bh,r5,rfl,M⟩;have G:=aa (X.o.bu M);have az:=aa (dq a7.o M.mod ah);clear M);go_roundw;exact⟨k+1,_,af,aw,by rw[ax.o];exact G.o,az.o⟩;exact eZ af
  ·obtain rfl:k=jc.length:=af;have a4:¬(jc.length<(jc:Int)):=af;rw[show jc.take jc.length=jc from eU (bL _),<-ar.o]at X;let⟨H,n⟩:=aH D.jo;rw[n]at X Z p ao HC;let⟨su,aj⟩:=aH ((ei (H.good 0)).1);have a5:=aa aj;have aV:Hid (bO su):=aa (by rw[<-aj];exact Ew _);rw[aj]at p;let⟨nd,aO⟩:=aH H.need;rw[aO]at ao p;have bc:=wA Z.o 0;clear aj aO n;go_wp2_with(first
    |(go_at_call 203;refine(JY X.o.gd X.o.at' Z.o 0).bC ?_;rintro e x1⟨v1,rfl,o1,c1⟩;have u:=aa (X.o.keep c1);have aT:=aa (Sl.own eG o1);obtain⟨na,ka,rfl⟩:=bV o1;clear o1 c1)
    |(go_at_call 214;refine(DI _ (H.good 0) _ aT.o af (yf _ _)).bC ?_;rintro e x2⟨rfl,c2⟩;rw[a5.o];have q:=aa (u.o.keep c2);clear c2)
    |(go_at_call 213;refine(WE q.o.gd q.o.at' Z.o su aV.o).bC ?_;rintro e x3⟨rfl,F⟩;rw[<-p.o];have i:=aa (q.o.keep F);clear F)
    |(go_at_call 212;refine(ao.o.at i.o.gd i.o.at' (am.o.step i.o) (bW hB i.o.mod.size)).bC ?_;rintro e x4⟨A4,I,rfl,y,p4⟩;have P4:=aa p4;have ad:=aa (i.o.bu y);clear y p4;have bm:x4.cell? (be A.gd 13)=I.state:=(by rw[<-ad.o.gd];exact ad.o.at'.blk.c 13);have bp:x4.frozen? (be A.gd 13)=false:=(by rw[<-ad.o.gd];exact ad.o.at'.blk.free 13);have z:=aa (WV ad.o ((am.o.step ad.o).blk ad.o.at'.blk ah));have ap:=aa (show cC {I with state:=2}from(by have o:=HP.o I P4.o;exact⟨o.ct,o.bal,o.b64,o.holds,o.rise,o.bQ,o.fC,o.who⟩));have ai:=z.o.at'.ct.sl.s;obtain⟨T,ks,aD,_⟩:=ai;have an:=z.o.at'.blk.c 1;rw[z.o.gd]at an;have q1:=an.bu (ym some aD);clear an aD))
   let⟨D5,l⟩:=aH ({I with state:=2}:DS);have R:=aa l;rw[l]at z ap;have ai:I.C.secs.length=D5.C.secs.length:=by rw[<-l]
   rw[ai]at q1⊢;have V:D5.C.secs.length<=8:=ap.o.ct.s2;let⟨S,hS⟩:=aH D5.C.secs.length;have aL:=aa hS;rw[hS]at V⊢;clear q1 ai hS l;generalize x4.setCell (be A.gd 13) (aY 2)=X5 at*;go_loopw[49] (fun vi wr=>∃k:Nat,k<=S/\vi=k/\Bw X5 wr/\∀j:Nat,j<k->D5.short ((j:Int)+1)<=0) (aW S);exact⟨0,cH _,rfl,bM _ _,fun j hj=>xl hj (yU j)⟩;obtain⟨k,hk,rfl,ac,aF⟩:=hrel;have Q:=aa aF;clear aF;by_cases ae:k<S
   ·have a0:0<=(k:Int):=af;have aR:k<(S:Int):=af;have au:k<=1000:=bW hk (bW V ah);have ba:=(gJ k au).1;have a9:=(gJ k au).2;have al:=aa (WF z.o.gd (z.o.at'.keep ac) ap.o ((k:Int)+1));let⟨sh,aq⟩:=aH (D5.short ((k:Int)+1));have aK:=aa aq;rw[aq]at al;clear aq;by_cases O:0<sh
    ·have d0:=dT O;have N:=aa (WT ae (by rw[aK.o];exact O));clear O;go_wp2_with(go_at_call 162;refine al.o.bC ?_;rintro e y1⟨rfl,cy⟩;have aS:=aa ((z.o.keep ac).keep cy));go_ret2;exact⟨true,0,_,_,rfl,aS.o,by rw[ya (aG HS.o)];exact⟨rfl,I,P4.o,R.o.symm,by rw[aL.o];exact N.o.symm⟩⟩
    ·have d0:=dF O;have N:Hid (∀j:Nat,j<k+1->D5.short ((j:Int)+1)<=0):=aa (WR Q.o (by rw[aK.o];exact Int.not_lt.1 O));clear O;go_wp2_with(go_at_call 162;refine al.o.bC ?_;rintro e y1⟨rfl,cy⟩;have BY:=aa (ac.bu (cy.bC ac.size)));go_roundw;exact⟨k+1,ae,by first|rfl|go_num,BY.o,N.o⟩;exact eZ ae
   ·obtain rfl:k=S:=af;have a4:¬(k<(k:Int)):=af;have N:=aa (WS Q.o);go_wp2;go_ret2;exact⟨false,0,_,_,rfl,z.o.keep ac,by rw[ya (aG HS.o)];exact⟨rfl,I,P4.o,R.o.symm,by rw[aL.o];exact N.o.symm⟩⟩
def nZ(l:List Lg):Prop:=l.length<=1024/\∀x∈l,bO x.bJ
def J8(Q:List Lg->List Lg->Prop)(w:World)(e:Ending)(w':World):Prop:=∃u1 u2 G L er,e=.returned (.tuple #[u1,u2,aY er])/\w'.ownsRow w.heap.size 120 3 u1 G.length (bN df G)/\w'.ownsRow w.heap.size 120 3 u2 L.length (bN df L)/\Bw w w'/\Q G L
def qJ(a:Int)(cl:List Lg)(Q:List Lg->List Lg->Prop):Prop:=∀W v,Sl df 3 W v cl->Calls prog 269 #[a,v] W (J8 Q W)
variable{a:Int}
def J9{cl:bF Lg}(h:Dq a cl)(h64:∀x∈cl,bO x.bJ):qJ a cl fun G L=>G=i8 (cl.map (·.bJ)) cl/\L=[]:=fun W v hv=>
 (SL a v cl W hv h h64).bC fun _ _ ⟨u1,u2,he,h1,h2,hb⟩=>⟨u1,u2,_,_,0,he,h1,h2,hb,rfl,rfl⟩
def wG(w:bD)(B:Nat):w.ownsRow B 120 3 bd ([]:bF Lg).length (bN df []):=⟨aK,bS ⟨rfl,rfl⟩⟩
def WW{l:bF Lg}{Q:bF Lg->bF Lg->Prop}(hs:iq l=0->qJ a l Q)(h0:iq l≠0->Q [] [])(v:bE)(w:bD)(hv:Sl df 3 w v l)(hn:l.length<=100000)(h64:∀x∈l,bO x.bJ):bG 274 #[a,v] w (J8 Q w):=by
 let⟨d,M⟩:=Jh2 (Em v l w hv hn h64) hv;obtain⟨W,K,rfl,_⟩:=hv;let⟨y,B⟩:=aH (iq l);rw[B]at d hs h0;clear B h64;by_cases I:y=0
 rotate_left
 ·have c:(y !=0)=true:=aG I;have p:=aa (h0 I);clear hs h0 I;go_enter func274,ntmps274;go_wp2_with(go_at_call 334;refine d.o.bC ?_;rintro e i⟨rfl,b⟩);go_ret3;exact⟨_,_,[],[],y,rfl,wG _ _,wG _ _,b,p.o⟩
 ·subst I;have D:=aa (hs rfl);clear hs h0;go_enter func274,ntmps274;go_wp2_with(first|(go_at_call 334;refine d.o.bC ?_;rintro e i⟨rfl,b⟩;have u:=aa (D.o i _ (M.o.keep b)))|(go_at_call 269;refine u.o.bC ?_;rintro e k⟨u1,u2,G,L,m,rfl,Z,g,f,H⟩));go_ret3;exact⟨_,_,G,L,m,rfl,d8 Z b.size,d8 g b.size,b.bu (f.bC b.size),H⟩
def Aj(C:bZ)(l r:List Lg):Prop:=∀W v vm vs vc,dM W vm vs vc C->Sl df 3 W v l->Calls prog 272 #[eT vm vs vc C,v] W fun e w'=>∃u er,e=.returned (.tuple #[u,aY er])/\w'.ownsRow W.heap.size 120 3 u r (bN df r)/\Bw W w'
def WY(C:bZ):Aj C [] []:=fun w v vm vs vc hc hv=>by
 have hmk:∀w:bD,(Instr.makeMap 409 none).run prog w=.ok (.map (some w.heap.size)) (w.alloc (.map #[] 0)):=fun w=>rfl;obtain⟨W0,hW0⟩:=aH (w.alloc (bH (cU vm vs vc C) 26));have HW0:=aa hW0;have b0:Bw w W0:=by rw[<-hW0];exact aI
 have z:=b0.alloc b0.size (.map #[] 0);have H:=aa (Ek (fF.new W0 vI) ⟨fun p hp=>xl hp au,au,au,fun p hp=>xl hp au⟩);have M:Hid (fS []=([],0)):=aa (by simp[fS,mD,pW]);unfold Ai at H;rw[M.o]at H;obtain⟨W,K,rfl,_⟩:=hv;clear hc hW0;have N:(([]:bF Lg).length:Int)=0:=rfl;go_enter func272,ntmps272;go_wp2_with fail;rw[show w.alloc (bH #[vm,vs,vc,C.line,C.capital,C.lead,C.cj,C.cv] 26)=W0 from HW0.o];go_loopw[17] (fun vi wr=>vi=.int .i64 0/\wr=W0.alloc (.map #[] 0)) (fun _ _=>0);exact⟨rfl,by rw[<-HW0.o]⟩;obtain⟨rfl,rfl⟩:=hrel;have g:w.heap.size+1=W0.heap.size:=by rw[<-HW0.o];simp
 go_wp2_with(go_at_call 333;rw[g];refine H.o.bC ?_;rintro e T⟨u5,rfl,B,d⟩;have I:=z.bu (d.bC z.size));go_ret2;exact⟨_,_,rfl,d8 B z.size,I⟩
section
variable {B:Nat} {K:List Nat} {A:DA} {D:DS} {w:World}
def Ka(B:Nat)(K:List Nat)(A:DA)(w:World)(R:List Lg->List Lg->DS->Prop)(e:Ending)(w':World):Prop:=∃u1 u2 G L A' D',e=.returned (.tuple #[u1,u2])/\w'.ownsRow w.heap.size 120 3 u1 G.length (bN df G)/\w'.ownsRow w.heap.size 120 3 u2 L.length (bN df L)/\cL B K w w' A A' D'/\R G L D'
def WZ(eg:A.gd=gd)(h:cQ w B A D)(ok:cC D)(hK:dS w K A)(hB:B<=w)(hlog:D.log.length<=890000)(s:Int)(Q:bF Lg->bF Lg->Prop)(hQ:∀G L,Q G L->nZ G/\nZ L)(hs:qJ (D.eQ ⟨1,0⟩ s) (D.good s) Q):
  bG 216 #[ptr gd,s] w (Ka B K A w fun G L D'=>Q G L/\D'=(D.give G).tell (ey 14 L)):=by
 subst eg;let⟨d,P,l,p⟩:=Jh4 h hK ok hQ;have C:Bw w (aZ w (cT ⟨1,0⟩) 81):=aI;let⟨k,HS⟩:=Jh2 (ye (h.keep C) ok ⟨1,0⟩ s) hs;let⟨n,H⟩:=aH (D.eQ ⟨1,0⟩ s);rw[H]at k HS;clear h ok hK hQ hs H;go_enter func216,ntmps216;go_wp2_with(first
  |(go_at_call 155;refine(mZ _).bC ?_;rintro e V⟨rfl,rfl⟩)
  |(go_at_call 137;refine k.o.bC ?_;rintro e g⟨rfl,f⟩;have t:=aa (C.bu (f.bC C.size));clear f)
  |(go_at_call 203;refine(zU (d.o.keep t.o) l.o s).bC ?_;rintro e x3⟨v3,rfl,S,F⟩;have E:=aa (t.o.bu (F.bC t.o.size));have c:=aa (Sl.own eG S);obtain⟨n3,u,rfl⟩:=bV S;clear S F)
  |(go_at_call 269;refine(HS.o _ _ c.o).bC ?_;rintro e R⟨u1,u2,G,L,m,rfl,Z,J,c4,N⟩;have C4:=aa (E.o.bu (c4.bC E.o.size));have v:=aa (d8 Z E.o.size);have O2:=aa (d8 J E.o.size);have I:=aa N;have y:=aa (p.o G L N).1;have x:=aa (p.o G L N).2;have Y:=aa (cL.same (K:=K) d.o C4.o);obtain⟨m1,q,rfl⟩:=bV Z;obtain⟨T,O,rfl⟩:=bV J;clear Z J c4 N)
  |(go_at_call 270;refine(JW Y.o.at' l.o (P.o.step Y.o) (bW hB Y.o.mod.size) _ G _ v.o y.o.1 y.o.2 af).bC ?_;rintro e z⟨W,rfl,M⟩;have a:=aa (Y.o.bu M);have b:=aa (dq v.o M.mod ah);have U:=aa (dq O2.o M.mod ah);clear M)
  |(go_at_call 271;refine(JZ a.o.gd a.o.at' (P.o.step a.o) (bW hB a.o.mod.size) _ L _ U.o x.o.1 14 (by rw[Es];have:=y.o.1;omega)).bC ?_;rintro e x6⟨A6,rfl,r⟩;have j:=aa (a.o.bu r);have i:=aa (dq b.o r.mod ah);have X:=aa (dq U.o r.mod ah);clear r))
 go_ret2;exact⟨_,_,G,L,A6,_,rfl,i.o,X.o,j.o,I.o,rfl⟩
end
def jN(D:DS)(r:List Lg):List Lg:=(ly (D.good 0) r).1
def Kb(G:bF (Int×bF Int)):∀x∈(fS G).1,bO x.bJ:=by
 intro x j;unfold fS at j;split at j
 ·simp at j
 ·obtain⟨k,_,rfl⟩:=Fy.1 j;exact Ep _
def Kc(G:bF (Int×bF Int)):(fS G).1.length<=G:=by
 unfold fS;split
 ·simp
 ·rw[cR,JO];exact bL _
def Ez(a b:bF Lg):(ly a b).1.length<=a.length+b.length/\∀x∈(ly a b).1,bO x.bJ:=by
 unfold ly;split
 ·simp
 split
 ·simp
 split
 ·simp
 split
 ·simp
 split
 ·simp
 ·refine⟨?_,Kb _⟩;have d:=Kc (fI (a++b));have c:=(wE (a++b)).1;rw[cO]at c;show(fS (fI (a++b))).1.length<=_
  omega
variable{D:DS}
def Ak{P:Int->Prop}(h:∀x∈D.bQ,P x.mem)(a:Int):∀x∈D.good a,P x.mem:=by
 intro x j;unfold DS.good rj at j;let⟨y,B,V⟩:=acY.1 j;let⟨z,c,b⟩:=acY.1 B;unfold oL at V;cases V
 have:y=z:=by
  unfold eJ at b;split at b
  ·cases b;rfl
  ·cases b
 subst this;have e:(jW y).mem=y.mem:=by unfold jW;rfl
 rw[e];exact h y c
section
variable {B:Nat} {K:List Nat} {A:DA} {D:DS} {w:World}
def Xa(eg:A.gd=gd)(h:cQ w B A D)(ok:cC D)(hK:dS w K A)(hB:B<=w)(hlog:D.log.length<=880000)(v:bE)(l r:bF Lg)(hv:Sl df 3 w v l)(hw:Aj D.C l r)(hr:r.length<=1024)(hr64:∀x∈r,bO x.mem/\bO x.bJ)(hm:∀x∈D.bQ,bO x.mem)(P:DS->Prop)(hP:∀D3,P D3->cC D3/\D3.log.length<=890000)(hdr:qI B K D (jt (ei (jN D r)).1 (D.eQ ⟨1,0⟩ 0)) P)(Q:DS->bF Lg->bF Lg->Prop)(hQ:∀D3 G L,Q D3 G L->nZ G/\nZ L)(hs:∀D3,P D3->iq (jN D r)=0->qJ (D3.eQ ⟨1,0⟩ 0) (jN D r) (Q D3))(hs0:∀D3,P D3->iq (jN D r)≠0->Q D3 [] []):
  bG 217 #[ptr gd,v] w (Ka B K A w fun G L D'=>∃D3,P D3/\Q D3 G L/\D'=(D3.give G).tell (ey 15 L)):=by
 subst eg;let⟨d,ai,OK,HQ,HP,O⟩:=Jh6 h hK ok hQ hP hw;let⟨q,ag,HV,ae,am⟩:=Jh5 hr hr64 hv hdr (Ak hm 0);have t:=wA ok 0;have R:=Ez (D.good 0) r;have z:Hid ((ly (D.good 0) r).1=jN D r):=aa rfl;let⟨p0,p1,p2,p3,p4,p5,p,X⟩:=qE h.blk;have HS:=aa (fun D3 (p3:P D3)=>ch (hs D3 p3) (hs0 D3 p3));have ao:(jN D r).length<=2048:=by have:=R.1;unfold jN;omega
 have ac:Hid (∀x∈jN D r,bO x.bJ):=aa R.2;let⟨I,al⟩:=aH (jN D r);rw[al]at ae z HS ao ac;let⟨su,a⟩:=aH ((ei I).1);have ar:=aa a;have an:Hid (bO su):=aa (by rw[<-a];exact Ew _);rw[a]at ae;let⟨nd,aj⟩:=aH (jt su (D.eQ ⟨1,0⟩ 0));have J:=aa aj;rw[aj]at ae;obtain⟨T,k0,rfl,_⟩:=hv;clear h ok hK hQ hP hw hr hr64 hdr hs hs0 hm R al a aj;go_enter func217,ntmps217;go_wp2_with(first
  |(go_at_call 272;refine(O.o w _ _ _ _ d.o.ct.sl HV.o).bC ?_;rintro e x1⟨u1,e1,rfl,Z,c1⟩;have C1:=aa c1;have S1:=aa (Sl.own eG Z);obtain⟨n1,k1,rfl⟩:=bV Z;clear Z)
  |(go_at_call 203;refine(zU (d.o.keep C1.o) OK.o 0).bC ?_;rintro e x2⟨v2,rfl,o2,c2⟩;have C2:=aa (C1.o.bu (c2.bC C1.o.size));have S2:=aa (Sl.own eG o2);have ap:=aa (S1.o.keep c2);obtain⟨n2,k2,rfl⟩:=bV o2;clear o2 c2)
  |(go_at_call 273;refine(Wx _ _ (D.good 0) r _ S2.o ap.o t q.o (fun x hx=>by rcases xq.1 hx with hx|hx;exact am.o x hx;exact(ag.o x hx).1) (fun x hx=>by rcases xq.1 hx with hx|hx;exact yf _ _ x hx;exact(ag.o x hx).2)).bC ?_;rintro e x3⟨u3,rfl,S,c3⟩;rw[z.o]at S;have C3:=aa (C2.o.bu (c3.bC C2.o.size));have Y:=aa (d8 S C2.o.size);have S3:=aa (Sl.own eG S);obtain⟨n3,k3,rfl⟩:=bV S;clear S c3)
  |(go_at_call 214;refine(DI _ I _ S3.o af ac.o).bC ?_;rintro e x4⟨rfl,c4⟩;rw[ar.o];have s:=aa (C3.o.bu (c4.bC C3.o.size));have V:=aa (cJ Y.o c4);clear c4)
  |(go_at_call 213;refine(IS (d.o.keep s.o) OK.o su an.o).bC ?_;rintro e x5⟨rfl,c5⟩;rw[J.o];have C5:=aa (s.o.bu (c5.bC s.o.size));have O5:=aa (cJ V.o c5);have ad:=aa (cL.same (K:=K) d.o C5.o);clear c5)
  |(go_at_call 212;refine(ae.o _ A ad.o.at' (ai.o.step ad.o) (bW hB ad.o.mod.size)).bC ?_;rintro e x6⟨A6,g,rfl,ab,p⟩;have P6:=aa p;have f:=aa (HP.o g p);have E:=aa (HS.o g p);have j:=aa (ad.o.bu ab);have N:=aa (dq O5.o ab.mod ah);clear ab p))
 have cA:Bw x6 (x6.alloc (bH (cT ⟨1,0⟩) 81)):=aI;have k:=aa (uK j.o.gd (j.o.at'.keep cA) f.o.1 ⟨1,0⟩ 0);let⟨n,H⟩:=aH (g.eQ ⟨1,0⟩ 0);rw[H]at k E;clear H;go_wp2_with(first
  |(go_at_call 155;refine(mZ _).bC ?_;rintro e y1⟨rfl,rfl⟩)
  |(go_at_call 137;refine k.o.bC ?_;rintro e y2⟨rfl,d2⟩;have D2:=aa (cA.bu (d2.bC cA.size));have O7:=aa (cJ N.o D2.o);clear d2)
  |(go_at_call 274;refine(WW E.o.1 E.o.2 _ _ (Sl.own eG O7.o) af ac.o).bC ?_;rintro e y3⟨u1,u2,G,L,er,rfl,Z,o2,c8,m⟩;have u:=aa ((j.o.keep D2.o).keep c8);have c:=bW j.o.mod.size D2.o.size;have F:=aa (d8 Z c);have P2:=aa (d8 o2 c);have Q8:=aa m;have LG:=aa (HQ.o g G L m).1;have LL:=aa (HQ.o g G L m).2;obtain⟨m1,l1,rfl⟩:=bV Z;obtain⟨m2,l2,rfl⟩:=bV o2;clear Z o2 c8 m)
  |(go_at_call 270;refine(WG u.o.gd u.o.at' f.o.1 (ai.o.step u.o) (bW hB u.o.mod.size) _ G _ F.o LG.o.1 LG.o.2 (by have:=f.o.2;omega)).bC ?_;rintro e y5⟨W,rfl,M⟩;have y:=aa (u.o.bu M);have b:=aa (dq F.o M.mod ah);have U:=aa (dq P2.o M.mod ah);clear M)
  |(go_at_call 271;refine(JZ y.o.gd y.o.at' (ai.o.step y.o) (bW hB y.o.mod.size) _ L _ U.o LL.o.1 15 (by rw[Es];have:=LG.o.1;have:=f.o.2;omega)).bC ?_;rintro e y6⟨A7,rfl,ab⟩;have ak:=aa (y.o.bu ab);have i:=aa (dq b.o ab.mod ah);have aq:=aa (dq U.o ab.mod ah);clear ab))
 go_ret2;exact⟨_,_,G,L,A7,_,rfl,i.o,aq.o,ak.o,g,P6.o,Q8.o,rfl⟩
end
def Xb:∀N:Nat,N<=9->∀w:bD,(Instr.makeSlice 287 N N).run prog w=.ok (.slice (some (be w 0)) N N) (w.alloc (.cells (List.replicate N (.slice none 0 0)).toArray 66)):=by
 intro N f w;obtain rfl|rfl|rfl|rfl|rfl|rfl|rfl|rfl|rfl|rfl:N=0∨N=1∨N=2∨N=3∨N=4∨N=5∨N=6∨N=7∨N=8∨N=9:=af
 all_goals kernel_rfl
structure kZ(w:World)(B b:Nat)(us:List Value)(Gs:List (List Lg))(vl:Value)(mH:List Lg):Prop where
 blk:bI w b 66 us.toArray
 len:us.length=Gs.length
 own:∀i (h:i<us.length) (h2:i<Gs.length),w.ownsRow B 120 3 us[i] Gs[i].length (bN df Gs[i])
 lk:w.ownsRow B 120 3 vl mH.length (bN df mH)
 ap:∀i (h:i<us.length),oW us[i] vl
section
variable {w w':World} {B b:Nat} {us:List Value} {Gs:List (List Lg)} {vl:Value} {mH:List Lg}
def kZ.keep(h:kZ w B b us Gs vl mH)(c:Bw w w'):kZ w' B b us Gs vl mH:=⟨h.blk.keep c,h.len,fun i h1 h2=>cJ (h.own i h1 h2) c,cJ h.lk c,h.ap⟩
variable{TS:bF TypeId}{K:bF Nat}
def kZ.cu{B2:Nat}(h:kZ w B b us Gs vl mH)(m:cg B2 TS K w w')(h1:66∉TS)(h2:120∉TS):kZ w' B b us Gs vl mH:=⟨h.blk.cu m h1,h.len,fun i h3 h4=>dq (h.own i h3 h4) m h2,dq h.lk m h2,h.ap⟩
def kZ.set(h:kZ w B b us Gs vl mH)(i:Nat)(u:bE)(G:bF Lg)(ho:w.ownsRow B 120 3 u G (bN df G))(ha:oW u vl)(hT:∀k,u.ownBlock=some k->k≠b):kZ (w.setCell (b,i) u) B b (us.set i u) (Gs.set i G) vl mH:=by
 have c:=h.blk.set i u;have a:∀{x:bE} {l:bF Lg},w.ownsRow B 120 3 x l (bN df l)->(w.setCell (b,i) u).ownsRow B 120 3 x l (bN df l):=fun{x l} hx=>ed hx fun g hg=>fV w (b,i) u g (fun e=>fp h.blk hx ah g hg (aG e));refine⟨aG c,by simp[h.len],fun j h1 h2=> ?_,a h.lk,fun j h1=> ?_⟩
 ·by_cases J:i=j
  ·subst J;simp only[xG];exact a ho
  ·simp only[List.getElem_set_ne J];exact a (h.own j _ _)
 ·by_cases J:i=j
  ·subst J;simp only[xG];exact ha
  ·simp only[List.getElem_set_ne J];exact h.ap j _
def kZ.grow(h:kZ w B b us Gs vl mH)(hB:B<=w){v':bE}{l':bF Lg}(hg:w.grownBy w' vl.ownBlock)(ho:w'.ownsRow B 120 3 v' l' (bN df l'))(hat:v'.ownBlock=vl.ownBlock∨v'.ownBlock=some w.heap.size):kZ w' B b us Gs v' l':=⟨h.blk.grown h.lk hg ah,h.len,fun i h1 h2=>yi (h.own i h1 h2) hg (h.ap i h1),ho,fun i h1=>yj (h.own i h1 (by rw[<-h.len];exact h1)) (h.ap i h1) hat⟩
end
def tB(B:Nat)(K:List Nat)(D:DS)(s:Int)(P:DS->Prop):Prop:=∀W A,cQ W B A D->dS W K A->B<=W.heap.size->Calls prog 215 #[ptr A.gd,s] W fun e w'=>∃A' D',e=.returned (.tuple #[])/\cL B K W w' A A' D'/\P D'
variable{B:Nat}{K:bF Nat}{D:DS}{A:DA}
def tB.at(h:tB B K D n P)(e:A.gd=gd)(hA:cQ W B A D)(hK:dS W K A)(hB:B<=W):bG 215 #[ptr gd,n] W fun e w'=>∃A' D',e=.returned (.tuple #[])/\cL B K W w' A A' D'/\P D':=by subst e;exact h W A hA hK hB
def Kd{s:Int}(ok:cC D)(h:D.short s=0):tB B K D s (·=D):=fun W A hA _ _=>by
 have HA:=aa hA;have HS:=aa (zV hA ok s);rw[h]at HS;clear h hA ok;go_enter func215,ntmps215;go_wp2_with(go_at_call 162;refine HS.o.bC ?_;rintro e w1⟨rfl,c1⟩);refine wb (results_none rfl _ _ _) rfl ?_;exact⟨A,D,rfl,cL.same HA.o c1,rfl⟩
def Xc(D:DS)(s:Int)(R:List Lg->List Lg->DS->Prop):Prop:=∃Q,(∀G L,Q G L->nZ G/\nZ L)/\qJ (D.eQ ⟨1,0⟩ s) (D.good s) Q/\∀G L,Q G L->R G L ((D.give G).tell (ey 14 L))
def DS.marks(D:DS)(rows:List (List Lg))(lost:List Lg)(cl:List Ob):DS:=cl.foldl (fun D x=>D.mark ⟨x.mem,x.bK,wrap64 (-x.cE)⟩ (kY x.mem (rows.getD x.bK.toNat [])) (decide (0<kY x.mem lost))) D
def Xd(D:DS)(rows:bF (bF Lg))(lost:bF Lg)(cl:bF Ob)(k:Nat)(h:k<cl):D.marks rows lost (cl.take (k+1))=(D.marks rows lost (cl.take k)).mark ⟨cl[k].mem,cl[k].bK,wrap64 (-cl[k].cE)⟩ (kY cl[k].mem (rows.getD cl[k].bK.toNat [])) (decide (0<kY cl[k].mem lost)):=by unfold DS.marks;rw[fj h,rX];rfl
def EC(rows:bF (bF Lg))(lost:bF Lg)(cl:bF Ob):∀{D:DS},cC D->cC (D.marks rows lost cl)/\(D.marks rows lost cl).log=D.log/\(D.marks rows lost cl).C=D.C:=by
 induction cl with
 |nil=>intro D n;exact⟨n,rfl,rfl⟩
 |cons x l ih=>intro D n;exact ih (n.mark _ _ _)
def Xe(B:Nat)(K:List Nat)(D:DS)(l:List Lg)(R:List Lg->List Lg->DS->Prop):Prop:=∃(r:List Lg) (P:DS->Prop) (Q:DS->List Lg->List Lg->Prop),Aj D.C l r/\r.length<=1024/\(∀x∈r,bO x.mem/\bO x.bJ)/\(∀D3,P D3->cC D3/\D3.log.length<=890000)/\qI B K D (jt (ei (jN D r)).1 (D.eQ ⟨1,0⟩ 0)) P/\(∀D3 G L,Q D3 G L->nZ G/\nZ L)/\(∀D3,P D3->iq (jN D r)=0->qJ (D3.eQ ⟨1,0⟩ 0) (jN D r) (Q D3))/\(∀D3,P D3->iq (jN D r)≠0->Q D3 [] [])/\∀D3 G L,P D3->Q D3 G L->R G L ((D3.give G).tell (ey 15 L))
def DS.fin(D:DS)(rows:List (List Lg))(lost:List Lg):DS:={(D.marks rows lost (D.bQ.filterMap pO)).ja (D.C.secs.length+1)with cv:=[],state:=0}
structure Al(B:Nat)(K:List Nat)(D:DS)(I1:Nat->DS->Prop)(I2:Nat->DS->List (List Lg)->List Lg->Prop)(I3:List (List Lg)->List Lg->List Lg->DS->Prop):Prop where
 s1:I1 0 D
 o1:∀k D1,I1 k D1->cC D1/\D1.C=D.C
 b1:∀k,k<D.C.secs.length->∀D1,I1 k D1->tB B K D1 ((k:Int)+1) (I1 (k+1))
 s2:∀D1,I1 D.C.secs D1->I2 0 D1 [] []
 o2:∀k D2 Gs L,I2 k D2 Gs L->cC D2/\D2.log.length<=880000/\D2.C=D.C/\Gs.length=k/\L.length<=1024*k/\∀x∈D2.bQ,bO x.mem
 b2:∀k,k<D.C.secs.length->∀D2 Gs L,I2 k D2 Gs L->Xc D2 ((k:Int)+1) fun G L' D'=>I2 (k+1) D' (Gs++[G]) (L++L')
 b3:∀D2 Gs L,I2 D.C.secs D2 Gs L->Xe B K D2 L fun G L' D'=>I3 Gs G L' D'
 o3:∀Gs G L D3,I3 Gs G L D3->cC D3/\D3.log.length<=895000/\D3.C=D.C/\Gs.length=D.C.secs.length/\(∀x∈D3.bQ,0<=x.bK/\x.bK<=D.C.secs)/\L.length<=100000/\∀g∈G::Gs,g.length<=100000
def Xf(B:Nat)(K:List Nat)(A:DA)(D:DS)(I3:List (List Lg)->List Lg->List Lg->DS->Prop)(w:World)(e:Ending)(w':World):Prop:=∃r A' D',e=.returned (aY r)/\cL B K w w' A A' D'/\if D.state≠2 then r=11/\D'=D else r=0/\∃Gs G L D3,I3 Gs G L D3/\D'=D3.fin (G::Gs) L
variable{w:bD}
def Xg{gx:Nat}(e:A.gx=gx)(h:cQ w B A D)(hK:A.gx∉K):bG 222 #[ptr gx] w fun e w'=>∃A' r,e=.returned (aY r)/\cL B K w w' A A' {D with cv:=[]}:=by
 subst e;let⟨E,d⟩:=Jh2 h (h.UJ (K:=K) hK);let⟨M,b,X⟩:=bV h.cv;have a:w.cell? (be A.gx 8)=some (.slice M D.cv b):=by rw[<-X];exact h.box.c 8
 have f:w.frozen? (be A.gx 8)=false:=h.box.free 8;clear h X;go_enter func222,ntmps222;go_wp2;go_ret;exact⟨_,_,rfl,d.o⟩
abbrev SX(b0 a bx:Nat)(ua:Value)(xm xa n:Int)(W:World):Prop:=W.cell? (be (bx+1) 0)=xm/\W.cell? (be (bx+1) 1)=xa/\W.cell? (be (bx+1) 2)=n/\W.cell? (be bx 1)=xm/\W.cell? (be bx 2)=xa/\W.cell? (b0,a)=some ua
def SX.of{b0 a:Nat}{ua:bE}{us:bF bE}{x:Ob}{c:Lg}(h1:bI W (bx+1) 120 (dI c))(h2:bI W bx 71 (gE x))(h3:bI W b0 66 us.toArray)(ha:us[a]?=some ua)(e1:c.mem=x.mem)(e2:c.bK=x.bK):SX b0 a bx ua x.mem x.bK c.bJ W:=by refine⟨(h1.c 0).bu (by rw[<-e1];rfl),(h1.c 1).bu (by rw[<-e2];rfl),h1.c 2,h2.c 1,h2.c 2,(h3.c a).bu (aG ha)⟩
def cL.side{b0:Nat}{w1 w2:bD}{A1:DA}{D1:DS}(s:cL B K w w1 A A1 D1)(m:cg b0 [66,120] [] w1 w2)(hB:B<=b0)(hw:w.heap.size<=b0):cL B K w w2 A A1 D1:=by
 have T:cg B [66,120] [] w1 w2:=⟨m.os,m.tape,m.output,m.size,fun k hk hc=>m.far k hk (by
  rcases hc with hc|hc|hc
  ·exact bS af
  ·exact ci (bS hc)
  ·exact ci (ci hc))⟩
 refine⟨s.at'.cu T ah,⟨m.os.bu s.mod.os,m.tape.bu s.mod.tape,m.output.bu s.mod.output,bW s.mod.size m.size,fun k hk hc=> ?_⟩,s.gd,s.gv,s.gs,s.gx,s.goes⟩;exact(m.far k (iN hk s.mod.size) (bS af)).bu (s.mod.far k hk hc)
def qK(S:Nat)(Gs:List (List Lg))(j:Nat):List (List Lg):=[]::(Gs++List.replicate (S-j) [])
def Xh(S:Nat)(Gs:bF (bF Lg))(j:Nat)(G:bF Lg)(hj:j<S)(hl:Gs.length=j):(qK S Gs j).set (j+1) G=qK S (Gs++[G]) (j+1):=by unfold qK;let⟨d,l⟩:∃d,S-j=d+1:=⟨S-j-1,af⟩;have N:S-(j+1)=d:=af;rw[l,N,iP,qY,uS _ _ af,hl,ue,iO];simp
def Xi(S:Nat)(Gs:bF (bF Lg))(j:Nat)(hj:j<=S)(hl:Gs.length=j):(qK S Gs j).length=S+1:=by unfold qK;simp;omega
def Ke{B1 n1:Nat}{xs:bF bE}(hu:w.ownsRow B1 120 3 u n1 xs)(hv:∀k,v.ownBlock=some k->k<B1):oW u v:=by
 by_cases h:u.ownBlock=none
 ·exact bS h
 ·refine ci fun e=> ?_;cases hk:u.ownBlock with
  |none=>exact h hk
  |some k=>
   have d:=(hu.lt k hk).1;have c:=hv k (by rw[<-e];exact hk);omega
def Kf{C:bZ}(e:A.gd=gd)(h:cQ w B A D)(hC:D.C=C):∃ns ks,w.cell? (be gd 1)=some (.slice ns C.secs ks):=by subst e hC;let⟨ns,ks,a,_⟩:=h.ct.sl.s;exact⟨ns,ks,(h.blk.c 1).bu (ym some a)⟩
def Kg(h:cQ w B A D)(ok:cC D)(hK:dS w K A)(hB:B<=w)(I1:Nat->DS->Prop)(I2:Nat->DS->bF (bF Lg)->bF Lg->Prop)(I3:bF (bF Lg)->bF Lg->bF Lg->DS->Prop)(H:D.state=2->Al B K D I1 I2 I3):
  bG 172 #[ptr A.gd] w (Xf B K A D I3 w):=by
 let⟨W1,aO⟩:=aH (w.alloc (bH #[(2:Int)] 3));have c1:Bw w W1:=by rw[<-aO];exact aI
 have s:=wy (h.keep c1) 2 w (by rw[<-aO];exact bI.new w 3 #[(2:Int)]);let⟨cj,bR,aq⟩:=Jh3 aO h hK;by_cases hs:D.state=2
 rotate_left
 ·rw[ya (Ne.symm hs)]at s;let⟨f,HS⟩:=Jh2 s hs;clear h ok hK aO s hs H;go_enter func172,ntmps172;go_wp2_with fail;rw[show w.alloc (bH #[(2:Int)] 3)=W1 from cj.o];go_wp2_with(go_at_call 152;refine f.o.bC ?_;rintro e w1⟨rfl,hw⟩;subst hw);go_ret;exact⟨_,A,D,rfl,cL.same bR.o c1,by rw[yc HS.o];exact⟨rfl,rfl⟩⟩
 ·rw[yc hs.symm]at s;let⟨f,HS,z⟩:=Jh3 s hs (H hs);have c8:D.C.secs.length<=8:=ok.ct.s2;have bk:Hid (∀(D3:DS) ab lost,D3.C=D.C->D3.fin ab lost={(D3.marks ab lost (D3.bQ.filterMap pO)).ja (D.C.secs.length+1)with cv:=[],state:=0}):=aa fun D3 ab lost e=>by unfold DS.fin;rw[e]
  let⟨C,hC⟩:=aH D.C;have HC:=aa hC;have bA:Hid (Al B K D I1 I2 I3):=z;let⟨S,hS⟩:=aH D.C.secs.length;have I:Hid (D.C.secs.length=S):=aa hS;let⟨ns,ks,q1⟩:=Kf rfl (h.keep c1) rfl;rw[hS]at q1 c8;rw[hC]at bk;clear h ok hK aO s hs H hC hS;go_enter func172,ntmps172;go_wp2_with fail;rw[show w.alloc (bH #[(2:Int)] 3)=W1 from cj.o];go_wp2_with(go_at_call 152;refine f.o.bC ?_;rintro e w1⟨rfl,hw⟩;subst hw);go_loopw[27] (fun vi wr=>∃(k:Nat) (A1:DA) (D1:DS),k<=S/\vi=k/\cL B K w wr A A1 D1/\I1 k D1) (aW S);exact⟨0,A,D,cH _,rfl,cL.same bR.o c1,z.o.s1⟩;obtain⟨k,A1,D1,hk,rfl,ak,hi⟩:=hrel;let⟨ac,HI⟩:=Jh2 ak hi;clear ak hi;by_cases ag:k<S
  ·have bX:0<=(k:Int):=af;have ay:k<(S:Int):=af;have aK:k<=1000:=af;have c3:=aa (z.o.b1 k (by rw[I.o];exact ag) D1 HI.o);have br:=(gJ k aK).1;have bv:=(gJ k aK).2;go_wp2_with(go_at_call 215;refine(c3.o.at ac.o.gd ac.o.at' (aq.o.step ac.o) (bW hB ac.o.mod.size)).bC ?_;rintro e w2⟨A2,D2,rfl,J,i2⟩;have c7:=aa (ac.o.bu J);clear J);go_roundw;exact⟨k+1,A2,D2,ag,by first|rfl|go_num,c7.o,i2⟩;exact eZ ag
  ·obtain rfl:k=S:=af;have dh:¬(k<(k:Int)):=af;have aN:=aa (z.o.s2 D1 (by rw[I.o];exact HI.o));have cU:=(z.o.o1 _ D1 HI.o).2;let⟨dB,dp,q2⟩:=Kf ac.o.gd ac.o.at' cU;rw[I.o]at q2;have aK:k<=1000:=af;have aT:=Xb (k+1) af wr;have hN:((k+1:Nat):Int)=(k:Int)+1:=af;rw[hN]at aT;let⟨X0,aV⟩:=aH (wr.alloc (.cells (List.replicate (k+1) (.slice none 0 0)).toArray 66));rw[aV]at aT;have cM:Bw wr X0:=by rw[<-aV];exact aI
   have bw:Hid (kZ X0 wr wr (List.replicate (k+1) (.slice none 0 0)) (List.replicate (k+1) []) (.slice none 0 0) []):=aa ⟨by rw[<-aV];exact bI.new wr 66 _,au,fun i h h2=>by simp only[List.getElem_replicate];exact wG _ _,wG _ _,fun i h=>bS Qb2⟩;have q3:X0.cell? (be A.gd 1)=some (.slice dB k dp):=(cM.c (p:=(be A.gd 1)) (by rw[<-ac.o.gd];exact ac.o.at'.blk.lt)).bu q2;have ar:=aa (ac.o.keep cM);have br:=(gJ k aK).1;have bv:=(gJ k aK).2;let⟨b0,a3⟩:=aH wr.heap.size;have aA:Hid (B<=b0/\w.heap.size<=b0):=aa (by rw[<-a3];exact⟨bW hB ac.o.mod.size,ac.o.mod.size⟩);have dc:Hid (b0<=X0.heap.size):=aa (by rw[<-a3];exact cM.size);rw[a3]at bw aT;let⟨i0,hi,ds,dC,dd⟩:=wm oF;clear cU aV hN a3;go_wp2;go_loopw[6,49] (fun x6 vi wr2=>∃(j:Nat) (A2:DA) (D2:DS) (us:bF bE) (Gs:bF (bF Lg)) (L:bF Lg) (vl:bE),j<=k/\vi=j/\vl=x6/\cL B K w wr2 A A2 D2/\I2 j D2 Gs L/\kZ wr2 b0 b0 us (qK k Gs j) vl L) (fun _ vi _=>k-(intOf vi).toNat);exact⟨0,A1,D1,_,[],[],_,cH _,rfl,rfl,ar.o,aN.o,by rw[show qK k [] 0=List.replicate (k+1) []from by unfold qK;simp[qY]];exact bw.o⟩;obtain⟨j,A2,D2,us,Gs,L,vl,hj,rfl,rfl,ak,ay,aj⟩:=hrel;let⟨n,aN,an⟩:=Jh3 ak ay aj;let⟨cP,dn,cR,bn,dZ,a8⟩:=z.o.o2 j D2 Gs L ay;let⟨bp,dU,a9,dm⟩:=Jh4 cP cR a8 bn;have cn:us.length=k+1:=by rw[aj.len,Xi k Gs j hj bn]
   have cD:=aa cn;have a4:Hid (b0<wr.heap.size):=aa aj.blk.lt;have cB:=aa (fun q (hq:vl.ownBlock=some q)=>(aj.lk.lt q hq).2);obtain⟨nl,kl,rfl⟩:=bV aj.lk;clear ak ay aj cP cR bn a8 cn;by_cases ag:j<k
   ·have bX:0<=(j:Int):=af;have ay:j<(k:Int):=af;have d0:(0:Int)<=(j:Int)+1:=af;have dX:(j:Int)+1<(k:Int)+1:=af;have dW:L.length<=100000:=af;have a2:j<=1000:=af;have c6:=z.o.b2 j (by rw[I.o];exact ag) D2 Gs L aN.o;obtain⟨Q,hQ,aL,hR⟩:=c6;let⟨HQ,HR⟩:=Jh2 hQ hR;have dF:=aa (WZ n.o.gd n.o.at' bp.o (aq.o.step n.o) (bW hB n.o.mod.size) af ((j:Int)+1) Q hQ aL);have bq:=(gJ j a2).1;have d:=(gJ j a2).2;clear hQ aL hR;go_wp2_with fail;clear br bv bq d;refine dF.o.bC ?_;rintro e x2⟨u1,u2,G,t,A3,D3,rfl,Z,o2,ao,q3,aJ⟩;let⟨aS,ad,Q3,c4⟩:=Jh4 (n.o.bu ao) (an.o.cu ao.mod ah ah) q3 aJ;obtain⟨m1,l1,rfl⟩:=bV Z;obtain⟨T,l2,rfl⟩:=bV o2;have aD:j+1<us.length:=by have:=cD.o;omega
    obtain⟨uo,c5⟩:∃uo,x2.cell? ⟨b0,j+1,none⟩=some uo:=⟨us[j+1],by rw[ad.o.blk.c (j+1)];simp[aD]⟩;have f5:x2.frozen? ⟨b0,j+1,none⟩=false:=ad.o.blk.free (j+1);have al:=aa (ad.o.set (j+1) (.slice m1 G l1) G (d8 Z (pE a4.o)) (Ke Z (fun q hq=>cB.o q hq)) (fun q hq=>by have h1:=(Z.lt q hq).1;have h2:=a4.o;omega));have a1:Hid ((x2.setCell ⟨b0,j+1,none⟩ (.slice m1 G l1)).ownsRow wr 120 3 (.slice T t l2) t (bN df t)):=aa (ed o2 (fun g hg=>fV x2 ⟨b0,j+1,none⟩ _ g (fun e=>fp ad.o.blk o2 ah g hg (aG e))));have dQ:=(HQ.o G t q3).2.1;have a5:b0<=(x2.setCell ⟨b0,j+1,none⟩ (.slice m1 G l1)).heap.size:=by have h1:=ad.o.blk.lt;simp[World.setCell];omega
    clear Z o2 ao q3 aJ aD;have bq:=(gJ j a2).1;have d:=(gJ j a2).2;go_wp2_with(at_builtin;clear bq d;refine fG eG ah oE _ rfl _ _ 66 rfl b0 120 i0 (.agg #[(),(),()]) 24 underlying66 hi ds dC dd aB (.slice nl L kl) L rfl al.o.lk T l2 t rfl (Sl.own eG a1.o) az af a5 ?_;intro v' w7 ae l cO;have bO:=aa (al.o.grow a5 l ae cO);have ai:=aa ((aS.o.side (cg.set ad.o.blk au (bL _) au) aA.o.1 aA.o.2).side (cg.grown al.o.lk l au (bL _) au) aA.o.1 aA.o.2);clear l cO ae);go_roundw;exact⟨j+1,A3,D3,_,_,_,_,ag,by first|rfl|go_num,rfl,ai.o,by have h9:=HR.o G t Q3.o;rw[<-c4.o]at h9;exact h9,by rw[Xh k Gs j G ag dm.o]at bO;exact bO.o⟩;exact eZ ag
   ·obtain rfl:j=k:=af;have dh:¬(j<(j:Int)):=af;have db:=z.o.b3 D2 Gs L (by rw[I.o];exact aN.o);obtain⟨r,P,Q,cw,bP,bc,hP,cs,hQ,aL,a6,hR⟩:=db;let⟨HR,HQ,aP⟩:=Jh3 hR hQ (Xa n.o.gd n.o.at' bp.o (aq.o.step n.o) (bW hB n.o.mod.size) dn (.slice nl L kl) L r (Sl.own eG an.o.lk) cw bP bc a9.o P hP cs Q hQ aL a6);clear cw bP bc hP cs hQ aL a6 hR br bv;go_wp2_with fail;refine aP.o.bC ?_;rintro e x2⟨u1,u2,G,t,A3,D3,rfl,Z,o2,ao,D4,p4,q4,aJ⟩;let⟨aS,ad⟩:=Jh2 (n.o.bu ao) (an.o.cu ao.mod ah ah);have cE:Hid (I3 Gs G t D3):=aa (by rw[aJ];exact HR.o D4 G t p4 q4);let⟨c2,bo⟩:=Jh2 Z o2;obtain⟨m1,l1,rfl⟩:=bV Z;obtain⟨T,l2,rfl⟩:=bV o2;have aD:0<us.length:=by have:=cD.o;omega
    obtain⟨uo,c5⟩:∃uo,x2.cell? ⟨b0,0,none⟩=some uo:=⟨us[0],by rw[ad.o.blk.c 0];simp[aD]⟩;have f5:x2.frozen? ⟨b0,0,none⟩=false:=ad.o.blk.free 0;have dw:=pE a4.o;have al:=aa (ad.o.set 0 (.slice m1 G l1) G (d8 Z dw) (Ke Z (fun q hq=>cB.o q hq)) (fun q hq=>by have h1:=(Z.lt q hq).1;have h2:=a4.o;omega));have a1:Hid ((x2.setCell ⟨b0,0,none⟩ (.slice m1 G l1)).ownsRow wr 120 3 (.slice T t l2) t (bN df t)):=aa (ed o2 (fun g hg=>fV x2 ⟨b0,0,none⟩ _ g (fun e=>fp ad.o.blk o2 ah g hg (aG e))));have Y:=aa (aS.o.side (cg.set (i:=0) (x:=.slice m1 G l1) ad.o.blk au (bL _) au) aA.o.1 aA.o.2);let⟨cr,dM,cm,cb,ba,c0,aC⟩:=z.o.o3 Gs G t D3 cE.o;have e0:(qK j Gs j).set 0 G=G::Gs:=by unfold qK;simp
    rw[e0]at al;let⟨aM,b6,cc,O,dE⟩:=Jh5 cr cm ba aC cb;have dP:(0:Int)<(j:Int)+1:=af;clear Z o2 ao p4 q4 aJ aD cr cm cb ba aC e0;have c9:(x2.setCell ⟨b0,0,none⟩ (.slice m1 G l1)).cell? (be A.gd 9)=some (ptr A.gs):=by rw[<-Y.o.gd,<-Y.o.gs];exact Y.o.at'.blk.c 9
    have av:=aa (QN B A3.gs A3.vo D3.bQ _ Y.o.at'.fZ (by have:=aM.o.bQ;omega));rw[Y.o.gs]at av;have M:Hid (∀x∈D3.bQ.filterMap pO,x∈D3.bQ):=aa fun x hx=>by
     let⟨y,hy,he⟩:=acY.1 hx;unfold pO eJ at he;split at he
     ·cases he;exact hy
     ·cases he
    have dl:(D3.bQ.filterMap pO).length<=1024:=bW (gK _ _) aM.o.bQ;have V:Hid (D3.fin (G::Gs) t={(D3.marks (G::Gs) t (D3.bQ.filterMap pO)).ja (C.secs.length+1)with cv:=[],state:=0}):=aa (bk.o D3 _ _ (b6.o.bu HC.o));let⟨cl,aQ⟩:=aH (D3.bQ.filterMap pO);rw[aQ]at av M dl V;let⟨aF,bh⟩:=aH (us.set 0 (.slice m1 G l1));rw[bh]at al;let⟨WB,bx⟩:=aH ((x2.setCell ⟨b0,0,none⟩ (.slice m1 G l1)).heap.size);have bb:Hid (∀q,A3.vo.ownBlock=some q->q<WB):=aa fun q hq=>by rw[<-bx];exact(Y.o.at'.fZ.own.lt q hq).2
    have bz:Hid ((G::Gs).length=j+1):=aa (by rw[gL,dE.o,I.o]);let⟨ab,ap⟩:=aH (G::Gs);have dk:=aa ap;rw[ap]at al V bz O;clear aQ bh ap;go_wp2_with(go_at_call 218;refine av.o.bC ?_;rintro e x5⟨v5,rfl,o5,m⟩;have cW:=aa (Y.o.keep m);have dz:=aa (al.o.keep m);have du:=aa (cJ a1.o m);rw[bx]at o5;have O5:=aa o5;obtain⟨n5,k5,rfl⟩:=bV o5;clear o5 m);clear c9 c5 f5 av Y al a1 bx ad aS c2 bo an n aN a9 bp aP dc q1 q2 q3 aT bw ar;go_loopw[83] (fun vi wr=>∃i:Nat,i<=cl.length/\vi=i/\cL B K w wr A A3 (D3.marks ab t (cl.take i))/\kZ wr b0 b0 aF ab (.slice nl L kl) L/\(∃B2,wr.ownsRow B2 120 3 (.slice T t l2) t (bN df t))/\wr.ownsRow WB 71 6 (.slice n5 cl.length k5) cl.length (bN eS cl)) (aW cl.length);exact⟨0,cH _,rfl,cW.o,dz.o,⟨_,du.o⟩,O5.o⟩;obtain⟨i,hi,rfl,ak,aj,⟨B2,cz⟩,dY⟩:=hrel;let⟨ac,an,bo,co,dA⟩:=Jh5 ak aj cz dY (Sl.own il dY);have dJ:=ak.mod.size;clear ak aj cz dY;by_cases ag:i<cl.length
    ·obtain⟨dT,dv,b,cy,rfl,dV,aQ⟩:=dA.o.hd;have hx:=aQ i ag;have bX:0<=(i:Int):=af;have ay:i<(cl:Int):=af;unfold maxLen at dv;let⟨am,ca⟩:=Jh2 (Xd D3 ab t cl i ag) ((EC ab t (cl.take i) aM.o).1);have bs:=M.o cl[i] (cZ ag);have cT:=cc.o cl[i] bs;have cA:=aM.o.fC cl[i] bs;let⟨Di,bY⟩:=aH (D3.marks ab t (cl.take i));rw[bY]at am ca ac;clear aQ bY bs;generalize cl[i]=x at*;obtain⟨xc,F,xa,xn,xd,xs⟩:=x;let⟨r0,r1,r2,r3,r4,r5⟩:=oA hx;dsimp only at cT cA r0 r1 r2 r3 r4 r5 am;obtain⟨a,rfl⟩:∃a:Nat,xa=(a:Int):=⟨xa.toNat,af⟩;have ci:a<j+1:=by have:=I.o;omega
     let⟨u,bJ⟩:=aH (wrap64 (-xn));have dH:IntKind.i64.wrap (-xn)=u:=(xE _).bu bJ;rw[bJ,xD]at am;have cx:a<aF.length:=by rw[an.o.len,bz.o];exact ci
     have bl:a<ab.length:=by rw[bz.o];exact ci
     have bK:ab.getD a []=ab[a]:=by rw[dy,dG bl];rfl
     have ae:=an.o.own a cx bl;have aR:aF[a]?=some aF[a]:=dG cx;have bT:=O.o ab[a] (cZ bl);rw[bK]at am;let⟨Ga,ck⟩:=aH (ab[a]);rw[ck]at am ae bT;let⟨na,ka,cf⟩:=bV ae;rw[cf]at ae aR;have cd:=aa ae;let⟨X,hX⟩:=aH ((wr.alloc (bH (gE ⟨xc,F,a,xn,xd,xs⟩) 71)).alloc (bH (dI ⟨F,a,u⟩) 120));have cX:Bw wr X:=by rw[<-hX];exact aI.alloc au _
     have de:=aa hX;have cF:Hid (bI X wr 71 (gE ⟨xc,F,a,xn,xd,xs⟩)):=aa (by rw[<-hX];exact(bI.new wr 71 _).alloc _);have b8:Hid (bI X (wr.heap.size+1) 120 (dI ⟨F,a,u⟩)):=aa (by rw[<-hX];exact heap_alloc2_new _ _ _);let⟨ar,aE,a7,v,b4⟩:=Jh5 (ac.o.keep cX) (an.o.keep cX) (cJ bo.o cX) (cJ co.o cX) (cJ cd.o cX);have dr:Hid (A3.vo.ownBlock≠some wr.heap.size):=aa (fun e=>by have h1:=bb.o _ e;have h2:=co.o.lt b rfl;omega);have bm:Hid (∀W,Bw X W->SX b0 a wr (.slice na Ga.length ka) F a u W):=aa fun W c=>SX.of (x:=⟨xc,F,a,xn,xd,xs⟩) (c:=⟨F,a,u⟩) (b8.o.keep c) (cF.o.keep c) (aE.o.blk.keep c) aR rfl rfl;have U:Hid (∀W,Bw X W->bG 220 #[.slice na Ga.length ka,F] W (bi (kY F Ga) W)):=aa fun W c=>JP _ Ga F W (Sl.own eG (cJ b4.o c)) bT;have b7:Hid (∀W,Bw X W->bG 220 #[.slice T t l2,F] W (bi (kY F t) W)):=aa fun W c=>JP _ t F W (Sl.own eG (cJ a7.o c)) c0;let⟨da,cp⟩:=aH (kY F Ga);let⟨lb,cq⟩:=aH (kY F t);rw[cp]at U am;rw[cq]at b7 am;have ce:Hid (∀W,Bw X W->bG 219 #[ptr A.gd,.agg #[F,.int .i64 (a:Int),.int .i64 u],.int .i64 da,.bool (decide (0<lb))] W fun e w'=>e=.returned (.tuple #[])/\cL B K w w' A A3 (Di.mark ⟨F,a,u⟩ da (decide (0<lb)))/\kZ w' b0 b0 aF ab (.slice nl L kl) L/\w'.ownsRow B2 120 3 (.slice T t l2) t (bN df t)/\w'.ownsRow WB 71 6 (.slice (some (b,cy)) cl.length k5) cl.length (bN eS cl)/\SX b0 a wr (.slice na Ga.length ka) F a u w'):=aa fun W c=>by
      have a0:=ar.o.keep c;have hk:=WD (K:=K) a0.at' ca.o (aq.o.step a0) ⟨F,a,u⟩ da (decide (0<lb));rw[a0.gd]at hk;refine hk.bC ?_;rintro e w'⟨he,st,fr⟩;have dt:w'.ownsRow WB 71 6 (.slice (some (b,cy)) cl.length k5) cl.length (bN eS cl):=ed (cJ v.o c) (fun g hg=>fr g ((cJ v.o c).lt g hg).2 (fun e2=>by have h1:=bb.o g e2;have h2:=((cJ v.o c).lt g hg).1;omega));have cS:=cF.o.keep c;exact⟨he,a0.bu st,(aE.o.keep c).cu st.mod ah ah,dq (cJ a7.o c) st.mod ah,dt,SX.of (x:=⟨xc,F,a,xn,xd,xs⟩) (c:=⟨F,a,u⟩) ((b8.o.keep c).cu st.mod ah) ((fr _ cS.lt dr.o).bu cS) ((aE.o.blk.keep c).cu st.mod ah) aR rfl rfl⟩
     have bA:=bm.o X (bM _ _);have N0:Hid (Bw X X.drew):=aa (bM _ _).drew;have dN:0<=(a:Int):=af;have dK:(a:Int)<(j:Int)+1:=af;clear hX cX hx ae aR cf ck bK cp cq bJ cT cA;go_wp2_with fail;rw[show(wr.alloc (bH #[xc,F,.int .i64 (a:Int),xn,xd,xs] 71)).alloc (bH #[F,.int .i64 (a:Int),.int .i64 u] 120)=X from de.o];go_region_held3(fun W=>SX b0 a wr (.slice na Ga.length ka) F a u W) (first|exact bA|exact s1|exact s2|exact s3|assumption|go_keep)
      (first
       |(go_at_call 220;(first
         |(with_reducible refine(U.o _ (by first|exact N2.o|exact N0.o)).bC ?_;rintro e y1⟨rfl,d1⟩;(first|have N1:=aa (N2.o.bu (d1.bC N2.o.size))|have N1:=aa (N0.o.bu (d1.bC N0.o.size)));have s1:=bm.o _ N1.o;clear d1)
         |(with_reducible refine(b7.o _ (by first|exact N1.o|exact N0.o)).bC ?_;rintro e y2⟨rfl,d2⟩;(first|have N2:=aa (N1.o.bu (d2.bC N1.o.size))|have N2:=aa (N0.o.bu (d2.bC N0.o.size)));have s2:=bm.o _ N2.o;clear d2)))
       |(go_at_call 219;(first|refine(ce.o _ N2.o).bC ?_|refine(ce.o _ N1.o).bC ?_);rintro e y3⟨rfl,b5,cK,cG,cN,s3⟩;have cV:=aa b5;have dx:=aa cK;have di:=aa cG;have dg:=aa cN;clear b5 cK cG cN))
     all_goals
      rename_i aU;clear aU s1 s2 s3 bA;go_wp2;go_roundw;exact⟨i+1,af,aw,by rw[am.o];exact cV.o,dx.o,⟨_,di.o⟩,dg.o⟩;exact eZ af
    ·obtain rfl:i=cl.length:=af;have dO:¬(cl.length<(cl:Int)):=af;rw[show cl.take cl.length=cl from eU (bL _)]at ac;let⟨N,bB,bU⟩:=EC ab t cl aM.o;have R:=bU.bu (b6.o.bu HC.o);let⟨Dm,cI⟩:=aH (D3.marks ab t cl);rw[cI]at ac V N bB R;have dR:=aa N;have E:=WJ ac.o.at' N (aq.o.step ac.o) (bW hB ac.o.mod.size) (by rw[bB];omega);rw[ac.o.gd,R]at E;let⟨E,dj⟩:=Jh2 E V.o;clear N bB bU R cI;go_wp2_with(first
      |(go_at_call 221;refine E.o.bC ?_;rintro e z1⟨A6,rfl,bZ⟩;have ax:=aa (ac.o.bu bZ);have dL:z1.cell? (be A.gd 10)=some (ptr A6.gx):=(by rw[<-ax.o.gd];exact ax.o.at'.blk.c 10);clear bZ)
      |(go_at_call 222;refine(Xg (K:=K) rfl ax.o.at' ((aq.o.step ax.o).blk ax.o.at'.box ah)).bC ?_;rintro e z2⟨A7,r7,rfl,b9⟩;have ai:=aa (ax.o.bu b9);have cY:=ai.o.at'.blk.c 13;rw[ai.o.gd]at cY;have dD:=ai.o.at'.blk.free 13;rw[ai.o.gd]at dD;have ch:=aa (ai.o.bu (ai.o.at'.setState (K:=K) 0 ((aq.o.step ai.o).blk ai.o.at'.blk ah)));rw[ai.o.gd]at ch;clear b9))
     go_ret;refine⟨0,_,_,rfl,ch.o, ?_⟩;rw[ya (aG HS.o)];exact⟨rfl,Gs,G,t,D3,cE.o,by rw[dk.o,dj.o]⟩
end
def eM(l:List Ev):Prop:=∀x∈l,x.cq<13∨15<x.cq
structure eH(n:Nat)(D D':DS):Prop where
 C:D'.C=D.C
 bQ:D'.bQ=D.bQ
 who:D'.who=D.who
 cv:D'.cv=D.cv
 dt:D'.dt=D.dt
 state:D'.state=D.state
 log:∃ev,D'.log=D.log++ev/\ev.length<=n/\eM ev
 ok:cC D'
variable{D:DS}
def eH.refl(ok:cC D):eH 0 D D:=⟨rfl,rfl,rfl,rfl,rfl,rfl,⟨[],au,au,nofun⟩,ok⟩
variable{m:Nat}
def eH.trans{n:Nat}{D1 D2:DS}(h:eH n D D1)(k:eH m D1 D2):eH (n+m) D D2:=by
 let⟨o,q,W,Z⟩:=h.log;let⟨r,O,B,Q⟩:=k.log;refine⟨k.C.bu h.C,k.bQ.bu h.bQ,k.who.bu h.who,k.cv.bu h.cv,k.dt.bu h.dt,k.state.bu h.state,⟨o++r,by rw[O,q,fz],aN,fun x hx=> ?_⟩,k.ok⟩;rcases xq.1 hx with hx|hx
 ·exact Z x hx
 ·exact Q x hx
def eH.bu:=@eH.trans
def eH.mono{n:Nat}{D':DS}(h:eH n D D')(hm:n<=m):eH m D D':=by let⟨o,q,W,Z⟩:=h.log;exact⟨h.C,h.bQ,h.who,h.cv,h.dt,h.state,⟨o,q,af,Z⟩,h.ok⟩
def eH.bC:=@eH.mono
def eH.len{n:Nat}{D':DS}(h:eH n D D'):D'.log.length<=D.log.length+n:=by let⟨o,q,W,_⟩:=h.log;rw[q,cO];omega
def eH.move(ok:cC D)(a b:Ac)(s n:Int):eH 0 D (D.move a b s n):=⟨rfl,rfl,rfl,rfl,rfl,rfl,⟨[],by simp[DS.move],au,nofun⟩,ok.move a b s n⟩
def eH.post(ok:cC D)(l:bF En):eH 0 D (D.post l):=⟨rfl,rfl,rfl,rfl,rfl,rfl,⟨[],by simp[DS.post],au,nofun⟩,ok.post l⟩
def eH.tell(ok:cC D)(ev:bF Ev)(h:eM ev):eH ev D (D.tell ev):=⟨rfl,rfl,rfl,rfl,rfl,rfl,⟨ev,rfl,bL _,h⟩,ok.tell ev⟩
def pg{x:Ev}(h:x.cq<13∨15<x.cq):eM [x]:=fun y hy=>by simp at hy;subst hy;exact h
section
attribute [local go_sem ↓] wp_at_zero wp_at_succ
abbrev ED:Array Value:=#[.slice none 0 0,.slice none 0 0,(),()]
structure lM(w:World)(bp:Nat)(ln cp:Int)(vc vf:Value)(lc lf:List Int)(W:World):Prop where
 z:bI W w 340 ED
 b:bI W bp 340 #[vc,vf,ln,cp]
 c:W.ownsRow w 2 1 vc lc (bN eI lc)
 f:W.ownsRow w 2 1 vf lf (bN eI lf)
 ap:oW vc vf
 ne:w.heap.size<bp
 eK:Bw w W
section
variable {w W W':World} {bp:Nat} {ln cp:Int} {vc vf v':Value} {lc lf:List Int}
def lM.keep(h:lM w bp ln cp vc vf lc lf W)(c:Bw W W'):lM w bp ln cp vc vf lc lf W':=⟨h.z.keep c,h.b.keep c,cJ h.c c,cJ h.f c,h.ap,h.ne,h.eK.bu (c.bC h.eK.size)⟩
def lM.alloc(h:lM w bp ln cp vc vf lc lf W)(o:Obj):lM w bp ln cp vc vf lc lf (W.alloc o):=h.keep aI
def lM.d(h:lM w bp ln cp vc vf lc lf W){wd:bD}(e:wd=W.drew):lM w bp ln cp vc vf lc lf wd:=by subst e;exact h.keep (bM _ _).drew
variable{x:Int}
def lM.add0(h:lM w bp ln cp vc vf lc lf W)(hown:W'.ownsRow w 2 1 v' (lc++[x]).length (bN eI (lc++[x])))(hg:W.grownBy W' vc.ownBlock)(hat:v'.ownBlock=vc.ownBlock∨v'.ownBlock=some W.heap.size):lM w bp ln cp v' vf (lc++[x]) lf (W'.setCell (be bp 0) v'):=by have m:=cg.grown (B:=w.heap.size) (TS:=[2]) (K:=[]) h.c hg au (bL _) au;have u:=h.b.cu m ah;have T:cg w [340] [] W' (W'.setCell (be bp 0) v'):=cg.set u au (pE h.ne) au;refine⟨(h.z.cu m ah).far 0 v' (mi h.ne),u.set 0 v',dq hown T ah,dq (yi h.f hg h.ap.symm) T ah,(yj h.f h.ap.symm hat).symm,h.ne, ?_⟩;exact T.low (m.low h.eK (bL _)) (bL _)
def lM.add1(h:lM w bp ln cp vc vf lc lf W)(hown:W'.ownsRow w 2 1 v' (lf++[x]).length (bN eI (lf++[x])))(hg:W.grownBy W' vf.ownBlock)(hat:v'.ownBlock=vf.ownBlock∨v'.ownBlock=some W.heap.size):lM w bp ln cp vc v' lc (lf++[x]) (W'.setCell (be bp 1) v'):=by have m:=cg.grown (B:=w.heap.size) (TS:=[2]) (K:=[]) h.f hg au (bL _) au;have u:=h.b.cu m ah;have T:cg w [340] [] W' (W'.setCell (be bp 1) v'):=cg.set u au (pE h.ne) au;refine⟨(h.z.cu m ah).far 1 v' (mi h.ne),u.set 1 v',dq (yi h.c hg h.ap) T ah,dq hown T ah,yj h.c h.ap hat,h.ne, ?_⟩;exact T.low (m.low h.eK (bL _)) (bL _)
end
def Xj(n:Nat)(w:World)(e:Ending)(w':World):Prop:=∃vc vf p,e=.returned (rq vc vf p)/\nx w' vc vf p/\p.cw.length=n/\ep p.cw/\ep p.cI/\bO p.line/\bO p.cap/\Bw w w'
variable{x:Int}
def Kh{l:bF Int}(h:ep l)(hx:bO x):ep (l++[x]):=fun y hy=>by
 rcases xq.1 hy with hy|hy
 ·exact h y hy
 ·simp at hy;subst hy;exact hx
variable{B:Nat}{A:DA}{w:bD}
def Ki(h:cQ w B A D)(ok:cC D):bG 263 #[ptr A.gd] w (Xj D.C.mem w):=by
 let⟨HD,OK⟩:=Jh2 h ok;have ag:D.C.mem.length<=16:=ok.ct.m2;let⟨M,X⟩:=aH D.C.mem.length;rw[X]at ag⊢;have HM:=aa X;have s:=aa (fun(W:bD) (c:Bw w W) (a:Ac)=>uK (gd:=A.gd) rfl (h.keep c) ok a 0);have L:=aa (fun a=>ru ok a 0);let⟨nm,V,av,_⟩:=h.ct.sl.m;have i:Hid (∀W,Bw w W->W.cell? (be A.gd 0)=some (.slice nm M V)):=aa fun W c=>by rw[<-X];exact((h.keep c).blk.c 0).bu (ym some av)
 let⟨j0,hj,aA,p,F⟩:=wm Er;have c1:Bw w (aZ w ED 340):=aI;have Z1:=aa (bI.new w 340 ED);clear h ok X av;go_enter func263,ntmps263;go_wp2_with fail;let⟨Z,u⟩:=aH (D.eQ ⟨3,0⟩ 0);let⟨cp,ai⟩:=aH (D.eQ ⟨4,0⟩ 0);have aE:Hid (bO Z):=aa (by rw[<-u];exact L.o _);have Y:Hid (bO cp):=aa (by rw[<-ai];exact L.o _);have b1:=s.o _ c1 ⟨3,0⟩;rw[u]at b1;refine b1.bC ?_;rintro e w1⟨rfl,d1⟩;let⟨C1,Z2⟩:=Jh2 (c1.bu (d1.bC c1.size)) (Z1.o.keep d1);clear d1 b1;go_wp2_with fail;have t:=s.o _ C1.o ⟨4,0⟩;rw[ai]at t;refine t.bC ?_;rintro e w2⟨rfl,Q⟩;let⟨C2,Z3⟩:=Jh2 (C1.o.bu (Q.bC C1.o.size)) (Z2.o.keep Q);clear Q t u ai;have C3:Bw w (aZ w2 #[bd,bd,aY Z,aY cp] 340):=C2.o.alloc C2.o.size _;have aT:=i.o _ C3;have ax:Hid (lM w w2 Z cp bd bd [] [] (aZ w2 #[bd,bd,aY Z,aY cp] 340)):=aa ⟨Z3.o.alloc _,bI.new w2 340 _,mQ _ _ _ _,mQ _ _ _ _,bS rfl,Z3.o.lt,C3⟩;go_wp2_with fail;let⟨H,ao⟩:=aH w2.heap.size;rw[ao]at ax;rw[ao];clear aT C3;go_loopw[18] (fun vi wr=>∃(k:Nat) (G O:bE) (lc r:bF Int),k<=M/\vi=k/\lM w H Z cp G O lc r wr/\lc.length=k/\r.length=k/\ep lc/\ep r) (aW M);exact⟨0,_,_,[],[],cH _,rfl,ax.o,rfl,rfl,(nofun),(nofun)⟩;obtain⟨k,G,O,lc,r,hk,rfl,N,J,an,aq,ap⟩:=hrel;let⟨PL,ad,ak,az,aC⟩:=Jh5 N J an aq ap;obtain⟨nc,kc,rfl⟩:=bV N.c;obtain⟨S,kf,rfl⟩:=bV N.f;clear N J an aq ap;by_cases a6:k<M
 ·have a5:0<=(k:Int):=af;have a3:k<(M:Int):=af;have a4:=(gJ k af).1;have a2:=(gJ k af).2;let⟨x,hx⟩:=aH (D.eQ ⟨8,(k:Int)+1⟩ 0);have T:Hid (bO x):=aa (by rw[<-hx];exact L.o _);have am:=aa (fun(W:bD) (c:Bw w W)=>s.o W c ⟨8,(k:Int)+1⟩);rw[hx]at am;let⟨y,hy⟩:=aH (D.eQ ⟨9,(k:Int)+1⟩ 0);have U:Hid (bO y):=aa (by rw[<-hy];exact L.o _);have ay:=aa (fun(W:bD) (c:Bw w W)=>s.o W c ⟨9,(k:Int)+1⟩);rw[hy]at ay;clear hx hy;have a1:=PL.o.eK.size;have R:=aa (PL.o.d rfl);have aQ:=R.o.b.c 0;have aN:(lc++[x]).length=lc.length+1:=au;have aU:(r++[y]).length=r.length+1:=au;have u:lc.length<=16:=by have:=ad.o;omega
  have a0:r.length<=16:=by have:=ak.o;omega
  go_wp2;go_region_law
   (first
    |(refine lV kI ah kj _ aB _ _ 45 aB w 2 j0 (aY 0) 8 underlying45 hj aA p F aB (.slice nc lc kc) lc aB (by exact P3.o.c) (some (be x2 0)) 1 1 [x] aB aB (by exact Sl.qr eI kI x2 2 x rfl) aP aO (by exact P3.o.eK.size) ?_;intro v' w5 ab l ac;have q:=aa (P3.o.add0 ab l ac);have ae:=P3.o.b.cu (cg.grown (B:=w.heap.size) (TS:=[2]) (K:=[]) P3.o.c l au (bL _) au) ah;have E:=ae.c 0;have aS:=ae.free 0;have a7:=ae.c 1;obtain⟨n5,k5,rfl⟩:=bV ab;rw[aN]at q)
    |(go_simp;go_wp2_with(first|(go_at_call 138;refine(pK ((k:Int)+1) _).bC ?_;rintro e x1⟨rfl,rfl⟩;have P1:=aa (R.o.alloc (bH (cT ⟨8,(k:Int)+1⟩) 81));have aR:=P1.o.b.c 0;have ar:=(PL.o.alloc (bH (cT ⟨8,(k:Int)+1⟩) 81)).b.c 0)|(go_at_call 137;refine(am.o _ P1.o.eK).bC ?_;rintro e x2⟨rfl,c2⟩;have P2:=aa (P1.o.keep c2);have aF:=P2.o.b.c 0;have P3:=aa (P2.o.alloc (bH #[aY x] 2));have aG:=P3.o.b.c 0;clear c2))))
  all_goals
   clear aQ aR ar aF aG ae E aS ab l ac R P1 P2 P3 PL;have n:=aa (q.o.d rfl);have aM:=n.o.b.c 1;clear q;go_wp2;go_region_law
    (first
     |(refine lV kI ah kj _ aB _ _ 45 aB w 2 j0 (aY 0) 8 underlying45 hj aA p F aB (.slice S r kf) r aB (by exact P7.o.f) (some (be x6 0)) 1 1 [y] aB aB (by exact Sl.qr eI kI x6 2 y rfl) aP aO (by exact P7.o.eK.size) ?_;intro v8 w8 ab l ac;have I:=aa (P7.o.add1 ab l ac);have al:=P7.o.b.cu (cg.grown (B:=w.heap.size) (TS:=[2]) (K:=[]) P7.o.f l au (bL _) au) ah;have aL:=al.c 1;have aK:=al.free 1;obtain⟨n8,k8,rfl⟩:=bV ab;rw[aU]at I)
     |(go_simp;go_wp2_with(go_at_call 137;refine(ay.o _ n.o.eK).bC ?_;rintro e x6⟨rfl,c6⟩;have P6:=aa (n.o.keep c6);have j:=P6.o.b.c 1;have P7:=aa (P6.o.alloc (bH #[aY y] 2));have aJ:=P7.o.b.c 1;clear c6)))
   all_goals
    clear aM j aJ al aL aK ab l ac n P6 P7;go_wp2;go_roundw;exact⟨k+1,_,_,_,_,af,aw,I.o,by simp[ad.o],by simp[ak.o],Kh az.o T.o,Kh aC.o U.o⟩;exact aV
 ·obtain rfl:k=M:=af;have a8:¬(k<(k:Int)):=af;let⟨r0,r1,r2,r3⟩:=PL.o.b.k4 0 1 2 3;have ZB:=aa PL.o.z;go_wp2_with(refine fQ rfl 340 _ _ rfl rfl w #[.slice nc lc kc,.slice S r kf,aY Z,aY cp] rfl rfl aj aD _ ZB.o rfl ?_;intro W5 P5;have PX:=aa P5;have s0:=P5.row.c 0;have s1:=P5.row.c 1;have s2:=P5.row.c 2;have s3:=P5.row.c 3;clear P5);refine wb (v:=rq (.slice nc lc kc) (.slice S r kf) ⟨lc,r,Z,cp⟩) (by simp[results,results263,go_sem,s0,s1,s2,s3]) rfl ?_;have P:=ed PL.o.c (w':=W5) fun g hg=>PX.o.far g (fp PL.o.z PL.o.c ah g hg);have hf:=ed PL.o.f (w':=W5) fun g hg=>PX.o.far g (fp PL.o.z PL.o.f ah g hg);refine⟨_,_,⟨lc,r,Z,cp⟩,rfl,⟨Sl.own kI P,Sl.own kI hf,ad.o.bu ak.o.symm,by rw[ad.o];exact ag⟩,ad.o,az.o,aC.o,aE.o,Y.o,PX.o.low PL.o.eK (bL _)⟩
variable{gd:Nat}
def wH(e:A.gd=gd)(h:cQ w B A D):∃n k,w.cell? (be gd 11)=some (.slice n D.who k)/\Sl eI 1 w (.slice n D.who k) D.who:=by subst e;let⟨n,k,R⟩:=bV h.who;have L:=Sl.own kI h.who;rw[R]at L;exact⟨n,k,(h.blk.c 11).bu (ym some R),L⟩
def Kj(h:cQ w B A D)(ok:cC D)(m n:Int):bG 165 #[ptr A.gd,m,n] w fun e w'=>∃y:Int,e=.returned y/\Bw w w':=by
 have E:=aa h;let⟨v,u,Y,s,t,c,p,X⟩:=qE h.blk;have G:=aa h.ct.sl;have i:D.who.length<=1000000:=by have:=ok.who;omega
 clear h ok;by_cases Z:fR D.C m
 rotate_left
 ·have l:=aa Z;clear Z;go_enter func165,ntmps165;go_wp2_with(go_at_call 112;refine(lG A.vm A.vs A.vc D.C _ G.o _).bC ?_;rintro e V⟨a,rfl,b⟩;rw[ya l.o];have R:=aa (b.alloc b.size (bH (eR a) 125)));go_ret;exact⟨_,rfl,R.o⟩
 have l:=aa Z;clear Z;cases hh:iR D.who m with
 |true=>
  have z:=aa hh;clear hh;exact Qal
 |false=>
  have z:=aa hh;clear hh;by_cases r:n<1
  ·have x:=dT r;clear r;exact Qal
  ·have x:=dF r;clear r;exact Qal
def Kk(B:Nat)(K:List Nat)(A:DA)(D:DS)(k:Nat)(w:World)(e:Ending)(w':World):Prop:=∃(x y:Int) (A':DA) (D':DS),e=.returned (.tuple #[x,y])/\cL B K w w' A A' D'/\eH k D D'
variable{K:bF Nat}
def Xk(h:cQ w B A D)(ok:cC D)(hK:dS w K A)(hB:B<=w)(m n:Int)(h64:bO n)(hlog:D.log.length<=900000):
  bG 115 #[ptr A.gd,m,n] w (Kk B K A D 1 w):=by
 let⟨d,P,l,Z,F⟩:=Jh5 h hK ok h64 (Kj h ok m n);clear h ok hK h64;go_enter func115,ntmps115;go_wp2_with fail;refine F.o.bC ?_;rintro e i⟨y,rfl,b⟩;have t:=aa b;clear b;by_cases hy:y=0
 rotate_left
 ·have ag:(y !=0)=true:=aG hy;go_wp2;go_ret2;exact⟨_,_,A,D,rfl,cL.same d.o t.o,(eH.refl l.o).bC af⟩
 subst hy;have C:Bw w (aZ i (cT ⟨8,m⟩) 81):=t.o.alloc t.o.size _;let⟨k,HI⟩:=Jh2 (uK rfl (d.o.keep C) l.o ⟨8,m⟩ 0) (ru l.o ⟨8,m⟩ 0);let⟨q,ac⟩:=aH (D.eQ ⟨8,m⟩ 0);rw[ac]at k HI;clear ac;have X:bO (wrap64 (1099511627776-q)):=by unfold bO wrap64;omega
 let⟨s,T⟩:=aH (wrap64 (1099511627776-q));rw[T]at X;have p:=aa (fun W=>xJ n s Z.o X W);let⟨M,J⟩:=aH (jt n s);rw[J]at p;clear X J;by_cases O:0<M
 ·have c:=dT O;clear O;go_wp2_with(first
   |(go_at_call 138;refine(pK m _).bC ?_;rintro e V⟨rfl,rfl⟩)
   |(go_at_call 137;refine k.o.bC ?_;rintro e w2⟨rfl,f⟩;have C2:=aa (C.bu (f.bC C.size));clear f)
   |(go_at_call 166;refine(p.o _).bC ?_;rintro e L⟨rfl,rfl⟩))
  go_ret2;exact⟨_,_,A,D,rfl,cL.same d.o C2.o,(eH.refl l.o).bC af⟩
 have c:=dF O;clear O;go_wp2_with(first
  |(go_at_call 138;refine(pK m _).bC ?_;rintro e V⟨rfl,rfl⟩)
  |(go_at_call 137;refine k.o.bC ?_;rintro e w2⟨rfl,f⟩;have C2:=aa (C.bu (f.bC C.size));clear f)
  |(go_at_call 166;refine(p.o _).bC ?_;rintro e L⟨rfl,rfl⟩))
 let⟨D2,R,ad⟩:=Jh3 (d.o.keep C2.o) (P.o.keep C2.o) (bW hB C2.o.size);have z:=aa (j7.start w2 B A D D2.o);have N:=jC rfl D2.o;clear c T C;go_region_held3(fun W=>W.cell? (be A.gd 8)=some (ptr A.gv)) (first|exact N|exact I|exact s2|exact s3|assumption|go_keep)
  (first
   |(go_at_call 140;refine(qZ m _).bC ?_;rintro e V⟨rfl,rfl⟩;(first|have S:=aa (G.o.alloc (bH (cT ⟨7,m⟩) 81))|have S:=aa (z.o.alloc (bH (cT ⟨7,m⟩) 81)));have I:=jC rfl S.o.2)
   |(go_at_call 138;refine(pK m _).bC ?_;rintro e g⟨rfl,rfl⟩;(first|have G:=aa (S.o.alloc (bH (cT ⟨8,m⟩) 81))|have G:=aa (z.o.alloc (bH (cT ⟨8,m⟩) 81)));have s2:=jC rfl G.o.2)
   |(go_at_call 167;(first|(refine(tw (K:=K) rfl G.o.2 l.o (R.o.keep G.o.1) (bW ad.o G.o.1.size) ⟨7,m⟩ ⟨8,m⟩ 0 n Z.o).bC ?_;rintro e L⟨x,r3,rfl,ab⟩;have j:=aa (ab.before G.o.1))|(refine(tw (K:=K) rfl S.o.2 l.o (R.o.keep S.o.1) (bW ad.o S.o.1.size) ⟨7,m⟩ ⟨8,m⟩ 0 n Z.o).bC ?_;rintro e L⟨x,r3,rfl,ab⟩;have j:=aa (ab.before S.o.1)));have s3:L.cell? (be A.gd 8)=some (ptr A.gv):=Qc1;clear ab))
 all_goals
  rename_i r;clear r I s2 N s3;have a:=aa ((cL.same (K:=K) d.o C2.o).bu j.o);let⟨U,H⟩:=Jh2 (P.o.step a.o) (l.o.move ⟨7,m⟩ ⟨8,m⟩ 0 n);have cY:Bw L (L.alloc (bH #[(17:Int),m,(),n,()] 101)):=aI;have HT:=aa (tx (K:=K) a.o.gd (a.o.at'.keep cY) (U.o.keep cY) (bW hB (bW a.o.mod.size cY.size)) [⟨17,m,0,n,0⟩] (be L 0) 1 (Sl.fg eE jg L 101 ⟨17,m,0,n,0⟩ aB _ rfl) Qbi);have Y:=aa (H.o.tell [⟨17,m,0,n,0⟩]);have LX:=aa ((eH.move l.o ⟨7,m⟩ ⟨8,m⟩ 0 n).bu (eH.tell H.o [⟨17,m,0,n,0⟩] (pg (ci (show(15:Int)<17 by decide)))));go_wp2_with(first
   |(go_at_call 164;refine HT.o.bC ?_;rintro e w8⟨A8,rfl,Q⟩;have u:=aa ((a.o.keep cY).bu Q);clear Q)
   |(go_at_call 138;refine(pK m _).bC ?_;rintro e V⟨rfl,rfl⟩)
   |(go_at_call 137;refine(uK u.o.gd (u.o.at'.alloc _) Y.o ⟨8,m⟩ 0).bC ?_;rintro e v⟨rfl,E⟩;have ae:=aa ((u.o.keep aI).keep E);clear E))
  go_ret2;exact⟨_,_,_,_,rfl,ae.o,LX.o⟩
def Xl(h:cQ w B A D)(ok:cC D)(hK:dS w K A)(hB:B<=w)(m n:Int)(h64:bO n)(hlog:D.log.length<=900000):
  bG 116 #[ptr A.gd,m,n] w (Kk B K A D 1 w):=by
 let⟨d,P,l,Z,F⟩:=Jh5 h hK ok h64 (Kj h ok m n);clear h ok hK h64;go_enter func116,ntmps116;go_wp2_with fail;refine F.o.bC ?_;rintro e k⟨y,rfl,b⟩;have p:=aa b;clear b;by_cases X:y=0
 rotate_left
 ·have t:(y !=0)=true:=aG X;go_wp2;go_ret2;exact⟨_,_,A,D,rfl,cL.same d.o p.o,(eH.refl l.o).bC af⟩
 subst X;let⟨T,R,q⟩:=Jh3 (d.o.keep p.o) (P.o.keep p.o) (bW hB p.o.size);have z:=aa (j7.start k B A D T.o);have N:=jC rfl T.o;go_wp2;go_region_held3(fun W=>W.cell? (be A.gd 8)=some (ptr A.gv)) (first|exact N|exact I|exact M|exact s3|assumption|go_keep)
  (first
   |(go_at_call 140;refine(qZ m _).bC ?_;rintro e V⟨rfl,rfl⟩;(first|have S:=aa (G.o.alloc (bH (cT ⟨7,m⟩) 81))|have S:=aa (z.o.alloc (bH (cT ⟨7,m⟩) 81)));have I:=jC rfl S.o.2)
   |(go_at_call 138;refine(pK m _).bC ?_;rintro e g⟨rfl,rfl⟩;(first|have G:=aa (S.o.alloc (bH (cT ⟨8,m⟩) 81))|have G:=aa (z.o.alloc (bH (cT ⟨8,m⟩) 81)));have M:=jC rfl G.o.2)
   |(go_at_call 167;(first|(refine(tw (K:=K) rfl G.o.2 l.o (R.o.keep G.o.1) (bW q.o G.o.1.size) ⟨8,m⟩ ⟨7,m⟩ 0 n Z.o).bC ?_;rintro e L⟨x,f,rfl,i⟩;have j:=aa (i.before G.o.1))|(refine(tw (K:=K) rfl S.o.2 l.o (R.o.keep S.o.1) (bW q.o S.o.1.size) ⟨8,m⟩ ⟨7,m⟩ 0 n Z.o).bC ?_;rintro e L⟨x,f,rfl,i⟩;have j:=aa (i.before S.o.1)));have s3:L.cell? (be A.gd 8)=some (ptr A.gv):=Qc1;clear i))
 all_goals
  rename_i r;clear r I M N s3;let⟨a,c⟩:=Jh2 ((cL.same (K:=K) d.o p.o).bu j.o) (eH.move l.o ⟨8,m⟩ ⟨7,m⟩ 0 n);by_cases J:f=0
  rotate_left
  ·have t:(f !=0)=true:=aG J;clear J;go_wp2;go_ret2;exact⟨_,_,_,_,rfl,a.o,c.o.bC af⟩
  subst J;let⟨U,H⟩:=Jh2 (P.o.step a.o) (l.o.move ⟨8,m⟩ ⟨7,m⟩ 0 n);have s:Bw L (L.alloc (bH #[(18:Int),m,(),n,()] 101)):=aI;have HT:=aa (tx (K:=K) a.o.gd (a.o.at'.keep s) (U.o.keep s) (bW hB (bW a.o.mod.size s.size)) [⟨18,m,0,n,0⟩] (be L 0) 1 (Sl.fg eE jg L 101 ⟨18,m,0,n,0⟩ aB _ rfl) Qbi);have Y:=aa (H.o.tell [⟨18,m,0,n,0⟩]);have LX:=aa (c.o.bu (eH.tell H.o [⟨18,m,0,n,0⟩] (pg (ci (show(15:Int)<18 by decide)))));go_wp2_with(first
   |(go_at_call 164;refine HT.o.bC ?_;rintro e w8⟨O,rfl,Q⟩;have u:=aa ((a.o.keep s).bu Q);clear Q)
   |(go_at_call 138;refine(pK m _).bC ?_;rintro e V⟨rfl,rfl⟩)
   |(go_at_call 137;refine(uK u.o.gd (u.o.at'.alloc _) Y.o ⟨8,m⟩ 0).bC ?_;rintro e v⟨rfl,E⟩;have C:=aa ((u.o.keep aI).keep E);clear E))
  go_ret2;exact⟨_,_,_,_,rfl,C.o,LX.o⟩
def DS.most(D:DS):Nat:=16*(D.who.length+D.who.length+3)
variable{n:Int}
def EE(ok:cC D)(h64:bO n)(hlog:D.log.length+D.most<=1000000):qI B K D n (eH D.most D):=fun W A hA hK hB=>by
 by_cases h0:n<=0
 ·exact(Ex h0 W A hA hK hB).bC fun e w' ⟨A',D',he,st,e2⟩=>⟨A',D',he,st,by rw[e2];exact(eH.refl ok).bC (cH _)⟩
 have hd:=dF h0;have HA:=aa hA;have HK:=aa hK;have OK:=aa ok;have H64:=aa h64;have hw1000:D.who.length<=1000:=ok.who;obtain⟨mo,hmo⟩:=aH D.most;have HMO:Hid (16*(D.who.length+D.who.length+3)=mo):=aa hmo;rw[hmo]at hlog;rw[hmo];obtain⟨nw,kw,hS0,hsl⟩:=wH rfl (hA.d (wd:=W.drew));have HSL:=aa hsl;have N0:=aa (j7.start W B A D hA);clear h0 hA hK ok h64 hmo hsl;go_enter func212,ntmps212;go_wp2;go_region_held3(fun X=>X.cell? (be A.gd 11)=some (.slice nw D.who kw)) (first|exact hS0|exact s1|exact s2|assumption|go_keep)
  (first
   |(go_at_call 263;refine(Ki N0.o.2 OK.o).bC ?_;rintro e x1⟨vc,vf,p,rfl,hpl,hpn,c64,f64,lR,jR,c1⟩;have N1:=aa (N0.o.keep c1);have HPL:=aa hpl;have C64:=aa c64;have F64:=aa f64;have L64:=aa lR;have K64:=aa jR;have SL1:=aa (HSL.o.keep c1);have s1:x1.cell? (be A.gd 11)=some (.slice nw D.who kw):=(c1.c (p:=(be A.gd 11)) N0.o.2.blk.lt).bu hS0;clear c1 hpl c64 f64 lR jR hpn)
   |(go_at_call 262;refine(Wg vc vf _ p D.who n x1 HPL.o SL1.o hw1000 C64.o F64.o L64.o K64.o H64.o).bC ?_;rintro e x2⟨v2,R,y,rfl,hown,hRn,hRok,c2⟩;have N2:=aa (N1.o.keep c2);have O2:=aa hown;have RN:=aa hRn;have RO:=aa hRok;have s2:x2.cell? (be A.gd 11)=some (.slice nw D.who kw):=(c2.c (p:=(be A.gd 11)) N1.o.2.blk.lt).bu s1;obtain⟨n2,k2,rfl⟩:=bV hown;clear c2 hown hRn hRok))
 all_goals
  rename_i hHeldX;clear hHeldX s1 s2 hS0 N1 HPL C64 F64 L64 K64 SL1 HSL N0;have ST:=aa (cL.same (K:=K) HA.o N2.o.1);have hR:R.length<=mo:=by have h1:=RN.o;have h2:=HMO.o;omega
  clear N2;go_wp2;go_loopw[23] (fun vi wr=>∃(k:Nat) (A':DA) (D':DS),k<=R.length/\vi=k/\cL B K W wr A A' D'/\eH k D D'/\wr.ownsRow x1 343 3 (.slice n2 R k2) R (bN i9 R)) (aW R);exact⟨0,A,D,cH _,rfl,ST.o,eH.refl OK.o,O2.o⟩;obtain⟨k,A',D',hk,rfl,t,g,hown⟩:=hrel;let⟨ag,LX,HO⟩:=Jh3 t g hown;have al:=t.mod.size;let⟨a3,H,T,_,ao,ak,r⟩:=Sl.own sS hown;clear t g hown;by_cases h:k<R
  ·let⟨e1,e2⟩:n2=a3/\k2=H:=aG T;subst e1 e2;obtain⟨b,ap,rfl,am,ae⟩:=r af;let⟨r0,s,r2⟩:=Th (ae k h);have E:=aa (RO.o _ (cZ h));let⟨x,j⟩:=aH (R[k]);rw[j]at r0 s r2 E;have O:0<=(k:Int):=af;have C:k<(R:Int):=af;unfold maxLen at ak;have I:Bw wr (aZ wr (nt x) 343):=aI;let⟨X1,Y,aj⟩:=Jh3 (bI.new wr 343 (nt x)) (ag.o.keep I) (cJ HO.o I);clear ae r T j I;let⟨F,Z⟩:=Jh2 (j7.start (aZ wr (nt x) 343) B A' D' Y.o.at') (X1.o.d (wd:=(wr.alloc (bH (nt x) 343)).drew));have ab:=ch (jC Y.o.gd F.o.2) (ch (Z.o.c 0) (ch (Z.o.c 1) (Z.o.c 2)));have U:=aa (HK.o.step Y.o);have V:B<=(wr.alloc (bH (nt x) 343)).heap.size:=bW hB Y.o.mod.size;let⟨P,J⟩:=Jh2 V LX.o.ok;have an:=LX.o.len;go_wp2;go_region_held3(fun X=>X.cell? (be A.gd 8)=some (ptr A'.gv)/\X.cell? (be wr 0)=some (.int .i64 x.k)/\X.cell? (be wr 1)=some (.int .i64 x.m)/\X.cell? (be wr 2)=some (.int .i64 x.bJ)) (first|exact ab|exact ad|exact ac|assumption|go_keep)
    (first
     |(go_at_call 155;refine(mZ _).bC ?_;rintro e L⟨rfl,rfl⟩;have l:=aa (F.o.alloc (bH (cT ⟨1,0⟩) 81));have X4:=aa (Z.o.alloc (bH (cT ⟨1,0⟩) 81));have ad:=ch (jC Y.o.gd l.o.2) (ch (X4.o.c 0) (ch (X4.o.c 1) (X4.o.c 2))))
     |(go_at_call 167;refine(tw (K:=K) rfl l.o.2 J.o (U.o.keep l.o.1) (bW P.o l.o.1.size) ⟨x.k,x.m⟩ ⟨1,0⟩ 0 x.bJ E.o).bC ?_;rintro e z⟨A5,r5,rfl,M⟩;have G:=aa (Y.o.bu (M.before l.o.1));have X5:=aa (X4.o.cu M.mod ah);have ac:=ch (show z.cell? (be A.gd 8)=some (ptr A'.gv) by rw[<-M.gv];exact jC (M.gd.bu Y.o.gd) M.at') (ch (X5.o.c 0) (ch (X5.o.c 1) (X5.o.c 2)));have v:=aa (dq (cJ aj.o l.o.1) M.mod ah);clear M))
   all_goals
    rename_i q;clear q ab ad ac r0 s r2 F l Z X4 X1;let⟨u0,u1,u2⟩:=X5.o.k3 0 1 2;let⟨a,f⟩:=Jh2 (HK.o.step G.o) (J.o.move ⟨x.k,x.m⟩ ⟨1,0⟩ 0 x.bJ);have cY:Bw z (z.alloc (bH #[(10:Int),aY x.m,(),aY x.bJ,aY x.k] 101)):=aI;have HT:=aa (tx (K:=K) G.o.gd (G.o.at'.keep cY) (a.o.keep cY) (bW hB (bW G.o.mod.size cY.size)) [⟨10,x.m,0,x.bJ,x.k⟩] (be z 0) 1 (Sl.fg eE jg z 101 ⟨10,x.m,0,x.bJ,x.k⟩ aB _ rfl) (by show D'.log.length+1<=1000000;omega));have N:=aa (cJ v.o cY);have S:=aa ((LX.o.bu (eH.move J.o ⟨x.k,x.m⟩ ⟨1,0⟩ 0 x.bJ)).bu (eH.tell f.o [⟨10,x.m,0,x.bJ,x.k⟩] (pg (bS (show(10:Int)<13 by decide)))));go_wp2_with(go_at_call 164;refine HT.o.bC ?_;rintro e w8⟨A8,rfl,Q⟩;have u:=aa ((G.o.keep cY).bu Q);have ai:=aa (dq N.o Q.mod ah);clear Q);go_roundw;exact⟨k+1,A8,_,af,aw,u.o,S.o,ai.o⟩;exact aV
  ·obtain rfl:k=R.length:=af;have i:¬(R.length<(R:Int)):=af;go_wp2_with fail;refine bodyPost_end (results_none rfl _ _ _) rfl ?_;exact⟨rfl,A',D',ag.o,LX.o.bC hR⟩
def Xm(h:cQ w B A D)(hn:D.cv.length<=1000):bG 328 #[ptr A.gx] w (ki gX 211 5 D.cv w):=by have G:=aa (MR A.vx D.cv w (Sl.own oD h.cv) af);have m:w.cell? (be A.gx 8)=some A.vx:=h.box.c 8;let⟨n,k,R⟩:=bV h.cv;rw[R]at G m;clear h R;go_enter func328,ntmps328;go_wp2_with(go_at_call 359;refine G.o.bC ?_;rintro e i⟨v,rfl,o,c⟩;have O:=aa o;have C:=aa c;obtain⟨W,K,rfl⟩:=bV o;clear o c);go_ret;exact⟨_,rfl,O.o,C.o⟩
def Xn(w:bD)(B:Nat)(a b:Int)(hB:B<=w):(w.alloc (bH #[a,b] 2)).ownsRow B 2 1 (.slice (some (be w 0)) 2 2) ([a,b]:bF Int).length (bN eI [a,b]):=⟨by simp[bN,eI],ci ⟨w,2,#[a,b],rfl,hB,bI.new w 2 _,bL _,ah,rfl,by simp[bN,eI]⟩⟩
def Xo(x:Bd):List Int:=[x.cF,x.seq]
variable{TS:bF TypeId}{v:bE}{KS:bF (bF Int)}{vs:bF bE}
def jX.cu{B2:Nat}{w':bD}(h:jX B w v KS vs)(m:cg B2 TS K w w')(h1:45∉TS)(h2:2∉TS):jX B w' v KS vs:=⟨h.len,dq h.own m h1,fun i h3 h4=>dq (h.row i h3 h4) m h2⟩
structure BK(B:Nat)(w W:World)(g:Nat)(x:Bd)(vl vk:Value)(L:List Bd)(KS:List (List Int))(vs:List Value):Prop where
 keys:jX B W vk KS vs
 own:W.ownsRow B 211 5 vl L (bN gX L)
 x:bI W g 211 (dV x)
 eK:Below B w W
 sz:B<=W
variable{vl vk:bE}{L:bF Bd}
def Xp{wr w2:bD}{x:Bd}{vl':bE}(hk:jX B (aZ wr (dV x) 211) vk KS vs)(hl:(wr.alloc (bH (dV x) 211)).ownsRow B 211 5 vl L (bN gX L))(hx:bI (aZ wr (dV x) 211) wr 211 (dV x))(hB:B<=wr)(hlt:∀q,vl.ownBlock=some q->q<wr.heap.size)(cA:Below B w (aZ wr (dV x) 211))(hown:w2.ownsRow B 211 5 vl' (L++[x]).length (bN gX (L++[x])))(hgrow:((wr.alloc (bH (dV x) 211)).alloc (bH (dV x) 211)).grownBy w2 vl.ownBlock):BK B w w2 wr x vl' vk (L++[x]) KS vs:=by have d:=(bM (wr.alloc (bH (dV x) 211)).heap.size (aZ wr (dV x) 211)).alloc (bL _) (.cells (dV x) 211);have g:B<=(wr.alloc (bH (dV x) 211)).heap.size:=aA;have m:cg B [211] [] ((wr.alloc (bH (dV x) 211)).alloc (bH (dV x) 211)) w2:=cg.grown (cJ hl d) hgrow au (bL _) au;refine⟨(hk.keep d).cu m ah ah,hown, ?_,(cA.alloc g _).grown hgrow aA (fun q hq=>(hl.lt q hq).1),by have:=hgrow.size;simp at this;omega⟩;have c:=hx.keep d;exact(hgrow.block _ c.lt (fun e=>by have:=hlt _ e.symm;omega)).bu c
variable{g:Nat}{W:bD}
def BK.two{x:Bd}(h:BK B w W g x vl vk L KS vs)(a b:Int):BK B w ((W.alloc (bH #[a,b] 2)).alloc (bH #[.slice (some (be W 0)) 2 2] 45)) g x vl vk L KS vs:=by have c:Bw W ((W.alloc (bH #[a,b] 2)).alloc (bH #[.slice (some (be W 0)) 2 2] 45)):=aI.alloc au _;exact⟨h.keys.keep c,cJ h.own c,h.x.keep c,h.eK.bu (c.bC h.sz),bW h.sz c.size⟩
variable{a:Int}
def BK.grow{W6:bD}{x:Bd}{vk':bE}{b:Int}(h:BK B w ((W.alloc (bH #[a,b] 2)).alloc (bH #[.slice (some (be W 0)) 2 2] 45)) g x vl vk L KS vs)(hW:B<=W)(hg:((W.alloc (bH #[a,b] 2)).alloc (bH #[.slice (some (be W 0)) 2 2] 45)).grownBy W6 vk.ownBlock)(ho:W6.ownsRow B 45 1 vk' (KS.length+1) (bN eV vs++[.slice (some (be W 0)) 2 2])):BK B w W6 g x vl vk' L (KS++[[a,b]]) (vs++[.slice (some (be W 0)) 2 2]):=by have X:=cJ (Xn W B a b hW) ((bM (W.alloc (bH #[a,b] 2)).heap.size _).alloc (bL _) (.cells #[.slice (some (be W 0)) 2 2] 45));have m:=cg.grown (B:=B) (TS:=[45]) (K:=[]) h.keys.own hg au (bL _) au;exact⟨h.keys.grow X hg ho,dq h.own m ah,h.x.cu m ah,h.eK.grown hg h.sz (fun q hq=>(h.keys.own.lt q hq).1),bW h.sz hg.size⟩
def Xq(n:Nat)(w:World)(e:Ending)(w':World):Prop:=∃v R,e=.returned v/\w'.ownsRow w.heap.size 211 5 v R.length (bN gX R)/\R.length<=n/\Bw w w'
def zBd:Bd:=⟨0,0,0,0,0⟩
def pi(l:List Bd)(P:List Nat)(k:Nat):List Bd:=(P.take k).map fun i=>l.getD i zBd
def Xr(h:cQ w B A D)(hn:D.cv.length<=1000)(s:Int):bG 266 #[ptr A.gx,s] w (Xq D.cv w):=by
 have V:=aa (Xm h hn);let⟨N,hN⟩:=aH D.cv.length;let⟨l,hl⟩:=aH D.cv;rw[hl]at V hN hn;rw[hl];let⟨i0,hi,S,X,aN⟩:=wm Bj;let⟨j0,hj,a8,aR,a1⟩:=wm Dd;clear h hN hl;go_enter func266,ntmps266;go_wp2_with(go_at_call 328;refine V.o.bC ?_;rintro e w1⟨v1,rfl,Z,c1⟩;have HS:=aa (Sl.own oD Z);obtain⟨n1,k1,rfl⟩:=bV Z;have C1:=aa c1;clear Z c1);go_loopw[5,7,15] (fun x5 x7 vi wr=>∃(k:Nat) (L:bF Bd) (KS:bF (bF Int)) (t:bF bE) (vl vk:bE),k<=l.length/\vi=k/\vl=x5/\vk=x7/\jX w1 wr vk KS t/\wr.ownsRow w1 211 5 vl L (bN gX L)/\KS.length=L.length/\L.length<=k/\Bw w1 wr) (fun _ _ vi _=>l.length-(intOf vi).toNat);exact⟨0,[],[],[],_,_,cH _,rfl,rfl,rfl,⟨rfl,⟨aK,bS ⟨rfl,rfl⟩⟩,fun i hi=>xl hi au⟩,⟨aK,bS ⟨rfl,rfl⟩⟩,rfl,cH _,bM _ _⟩;obtain⟨k,L,KS,t,vl,vk,hk,rfl,rfl,rfl,al,g,m,J,ad⟩:=hrel;let⟨aq,r,a⟩:=Jh3 al g m;have a6:=bV al.own;obtain⟨nk,kk,rfl⟩:=a6;obtain⟨nl,kl,rfl⟩:=bV g;by_cases an:k<l.length
 ·obtain⟨bb,ax,b,aI,rfl,_,n⟩:=(HS.o.keep ad).hd;let⟨r0,r1,r2,r3,r4⟩:=Bk (n k an);have a0:0<=(k:Int):=af;have aT:k<(l:Int):=af;unfold maxLen at ax;clear n;generalize l[k]=x at*;have C:=ad.alloc ad.size (bH (dV x) 211);let⟨HX,O,ay⟩:=Jh3 (bI.new wr 211 (dV x)) (aq.o.keep ((bM wr wr).alloc (bL _) (.cells (dV x) 211))) (r.o.alloc (bH (dV x) 211));by_cases j:x.cP=s
  rotate_left
  ·have hb:=xp.2 j;clear j al g m;go_wp2;go_roundw;exact⟨k+1,L,KS,t,_,_,af,aw,rfl,rfl,O.o,ay.o,a.o,af,C⟩;exact aV
  ·have hb:=beq_iff_eq.2 j;clear j al g m;let⟨E,m⟩:=aH KS.length;have ag:=aa m;rw[m]at aq O⊢;have G:E<=k:=by rw[<-m,a.o];exact J
   clear m;go_wp2_with(first
    |(at_builtin;(refine fG oD ah vG _ rfl _ _ 173 rfl w1 211 i0 (.agg #[(),(),(),(),()]) 40 underlying173 hi S X aN aB (.slice nl L kl) L rfl (ay.o.alloc _) (some (be (wr.heap.size+1) 0)) 1 [x] rfl (Sl.fg gX oD _ 211 _ aB _ au) Qaj (by show(L.length+1)*40<=_;omega) (C.alloc C.size (bH (dV x) 211)).size ?_;intro bn w2 ab ac M;have ai:=aa (Xp O.o ay.o HX.o ad.size (fun q hq=>(r.o.lt q hq).2) C ab ac);obtain⟨bm,bs,rfl⟩:=bV ab;have x0:=ai.o.x.c 0;have x4:=ai.o.x.c 4;clear ab ac M))
    |(at_builtin;(refine wpList_append_own_at _ rfl _ _ 313 rfl w1 45 j0 (.slice none 0 0) 1 24 underlying313 hj a8 aR a1 rfl ah (.slice nk E kk) E (bN eV t) rfl (by have:=(ai.o.two x.cF x.seq).keys.own;first|exact this|(rw[ag.o]at this;exact this)) (be (w2.heap.size+1) 0) 1 1 [.slice (some (be w2 0)) 2 2] rfl rfl (by have h:=ID (aZ w2 #[x.cF,x.seq] 2) (.slice (some (be w2 0)) 2 2);simpa using h) Qc5 az af (by exact(ai.o.two x.cF x.seq).sz) ?_;intro bp W6 ab ac _ M;have ap:=aa ((ai.o.two x.cF x.seq).grow ai.o.sz (by first|exact ac|(rw[ag.o];exact ac)) (by rw[ag.o];exact ab));obtain⟨br,bq,rfl⟩:=bV ab;clear ab ac M)))
   go_roundw;exact⟨k+1,L++[x],KS++[Xo x],_,_,_,af,aw,rfl,rfl,ap.o.keys,by have h:=ap.o.own;rw[cO,eN]at h⊢;exact h,by rw[cO,cO,a.o];rfl,by rw[cO,eN];omega,ap.o.eK⟩;exact aV
 ·obtain rfl:k=l.length:=af;have ba:¬(l.length<(l:Int)):=af;let⟨E,ae⟩:=aH KS.length;have aJ:=Dc _ _ t wr aq.o.at (by rw[m];omega);let⟨ao,ag⟩:=Jh2 aJ ae;have aF:L.length=E:=by rw[<-ae,a.o]
  have a5:=aa aF;have aM:Hid (E<=l.length):=aa af;have aU:=ad.size;unfold Db at ao;rw[ae]at ao;rw[ae];clear aJ al g m ae aF;go_wp2_with(go_at_call 244;refine ao.o.bC ?_;rintro e T⟨v5,P,rfl,v,aj,j,c5⟩;have H:=aa v;obtain⟨U,W,rfl⟩:=bV v;have aO:=aa aj;clear v aj j);have ar:P.length=E:=aG aO.o.length_eq;have a3:=aa (Sl.own kI (l:=P.map fun i:Nat=>(i:Int)) (by rw[cR,ar];exact H.o));have Y:=aa (Sl.own oD (cJ r.o c5));have aQ:=ad.bu (c5.bC aU);have z:=aQ.size;have a4:Hid (∀i∈P,i<L.length):=aa fun i hi=>by rw[a5.o];simpa using aO.o.mem_iff.1 hi
  have f:=aa ar;have bh:E<=1000:=bW aM.o hn;have CW:=aa aQ;clear ar H c5;let⟨LL,aA⟩:=aH L.length;have aP:=aa aA;rw[aA];clear aA;go_loopw[6,39] (fun vo vi wr2=>∃k:Nat,k<=E/\vi=k/\wr2.ownsRow T 211 5 vo (pi L P k).length (bN gX (pi L P k))/\Bw T wr2) (fun _ vi _=>E-(intOf vi).toNat);exact⟨0,cH _,rfl,⟨by simp[bN,pi],bS ⟨rfl,rfl⟩⟩,bM _ _⟩;obtain⟨k,hk,rfl,ab,F⟩:=hrel;have Q:=aa ab;obtain⟨no,ko,rfl⟩:=bV ab;clear ab;by_cases an:k<E
  ·let⟨a',aD,aC,_,bb,ax,aE⟩:=a3.o;rw[cR,f.o]at aC;have av:k<P.length:=by rw[f.o];exact an
   have a7:k<(P.map fun i:Nat=>(i:Int)).length:=by rw[cR];exact av
   let⟨e1,e2⟩:U=a'/\W=aD:=aG aC;subst e1 e2;obtain⟨b,aI,rfl,aW,n⟩:=aE af;have q0:=n k a7 0 _ rfl;rw[gD,gg,lj]at q0;have r0:=(F.c (p:=(b,aI+k)) aW).bu q0;have am:P[k]<L.length:=a4.o _ (cZ av);have bc:P[k]<LL:=by rw[<-aP.o];exact am
   obtain⟨a9,a2,d,I,rfl,ak,aL⟩:=Y.o.hd;let⟨p0,p1,p2,p3,p4⟩:=Bk (aL P[k] am);let⟨r1,r2,r3,r4,r5⟩:=Jt5 ((F.c (p:=⟨d,I+P[k]*5,none⟩) ak).bu p0) ((F.c (p:=⟨d,I+P[k]*5+1,none⟩) ak).bu p1) ((F.c (p:=⟨d,I+P[k]*5+2,none⟩) ak).bu p2) ((F.c (p:=⟨d,I+P[k]*5+3,none⟩) ak).bu p3) ((F.c (p:=⟨d,I+P[k]*5+4,none⟩) ak).bu p4);have a0:0<=(k:Int):=af;have aT:k<(E:Int):=af;have bv:0<=(P[k]:Int):=af;have bo:(P[k]:Int)<(LL:Int):=af;unfold maxLen at ax a2;rw[aP.o]at a9;have aS:Hid (pi L P (k+1)=pi L P k++[L[P[k]]]):=aa (by
    unfold pi;rw[fj av,jf];simp only[eu,nH];rw[dy,dG am];rfl)
   have bl:(pi L P k).length<=k:=by unfold pi;rw[cR,dx];omega
   clear n aL q0 p0 p1 p2 p3 p4 aE aC;generalize pi L P k=R at*;generalize L[P[k]]=y at*;generalize P[k]=pk at*;have bk:=F.size;clear am;go_wp2_with(at_builtin;refine fG oD ah vG _ rfl _ _ 173 rfl T 211 i0 (.agg #[(),(),(),(),()]) 40 underlying173 hi S X aN aB (.slice no R ko) R rfl (Q.o.alloc _) (some (be wr 0)) 1 [y] rfl (Sl.fg gX oD _ 211 _ aB _ rfl) (by show R.length+1<=maxLen;unfold maxLen;omega) (by show(R.length+1)*40<=_;omega) (F.alloc F.size (bH (dV y) 211)).size ?_;intro v' w2 ab ac M;have b4:=(F.alloc F.size (bH (dV y) 211)).grown ac (F.alloc F.size _).size (fun q hq=>(Q.o.lt q hq).1);rw[<-aS.o]at ab;obtain⟨n2,k2,rfl⟩:=bV ab;clear ac M);go_roundw;exact⟨k+1,af,aw,ab,b4⟩;exact aV
  ·obtain rfl:k=E:=af;have ba:¬(k<(k:Int)):=af;have K:Hid ((pi L P k).length<=l.length):=aa (by unfold pi;rw[cR,dx];have:=aM.o;omega);go_wp2;go_ret;exact⟨_,pi L P k,rfl,d8 Q.o (bW C1.o.size z),K.o,C1.o.bu ((CW.o.bu (F.bC z)).bC C1.o.size)⟩
