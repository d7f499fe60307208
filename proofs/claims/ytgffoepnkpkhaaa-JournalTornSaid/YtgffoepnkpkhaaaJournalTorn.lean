/- JournalTorn holds for every input: wherever the power goes while a record is appended, mended, the journal is what it was, or it has the record, too; no condition. -/
import Derived.Test.YtgffoepnkpkhaaaBase
import Derived.Test.YtgffoepnkpkhaaaJour5
import Derived.Deep.SlicePairs
import Derived.Deep.RegionHeld3
import Derived.IntWalk
import Derived.OpenShut
import Derived.BigQuiet
import Derived.Carry
namespace Go.Proofs.Ytgffoepnkpkhaaa.journalTorn
open Go.ChangeShapes Go.WideShapes Go.ChangeAt Go.RowKit Go.Deep
open Go.ChangeMaps (open_string shut_string)

def zero2 : Value := .agg #[.int .i64 0, .int .i64 0]
section
variable {H : Type} {enc : TypeId × Value → H}
theorem open_two {W : World} {r : Reach} {b0 base : Nat} {sp : Nat → Bool} {hd : Bool} {v : Value} {d : DataW H} {p : List MemPlace} (hv : Value.okWide Try.prog W r b0 65 v) (h : DataW.Trod enc Try.prog W base sp hd 65 v d p) :
    ∃ a b : Int, v = .agg #[.int .i64 a, .int .i64 b] ∧ (-9223372036854775808 ≤ a ∧ a ≤ 9223372036854775807) := by
  have hv2 : ∃ cs, v = .agg cs ∧ cs.size = Try.prog.cellsOf 65 := by
    simp only [Value.okWide, Try.underlying65] at hv
    obtain ⟨cs, h1, h2, _⟩ := hv
    exact ⟨cs, h1, h2⟩
  obtain ⟨cs, rfl, hsz⟩ := hv2
  obtain ⟨l⟩ := cs
  have hC : Try.prog.cellsOf 65 = 2 := by kernel_rfl
  have hC3 : Try.prog.cellsOf 3 = 1 := by kernel_rfl
  match l, hsz.trans hC with
  | [c0, c1], _ =>
    obtain ⟨fuel, hf⟩ := h
    obtain ⟨xs, m, _, _, _, hn, hel⟩ := DataW.trod_array Try.underlying65 hf
    have e0 := hel 0 (by decide)
    have e1 := hel 1 (by decide)
    rw [hC3] at e0 e1
    have hx0 : xs[0]? = some (xs[0]'(by omega)) := List.getElem?_eq_getElem (by omega)
    have hx1 : xs[1]? = some (xs[1]'(by omega)) := List.getElem?_eq_getElem (by omega)
    rw [hx0] at e0
    rw [hx1] at e1
    obtain ⟨a, f0, _, wa⟩ := DataW.trod_int Try.underlying3 e0
    obtain ⟨b, f1, _, wb⟩ := DataW.trod_int Try.underlying3 e1
    simp [Value.cells] at f0 f1
    subst f0 f1
    refine ⟨a, b, rfl, ?_⟩
    simp [Lit.wf, IntKind.min, IntKind.max, IntKind.signed, IntKind.bits] at wa
    omega
end
theorem low' {P : Program} {f : FuncId} {args : Array Value} {w0 W : World} {R : Ending} (hb : Below w0.heap.size w0 W) (h : Calls P f args W fun e w' => e = R ∧ Below W.heap.size W w') :
    Calls P f args W fun e w' => e = R ∧ Below w0.heap.size w0 w' := h.mono fun _ _ ⟨he, hc⟩ => ⟨he, hb.trans (hc.mono hb.size)⟩
theorem same_self (v v' : Value) (l : List ByteArray) (w : World) (h1 : Strs w v l) (h2 : Strs w v' l) : Calls Try.prog 39 #[v, v'] w fun e w' => e = .returned (.bool true) ∧ Below w.heap.size w w' := by
  have h := same_any v v' l l w h1 h2
  rw [show decide (l = l) = true from by simp] at h
  exact h
theorem same_other (v v' : Value) (l m : List ByteArray) (hlm : l ≠ m) (w : World) (h1 : Strs w v l) (h2 : Strs w v' m) : Calls Try.prog 39 #[v, v'] w fun e w' => e = .returned (.bool false) ∧ Below w.heap.size w w' := by
  have h := same_any v v' l m w h1 h2
  rw [show decide (l = m) = false from by simpa using hlm] at h
  exact h
theorem below_drewN {n : Nat} {w w' : World} (h : Below n w w') (k : Nat) : Below n w (w'.drewN k) := by
  exact ⟨h.1, h.2, h.3, h.4, h.5⟩
def AllRel (l : List ByteArray) (W0 wr : World) (k : Nat) (v : Value) : Prop := wr.ownsRow W0.heap.size 9 1 v (l.take k).length (sv (l.take k)) ∧ Below W0.heap.size W0 wr
theorem step_all {l : List ByteArray} {W0 wr w2 : World} {k : Nat} {x : ByteArray} {v v' : Value} (h : k < l.length) (hx : l[k] = x) (hown : wr.ownsRow W0.heap.size 9 1 v (l.take k).length (sv (l.take k))) (hb : Below W0.heap.size W0 wr)
    (hown' : w2.ownsRow W0.heap.size 9 1 v' (k + 1) (sv (l.take k) ++ [.string x])) (hgrow : (wr.alloc (.cells #[.string x] 9)).grownBy w2 v.ownBlock) : AllRel l W0 w2 (k + 1) v' := by
  refine ⟨?_, (hb.alloc hb.size _).grown hgrow (by have := hb.size; simp; omega) (own_from hown)⟩
  have hln : (l.take (k + 1)).length = k + 1 := by rw [List.length_take]; omega
  rw [hln, List.take_succ_eq_append_getElem h, hx, sv_append]
  exact hown'
set_option maxHeartbeats 8000000 in
set_option maxRecDepth 100000 in
theorem good (a : Option Addr) (cap : Nat) (l : List ByteArray) (r : ByteArray) (f keep : Int) (w : World) (hS : Strs w (.slice a l.length cap) l) (hms : ∀ s ∈ l, s.size ≤ maxLen) (hn : l.length ≤ 12) (hr : r.size ≤ 100) (hf1 : -1 ≤ f) (hf2 : f ≤ 9223372036854775807) (hsh : Short l) :
    Calls Try.prog 12 #[.slice a l.length cap, .string r, .agg #[.int .i64 f, .int .i64 keep]] w fun e w' => e = .returned (.bool true) ∧ Below w.heap.size w w' := by
  obtain ⟨d1, e1, s, happ, hok1, hcr, hss, hgot⟩ := app_crash l r f keep hsh hn hr hf1 hf2
  have hfs := frames_small l hsh (by omega)
  have HAP := Lib.hid happ
  have HCR := Lib.hid hcr
  have HGOT := Lib.hid hgot
  have HOK1 := Lib.hid hok1
  have HSH := Lib.hid hsh
  have HMS := Lib.hid hms
  have HWH := Lib.hid (whole_all l (short_big hsh)).2.1
  obtain ⟨y, hmd⟩ : ∃ y : Dk, Dk.mend ⟨s, ⟨#[]⟩, -1, false⟩ = (y, 0) := by
    rcases mend_cases s (-1) (by omega) (by decide) with ⟨h, _⟩ | ⟨f', _, h⟩
    · exact absurd h (by decide)
    · exact ⟨_, h⟩
  have HMD := Lib.hid hmd
  obtain ⟨s4, u4, f4, d4⟩ := y
  have HS := Lib.hid hS
  obtain ⟨a', cap', hv, hc1, hc2, hcell⟩ := hS
  obtain ⟨rfl, _, rfl⟩ : a = a' ∧ l.length = l.length ∧ cap = cap' := by simpa using hv
  unfold maxLen at hc2
  have HCELL := Lib.hid hcell
  clear hcell hv happ hcr hgot hok1 hsh hms hmd
  obtain ⟨s1, u1, f1, dd1⟩ := d1
  obtain ⟨i0, hi, hz0, hz1, hz2⟩ := info_parts infoS
  go_enter Try.func12, Try.ntmps12
  go_wp2_with fail
  go_quiet (fail)
  have b0 := below_drewN ((Below.refl w.heap.size w).alloc (Nat.le_refl _) (.cells #[.int .i64 f, .int .i64 keep] 65)) nq
  generalize ((w.alloc (.cells #[.int .i64 f, .int .i64 keep] 65)).drewN nq) = W0 at *
  go_wp2_with fail
  refine (made_any _ l hn HMS.out _ (HS.out.keep b0)).mono ?_
  rintro e w1 ⟨hok, _, c1⟩
  obtain rfl := hok HSH.out
  have b1 := b0.trans (c1.mono b0.size)
  clear c1 b0
  go_wp2_with fail
  refine (append_ok ⟨frames l, ⟨#[]⟩, f, false⟩ ⟨by show (frames l).size ≤ _; omega, rfl, hf1, hf2, rfl⟩ HWH.out r (by omega) _).mono ?_
  rintro e w2 ⟨rfl, c2⟩
  rw [HAP.out]
  dsimp only
  have HD2 := Lib.hid (Held.keep (Held.new w1 ⟨frames l, ⟨#[]⟩, f, false⟩) c2)
  have b2 := (b1.alloc b1.size (.cells (dcells ⟨frames l, ⟨#[]⟩, f, false⟩) 32)).trans (c2.mono (by have := b1.size; simp; omega))
  have hg : w.heap.size ≤ w1.heap.size := b1.size
  clear c2 b1
  generalize w1.heap.size = g at *
  go_wp2_with (refine store_dk rfl _ _ rfl rfl w g ⟨s1, u1, f1, dd1⟩ rfl rfl _ HD2.out rfl b2 hg ?_; intro W3 P3; have HD3 := Lib.hid (Put4.held P3); have b3 := P3.low; obtain ⟨q0, q1, q2, q3⟩ := HD3.out.cells; clear P3)
  refine (crashd_any ⟨s1, u1, f1, dd1⟩ HOK1.out keep _).mono ?_
  rintro e w4 ⟨rfl, c4⟩
  rw [HCR.out]
  dsimp only
  have HD4 := Lib.hid (HD3.out.keep c4)
  have b4 := b3.trans (c4.mono b3.size)
  clear c4 b3 HD3 q0 q1 q2 q3 HD2 b2
  go_wp2_with (refine store_dk rfl _ _ rfl rfl w g ⟨s, ⟨#[]⟩, -1, false⟩ rfl rfl _ HD4.out rfl b4 hg ?_; intro W5 P5; have HD5 := Lib.hid (Put4.held P5); have b5 := P5.low; obtain ⟨q0, q1, q2, q3⟩ := HD5.out.cells; clear P5)
  refine (mend_own ⟨s, ⟨#[]⟩, -1, false⟩ ⟨by show s.size ≤ _; omega, rfl, by simp, by simp, rfl⟩ _).mono ?_
  rintro e w6 ⟨v, rfl, own6, c6⟩
  rw [HMD.out] at own6 ⊢
  rw [if_pos rfl] at own6
  dsimp only at own6 ⊢
  have OWN6 := Lib.hid own6
  have HD6 := Lib.hid (HD5.out.keep c6)
  have b6 := b5.trans (c6.mono b5.size)
  have hg5 := HD5.out.lt
  clear c6 b5 HD5 q0 q1 q2 q3 HD4 b4 own6
  go_wp2_with (refine store_dk rfl _ _ rfl rfl w g ⟨s4, u4, f4, d4⟩ rfl rfl _ HD6.out rfl b6 hg ?_; intro W7 P7; have SV7 := Lib.hid (Strs.own (own_far OWN6.out P7 hg5)); have b7 := P7.low; clear P7)
  generalize recs (Fr.all s.data.toList).1 = got at *
  have h0 : AllRel l W7 W7 0 (.slice none 0 0) := ⟨⟨rfl, Or.inl ⟨rfl, rfl⟩⟩, Below.refl _ _⟩
  go_loopw [15, 16] (fun va i wr => ∃ k : Nat, k ≤ l.length ∧ i = .int .i64 k ∧ AllRel l W7 wr k va) (fun _ i _ => l.length - (intOf i).toNat)
  case atStart => exact ⟨0, Nat.zero_le _, rfl, h0⟩
  case round =>
    obtain ⟨k, hk, rfl, hown, hbel⟩ := hrel
    have htk : (l.take k).length ≤ 12 := by rw [List.length_take]; omega
    by_cases hlt : k < l.length
    · obtain ⟨b, off, rfl, hbl, hcl⟩ := HCELL.out (by omega)
      have hc0 := hcl k hlt
      have g0 := ((b7.trans (hbel.mono b7.size)).cell (p := ⟨b, off + k, none⟩) hbl).trans hc0
      have HX := Lib.hid (show l[k] = l[k] from rfl)
      obtain ⟨x, hx⟩ : ∃ x, l[k] = x := ⟨_, rfl⟩
      rw [hx] at g0
      have HXX := Lib.hid hx
      clear hcl hc0 HX hx
      have HOWN := Lib.hid hown
      go_wp2_with (at_builtin; refine wpList_append_own _ rfl _ _ 54 rfl W7.heap.size 9 i0 (.string ⟨#[]⟩) 1 16 Try.underlying54 hi hz0 hz1 hz2 rfl (by decide) _ _ _ rfl (HOWN.out.alloc _) ⟨wr.heap.size, 0, none⟩ 1 1 [.string x] rfl rfl ?c1 ?c2 ?c3 ?c4 ?c5 ?_)
      case c1 => exact one_new wr _ _
      case c2 => intro u hu; simp at hu; subst hu; rfl
      case c3 => unfold maxLen; omega
      case c4 => omega
      case c5 => have := hbel.size; simp; omega
      intro v' w2 hown' hgrow _
      have hrel2 := Lib.hid (step_all hlt HXX.out HOWN.out hbel hown' hgrow)
      clear hown' hgrow hown
      go_wp2
      go_roundw
      case rel => exact ⟨k + 1, by omega, by go_num, hrel2.out⟩
      case measure => simp [intOf]; omega
    · rw [List.take_of_length_le (by omega)] at hown htk
      have HOWN := Lib.hid hown
      clear hown
      go_wp2_with (at_builtin; refine wpList_append_own _ rfl _ _ 54 rfl W7.heap.size 9 i0 (.string ⟨#[]⟩) 1 16 Try.underlying54 hi hz0 hz1 hz2 rfl (by decide) _ _ _ rfl (HOWN.out.alloc _) ⟨wr.heap.size, 0, none⟩ 1 1 [.string r] rfl rfl ?c6 ?c7 ?c8 ?c9 ?c10 ?_)
      case c6 => exact one_new wr _ _
      case c7 => intro u hu; simp at hu; subst hu; rfl
      case c8 => unfold maxLen; omega
      case c9 => omega
      case c10 => have := hbel.size; simp; omega
      intro v' w2 hown' hgrow _
      have hb2 : Below W7.heap.size W7 w2 := (hbel.alloc hbel.size _).grown hgrow (by have := hbel.size; simp; omega) (own_from HOWN.out)
      have SA := Lib.hid (show Strs w2 v' (l ++ [r]) from Strs.own (base := W7.heap.size) (by rw [sv_append, List.length_append]; simpa [sv] using hown'))
      have SG := Lib.hid (SV7.out.keep hb2)
      have bb := b7.trans (hb2.mono b7.size)
      clear hown' hgrow hb2 HOWN
      rcases HGOT.out with rfl | ⟨rfl, he⟩
      · go_wp2_with fail
        refine (low' bb (same_self _ _ _ _ SG.out SA.out)).mono ?_
        rintro e w3 ⟨rfl, b3⟩
        go_wp2_with fail
        refine (low' b3 (awake12_any _)).mono ?_
        rintro e w8 ⟨rfl, b8⟩
        go_wp2_with fail
        go_ret
        exact ⟨rfl, b8⟩
      · have hne : (e1 != 0) = true := by simpa using he
        have HNE : Hid (got ≠ got ++ [r]) := Lib.hid (by intro e; have := congrArg List.length e; simp at this)
        go_wp2_with fail
        refine (same_other _ _ _ _ HNE.out _ SG.out SA.out).mono ?_
        rintro e w3 ⟨rfl, c3⟩
        have SG3 := Lib.hid (SG.out.keep c3)
        have b3 := bb.trans (c3.mono bb.size)
        clear c3
        go_wp2_with fail
        refine (awake12_any _).mono ?_
        rintro e w8 ⟨rfl, c8⟩
        have SG8 := Lib.hid (SG3.out.keep c8)
        have b8 := b3.trans (c8.mono b3.size)
        clear c8
        go_wp2_with fail
        refine (low' b8 (same_self _ _ _ _ SG8.out (HS.out.keep b8))).mono ?_
        rintro e w9 ⟨rfl, b9⟩
        go_wp2_with fail
        go_ret
        exact ⟨rfl, b9⟩
set_option maxHeartbeats 4000000 in
set_option maxRecDepth 100000 in
theorem walk (a : Option Addr) (n cap : Nat) (l : List ByteArray) (r : ByteArray) (f keep : Int) (w : World) (hA : l.length = n ∧ Strs w (.slice a n cap) l ∧ ∀ s ∈ l, s.size ≤ maxLen) (w1 : r.size ≤ maxLen) (hf : -9223372036854775808 ≤ f ∧ f ≤ 9223372036854775807) :
    Calls Try.prog 12 #[.slice a n cap, .string r, .agg #[.int .i64 f, .int .i64 keep]] w fun e w' => e = .returned (.bool true) ∧ Below w.heap.size w w' := by
  obtain ⟨rfl, hS, hms⟩ := hA
  obtain ⟨hf0, hf2⟩ := hf
  unfold maxLen at w1
  by_cases hg : l.length ≤ 12 ∧ r.size ≤ 100 ∧ -1 ≤ f
  · obtain ⟨g1, g2, g3⟩ := hg
    by_cases hsh : Short l
    · exact good a cap l r f keep w hS hms g1 g2 g3 hf2 hsh
    · have HS := Lib.hid hS
      have HMS := Lib.hid hms
      have HSH := Lib.hid hsh
      obtain ⟨a', cap', hv, hc1, hc2, _⟩ := hS
      obtain ⟨rfl, _, rfl⟩ : a = a' ∧ l.length = l.length ∧ cap = cap' := by simpa using hv
      unfold maxLen at hc2
      clear hv hms hsh
      go_enter Try.func12, Try.ntmps12
      go_wp2_with fail
      go_quiet (fail)
      have b0 := below_drewN ((Below.refl w.heap.size w).alloc (Nat.le_refl _) (.cells #[.int .i64 f, .int .i64 keep] 65)) nq
      generalize ((w.alloc (.cells #[.int .i64 f, .int .i64 keep] 65)).drewN nq) = W0 at *
      go_wp2_with fail
      refine (made_any _ l g1 HMS.out _ (HS.out.keep b0)).mono ?_
      rintro e w1 ⟨_, hbad, c1⟩
      obtain ⟨d, rfl⟩ := hbad HSH.out
      have b1 := b0.trans (c1.mono b0.size)
      clear c1 b0
      obtain ⟨s2, u2, f2, d2⟩ := d
      go_wp2_with fail
      refine (awake12_any _).mono ?_
      rintro e w2 ⟨rfl, c2⟩
      have b2 := (b1.alloc b1.size (.cells (dcells ⟨s2, u2, f2, d2⟩) 32)).trans (c2.mono (by have := b1.size; simp; omega))
      clear c2
      go_wp2_with fail
      go_ret
      exact ⟨rfl, b2⟩
  · have hgd : (12 < l.length) ∨ (l.length ≤ 12 ∧ 100 < r.size) ∨ (l.length ≤ 12 ∧ r.size ≤ 100 ∧ f < -1) := by omega
    obtain ⟨a', cap', hv, hc1, hc2, _⟩ := hS
    obtain ⟨rfl, _, rfl⟩ : a = a' ∧ l.length = l.length ∧ cap = cap' := by simpa using hv
    unfold maxLen at hc2
    clear hv hms hg
    rcases hgd with hgd | ⟨hg1, hgd⟩ | ⟨hg1, hg2, hgd⟩
    all_goals
      go_enter Try.func12, Try.ntmps12
      go_wp2_with fail
      go_quiet (fail)
      have b0 := below_drewN ((Below.refl w.heap.size w).alloc (Nat.le_refl _) (.cells #[.int .i64 f, .int .i64 keep] 65)) nq
      generalize ((w.alloc (.cells #[.int .i64 f, .int .i64 keep] 65)).drewN nq) = W0 at *
      go_wp2_with fail
      refine (low' b0 (awake12_any _)).mono ?_
      rintro e w2 ⟨rfl, b2⟩
      go_wp2_with fail
      go_ret
      exact ⟨rfl, b2⟩

theorem laidOut : laidOutB Try.prog = true := by kernel_rfl
set_option maxRecDepth 100000 in
theorem lifted (os : Os) (started : os.Started) (H : Type) (enc : TypeId × Value → H) :
    ReturnsInHanded {} Try.checked os 12 .any (Rows.journalTornSpec.pre6 enc Try.prog Try.f12 Rows.journalTornRow.domain false) (Rows.journalTornSpec.post enc Try.prog Try.f12 false true false false) := by
  refine returnsInHanded_of_change (C := Try.checked) own started (by kernel_rfl) Try.func12
    (ChangeSpec.witness6 (enc := enc) (C := Try.checked) false ⟨#[], #[.slice none 0 0, .string ByteArray.empty, zero2], []⟩ 8 (by kernel_rfl) (by kernel_rfl) (by kernel_rfl) (by kernel_rfl)) ?_
  intro W base args ds gs before hval0 hW hcnd _
  have hval : ∀ (j : Nat) t v, Try.f12.params[j]? = some t → args[j]? = some v → Value.okWide Try.prog W .any base t v := hval0
  have hW' := hW
  obtain ⟨p, q, hA0, hV, rfl, hfz, hnd⟩ := hW
  have hA : DataW.TrodAll enc Try.prog W 0 (fun _ => true) true Try.f12.params.toList args.toList ds p := hA0
  rw [Try.params12] at hA hval
  obtain ⟨v0, vs0, d0, ds0, p0, q0, hargs, rfl, rfl, h0, r0⟩ := trodAll_cons hA
  obtain ⟨v1, vs1, d1, ds1, p1, q1, rfl, rfl, rfl, h1, r1⟩ := trodAll_cons r0
  obtain ⟨v2, vs2, d2, ds2, p2, q2, rfl, rfl, rfl, h2, r2⟩ := trodAll_cons r1
  obtain ⟨rfl, rfl, rfl⟩ := trodAll_nil r2
  obtain rfl : args = #[v0, v1, v2] := by cases args; simp_all
  obtain ⟨rfl, rfl⟩ := trodVars_none hV
  obtain ⟨a0, len0, cap0, rfl⟩ := okWide_slice Try.underlying54 (hval 0 54 v0 rfl rfl)
  have k0 := h0
  have lt0 : ∀ x ∈ p0, x.block < W.heap.size := by obtain ⟨m, hm⟩ := k0; exact DataW.trod_lt m _ _ _ hm
  obtain ⟨l0, w0⟩ := open_strs h0
  obtain ⟨a1, rfl, rfl, rfl, w1⟩ := open_string Try.underlying9 (hval 1 9 v1 rfl rfl) h1
  have k2 := h2
  have lt2 : ∀ x ∈ p2, x.block < W.heap.size := by obtain ⟨m, hm⟩ := k2; exact DataW.trod_lt m _ _ _ hm
  obtain ⟨fu2, ke2, rfl, w2⟩ := open_two (hval 2 65 v2 rfl rfl) h2
  clear hA0 hval0
  refine (walk a0 len0 cap0 l0 a1 fu2 ke2 W w0 w1 w2).mono fun e W' ⟨he, bel⟩ => ?_
  subst he
  exact ⟨_, rfl, _, _, _, [], _, [], hW', trodAll_mk1 (shut_bool Try.underlying4 _), (trodAll_cons_mk (Below.trod laidOut (by kernel_rfl) (of_decide_eq_true (by kernel_rfl)) k0 bel lt0) (trodAll_cons_mk (shut_string Try.underlying9 w1) (trodAll_cons_mk (Below.trod laidOut (by kernel_rfl) (of_decide_eq_true (by kernel_rfl)) k2 bel lt2) trodAll_mk0))), rfl, bel.frame _, fun h => by cases h⟩

theorem over : Rows.journalTornRow.holds Try.pinned (OpenSpec.ofChange Rows.journalTornSpec) :=
  OpenClaim.holds_of_wide 12 Try.f12 rfl rfl rfl rfl rfl rfl rfl ⟨rfl, rfl, rfl, rfl, rfl⟩ rfl rfl rfl rfl rfl (by kernel_rfl) Try.func12 (by kernel_rfl)
    (of_decide_eq_true (by kernel_rfl)) (by unfold Func.isWrapper; first | (rw [if_pos (by decide +kernel)]; kernel_rfl) | (rw [if_neg (by decide +kernel)]; exact ⟨rfl, rfl⟩))
    (fun os started H enc _ => lifted os started H enc)

theorem proved : Rows.JournalTornSaid :=
  over
end Go.Proofs.Ytgffoepnkpkhaaa.journalTorn
#print axioms Go.Proofs.Ytgffoepnkpkhaaa.journalTorn.proved
