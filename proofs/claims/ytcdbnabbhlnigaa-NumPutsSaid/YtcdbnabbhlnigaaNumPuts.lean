/- NumPuts holds for every input: the bytes of any numbers, and of any text, are read as they were; no condition. -/
import Derived.Test.YtcdbnabbhlnigaaBase
import Derived.Test.YtcdbnabbhlnigaaAll
import Derived.Test.YtcdbnabbhlnigaaText
import Derived.Deep.RegionHeld3
import Derived.ChangeSlices
import Derived.Deep.SlicePairs
import Derived.Carry
namespace Go.Proofs.Ytcdbnabbhlnigaa.numPuts
open Go.ChangeShapes Go.WideShapes Go.ChangeAt Go.RowKit Go.Deep
open Go.ChangeMaps (open_string shut_string)

section
variable {H : Type} {enc : TypeId × Value → H}
theorem open_nums {W : World} {a : Option Addr} {n c : Nat} {d : DataW H} {p : List MemPlace} (h : DataW.Trod enc Try.prog W 0 (fun _ => true) true 44 (.slice a n c) d p) :
    ∃ zs : List Int, zs.length = n ∧ Nums W (.slice a n c) zs ∧ Fit zs := by
  obtain ⟨fuel, hf⟩ := h
  rcases open_ints Try.underlying44 Try.underlying2 (by kernel_rfl) hf with ⟨hcs, _⟩ | ⟨x, l, c', ss, hcs, _, hl, hm, hss, _, hi, hs⟩
  · simp [Value.cells] at hcs
    obtain ⟨rfl, rfl, rfl⟩ := hcs
    exact ⟨[], rfl, ⟨none, 0, rfl, by simp, by decide, fun h => by simp at h⟩, fun z h => by simp at h⟩
  · simp [Value.cells] at hcs
    obtain ⟨rfl, rfl, rfl⟩ := hcs
    simp only [if_true] at hss
    have hlen : (ss.take n).length = n := by rw [List.length_take]; omega
    refine ⟨ss.take n, hlen, ⟨some x, c, by rw [hlen], by omega, hm, fun h0 => ?_⟩, fun s h => ?_⟩
    · have z0 := hi 0 (by omega)
      have hx : x = ⟨x.block, x.off, none⟩ := plain_of_cell (v := .int .i64 (ss.getD 0 0)) (by simpa [Addr.add] using z0)
      refine ⟨x.block, x.off, by rw [← hx], ?_, fun i hin => ?_⟩
      · rw [hx] at z0
        exact lt_of_cell z0
      · have zi := hi i (by omega)
        rw [hx] at zi
        have : (ss.take n)[i] = ss.getD i 0 := by
          rw [List.getElem_take, List.getD_eq_getElem?_getD, List.getElem?_eq_getElem (by omega)]; rfl
        rw [this, ← Go.WideShapes.add_plain]
        exact zi
    · have := hs s (List.mem_of_mem_take h)
      simp [Lit.wf, IntKind.min, IntKind.max, IntKind.signed, IntKind.bits] at this
      omega
end
theorem ba_list {a b : ByteArray} (h : a.data.toList = b.data.toList) : a = b := ByteArray.ext (Array.toList_inj.mp h)
theorem ba_cat (a b : ByteArray) : (a ++ b).data.toList = a.data.toList ++ b.data.toList := by simp [ByteArray.data_append]
theorem ba_extract (s : ByteArray) (a b : Nat) : (s.extract a b).data.toList = (s.data.toList.drop a).take (b - a) := by
  rw [ByteArray.data_extract, Array.toList_extract, List.extract]
theorem ba_len (a : ByteArray) : a.data.toList.length = a.size := by simp
theorem ba_drop (s : ByteArray) (a : Nat) : (s.extract a s.size).data.toList = s.data.toList.drop a := by
  rw [ba_extract, List.take_of_length_le (by rw [List.length_drop, ba_len]; omega)]
/-- what is left behind k numbers -/
def rest (zs : List Int) (m : ByteArray) (k : Nat) : ByteArray := (⟨(puts (zs.drop k)).toArray⟩ : ByteArray) ++ m
theorem puts_cons (zs : List Int) (k : Nat) (h : k < zs.length) : puts (zs.drop k) = Vint.put zs[k] ++ puts (zs.drop (k + 1)) := by
  rw [List.drop_eq_getElem_cons h]; simp only [puts, List.map_cons, List.flatten_cons]
theorem rest_step (zs : List Int) (m : ByteArray) (k : Nat) (h : k < zs.length) (hf : Fit zs) : tk (fun _ => true) (rest zs m k) 0 = (zs[k], true, rest zs m (k + 1), 0) := by
  obtain ⟨f1, f2⟩ := hf zs[k] (List.getElem_mem h)
  have e : (rest zs m k).data.toList = Vint.put zs[k] ++ (puts (zs.drop (k + 1)) ++ m.data.toList) := by
    unfold rest
    rw [ba_cat, puts_cons zs k h]; simp
  have hg := Vint.get_put zs[k] (puts (zs.drop (k + 1)) ++ m.data.toList) f1 f2
  rw [← e] at hg
  rw [tk_yes _ _ _ _ hg rfl]
  have : (rest zs m k).extract (Vint.put zs[k]).length (rest zs m k).size = rest zs m (k + 1) := by
    apply ba_list
    rw [ba_drop, e, List.drop_left]
    unfold rest
    rw [ba_cat]
  rw [this]
theorem rest_end (zs : List Int) (m : ByteArray) (k : Nat) (h : zs.length ≤ k) : rest zs m k = m := by
  apply ba_list
  unfold rest
  rw [ba_cat, List.drop_eq_nil_of_le h]
  simp [puts]
theorem rest_start (zs : List Int) (t more : ByteArray) : (⟨(puts zs).toArray⟩ : ByteArray) ++ t ++ more = rest zs (t ++ more) 0 := by
  unfold rest
  rw [List.drop_zero, ByteArray.append_assoc]
theorem rest_size (zs : List Int) (m : ByteArray) (k : Nat) : (rest zs m k).size ≤ 10 * zs.length + m.size := by
  unfold rest
  rw [ByteArray.size_append]
  have h1 := puts_len (zs.drop k)
  have h2 : (ByteArray.mk (puts (zs.drop k)).toArray).size = (puts (zs.drop k)).length := by show (puts (zs.drop k)).toArray.size = _; rw [List.size_toArray]
  rw [List.length_drop] at h1
  omega
theorem text_read (s more : ByteArray) (h : s.size ≤ 200) : tx 200 (((⟨(Vint.put (s.size : Int)).toArray⟩ : ByteArray) ++ s) ++ more) 0 = (s, more, 0) := by
  have e : (((⟨(Vint.put (s.size : Int)).toArray⟩ : ByteArray) ++ s) ++ more).data.toList = Vint.put (s.size : Int) ++ (s.data.toList ++ more.data.toList) := by
    rw [ba_cat, ba_cat]; simp
  have hg := Vint.get_put (s.size : Int) (s.data.toList ++ more.data.toList) (by omega) (by omega)
  rw [← e] at hg
  have hr : (((⟨(Vint.put (s.size : Int)).toArray⟩ : ByteArray) ++ s) ++ more).extract (Vint.put (s.size : Int)).length (((⟨(Vint.put (s.size : Int)).toArray⟩ : ByteArray) ++ s) ++ more).size = s ++ more := by
    apply ba_list
    rw [ba_drop, e, List.drop_left, ba_cat]
  have ht := tk_yes (upto 200) _ _ _ hg (by simp [upto]; omega)
  rw [hr] at ht
  unfold tx
  rw [ht]
  dsimp only
  have h1 : (s ++ more).extract 0 s.size = s := by
    apply ba_list
    rw [ba_extract, ba_cat, List.drop_zero, Nat.sub_zero, ← ba_len s, List.take_left]
  have h2 : (s ++ more).extract s.size (s ++ more).size = more := by
    apply ba_list
    rw [ba_drop, ba_cat, ← ba_len s, List.drop_left]
  rw [if_neg (by simp), if_neg (by rw [ByteArray.size_append]; omega), Int.toNat_natCast, h1, h2]
theorem get_more (z : Int) (more : ByteArray) (h1 : -9223372036854775808 ≤ z) (h2 : z ≤ 9223372036854775807) : gv ((⟨(Vint.put z).toArray⟩ : ByteArray) ++ more) = .tuple #[.int .i64 z, .string more, .int .i64 0] := by
  have e : ((⟨(Vint.put z).toArray⟩ : ByteArray) ++ more).data.toList = Vint.put z ++ more.data.toList := by rw [ba_cat]
  have hg := Vint.get_put z more.data.toList h1 h2
  rw [← e] at hg
  rw [gv_ok _ _ _ hg]
  have : ((⟨(Vint.put z).toArray⟩ : ByteArray) ++ more).extract (Vint.put z).length ((⟨(Vint.put z).toArray⟩ : ByteArray) ++ more).size = more := by
    apply ba_list
    rw [ba_drop, e, List.drop_left]
  rw [this]
theorem end_more (more : ByteArray) : ((endOf more 0 == 0) == more.toList.isEmpty) = true := by
  unfold endOf
  by_cases h : more.size = 0
  · have : more.toList = [] := by
      rw [ByteArray.toList_eq]; exact List.eq_nil_of_length_eq_zero (by rw [ba_len]; exact h)
    simp [h, this]
  · have : more.toList ≠ [] := by
      rw [ByteArray.toList_eq]; intro e; apply h; rw [← ba_len, e]; rfl
    simp [h, this]
theorem below_drewN {n : Nat} {w w' : World} (h : Below n w w') (k : Nat) : Below n w (w'.drewN k) := by
  exact ⟨h.1, h.2, h.3, h.4, h.5⟩
def Rel (w wr : World) (br : Nat) (s : ByteArray) : Prop := Below w.heap.size w wr ∧ Rdr 53 wr br s 0 ∧ w.heap.size ≤ br
set_option maxHeartbeats 4000000 in
set_option maxRecDepth 100000 in
theorem walk (a : Option Addr) (n cap : Nat) (zs : List Int) (s more : ByteArray) (w : World) (hA : zs.length = n ∧ Nums w (.slice a n cap) zs ∧ Fit zs) (w1 : s.size ≤ maxLen) (w2 : more.size ≤ maxLen) :
    Calls Try.prog 5 #[.slice a n cap, .string s, .string more] w fun e w' => e = .returned (.bool true) ∧ Below w.heap.size w w' := by
  obtain ⟨rfl, hS, hf⟩ := hA
  unfold maxLen at w1 w2
  have HS := Lib.hid hS
  have HF := Lib.hid hf
  obtain ⟨a', cap', hv, hc1, hc2, hcell⟩ := hS
  obtain ⟨rfl, _, rfl⟩ : a = a' ∧ zs.length = zs.length ∧ cap = cap' := by simpa using hv
  unfold maxLen at hc2
  have HCELL := Lib.hid hcell
  clear hcell hv hf
  by_cases hg : zs.length ≤ 20 ∧ s.size ≤ 200 ∧ more.size ≤ 200
  · obtain ⟨g1, g2, g3⟩ := hg
    have hpl := puts_len zs
    have hpz : (ByteArray.mk (puts zs).toArray).size ≤ 200 := by show (puts zs).toArray.size ≤ 200; rw [List.size_toArray]; omega
    have hps : (ByteArray.mk (Vint.put (s.size : Int)).toArray).size ≤ 10 := by show (Vint.put (s.size : Int)).toArray.size ≤ 10; rw [List.size_toArray]; exact put_len _
    have hts : ((ByteArray.mk (Vint.put (s.size : Int)).toArray) ++ s).size ≤ 210 := by rw [ByteArray.size_append]; omega
    go_enter Try.func5, Try.ntmps5
    go_wp2_with fail
    refine (all_any _ zs _ HS.out HF.out (by omega)).mono ?_
    rintro e x1 ⟨rfl, b1⟩
    go_wp2_with fail
    refine (low b1 (refall_any _ zs _ (HS.out.keep b1) HF.out (by omega))).mono ?_
    rintro e x2 ⟨rfl, b2⟩
    clear b1
    go_wp2_with fail
    refine (low b2 (text_any s (by omega) _)).mono ?_
    rintro e x3 ⟨rfl, b3⟩
    clear b2
    go_wp2_with fail
    refine (low b3 (reftext_any s (by omega) _)).mono ?_
    rintro e x4 ⟨rfl, b4⟩
    clear b3
    go_wp2_with fail
    refine (low b4 (text_any s (by omega) _)).mono ?_
    rintro e x5 ⟨rfl, b5⟩
    clear b4
    have HT := Lib.hid (text_read s more g2)
    have HR := Lib.hid (rest_start zs ((ByteArray.mk (Vint.put (s.size : Int)).toArray) ++ s) more)
    generalize (ByteArray.mk (Vint.put (s.size : Int)).toArray) ++ s = tx0 at *
    generalize (ByteArray.mk (puts zs).toArray) = pz at *
    go_wp2_with fail
    rw [HR.out]
    refine (new_any _ _).mono ?_
    rintro e x6 ⟨rfl, rfl⟩
    have hnew : Rel w (x5.alloc (.cells #[.string (rest zs (tx0 ++ more) 0), .int .i64 0] 53)) x5.heap.size (rest zs (tx0 ++ more) 0) :=
      ⟨b5.alloc b5.size _, heap_alloc_new _ _, b5.size⟩
    generalize (x5.alloc (.cells #[.string (rest zs (tx0 ++ more) 0), .int .i64 0] 53)) = W1 at *
    generalize x5.heap.size = br at *
    clear b5
    go_wp2_with fail
    go_loopw [9] (fun i wr => ∃ k : Nat, k ≤ zs.length ∧ i = .int .i64 k ∧ Rel w wr br (rest zs (tx0 ++ more) k)) (fun i _ => zs.length - (intOf i).toNat)
    case atStart => exact ⟨0, Nat.zero_le _, rfl, hnew⟩
    case round =>
      obtain ⟨k, hk, rfl, hbel, hr, hbr⟩ := hrel
      have hrs := rest_size zs (tx0 ++ more) k
      have hms : (tx0 ++ more).size ≤ 410 := by rw [ByteArray.size_append]; omega
      by_cases hlt : k < zs.length
      · obtain ⟨b, off, rfl, hbl, hcl⟩ := HCELL.out (by omega)
        have hc0 := hcl k hlt
        have g0 := (hbel.cell (p := ⟨b, off + k, none⟩) hbl).trans hc0
        obtain ⟨z1, z2⟩ := HF.out zs[k] (List.getElem_mem hlt)
        have HST := Lib.hid (rest_step zs (tx0 ++ more) k hlt HF.out)
        clear hcl
        generalize zs[k] = z at *
        have HGM := Lib.hid (get_more z more z1 z2)
        have hpz2 : (ByteArray.mk (Vint.put z).toArray).size ≤ 10 := by show (Vint.put z).toArray.size ≤ 10; rw [List.size_toArray]; exact put_len _
        have hpm : ((ByteArray.mk (Vint.put z).toArray) ++ more).size ≤ 210 := by rw [ByteArray.size_append]; omega
        generalize hR0 : rest zs (tx0 ++ more) k = r0 at *
        generalize hR1 : rest zs (tx0 ++ more) (k + 1) = r1 at *
        have HR1 := Lib.hid hR1
        clear hR0 hR1
        go_wp2_with fail
        refine (put_any z z1 z2 _).mono ?_
        rintro e y1 ⟨rfl, c1⟩
        have b1 := hbel.trans (c1.mono hbel.size)
        have r1' := hr.keep c1
        clear c1 hr hbel
        go_wp2_with fail
        refine (get_any _ _ (by omega)).mono ?_
        rintro e y2 ⟨rfl, nd, rfl⟩
        rw [HGM.out]
        have b2 := below_drewN b1 nd
        have r2 := r1'.drewN nd
        clear b1 r1' g0
        generalize y1.drewN nd = y2 at *
        have g2 := (b2.cell (p := ⟨b, off + k, none⟩) hbl).trans hc0
        have hi1 : (0 : Int) ≤ (k : Int) := by omega
        have hi2 : (k : Int) < (zs.length : Int) := by omega
        have HC0 := Lib.hid hc0
        have hne : (z != z) = false := by simp
        clear hc0
        go_wp2_with fail
        go_region_held3 (fun W => W.cell? ⟨b, off + k, none⟩ = some (.int .i64 z)) (first | assumption | exact g2)
          (first | (go_at_call 11; refine (num_any br r0 0 (by omega) _ (by exact r2)).mono ?_; rintro e y3 ⟨rfl, hr3, ho3⟩; rw [HST.out] at hr3 ⊢; dsimp only at hr3 ⊢; have b3 := ho3.low (b2.drew) hbr; have g3 := (b3.cell (p := ⟨b, off + k, none⟩) hbl).trans HC0.out))
        clear g3 r2 b2 ho3
        go_wp2_with fail
        go_roundw
        case rel => exact ⟨k + 1, by omega, by go_num, b3, by rw [HR1.out]; exact hr3, hbr⟩
        case measure => simp [intOf]; omega
      · rw [rest_end zs (tx0 ++ more) k (by omega)] at hr
        go_wp2_with fail
        refine (textr_any br _ 0 200 (by omega) _ hr).mono ?_
        rintro e y1 ⟨rfl, hr1, ho1⟩
        rw [HT.out] at hr1 ⊢
        dsimp only at hr1 ⊢
        have b1 := ho1.low hbel hbr
        clear ho1 hr hbel
        go_wp2_with fail
        refine (awake7_any _).mono ?_
        rintro e y2 ⟨rfl, c2⟩
        have b2 := b1.trans (c2.mono b1.size)
        have hr2 := hr1.keep c2
        clear b1 c2 hr1
        go_wp2_with fail
        refine (err_any br _ 0 _ hr2).mono ?_
        rintro e y3 ⟨rfl, rfl⟩
        go_wp2_with fail
        refine (left_any br _ 0 _ hr2).mono ?_
        rintro e y3 ⟨rfl, rfl⟩
        go_wp2_with fail
        refine (end_any br _ 0 _ hr2).mono ?_
        rintro e y3 ⟨rfl, rfl⟩
        go_wp2_with fail
        go_ret
        exact ⟨by rw [end_more]; rfl, b2⟩
  · have hgd : (20 < zs.length) ∨ (zs.length ≤ 20 ∧ 200 < s.size) ∨ (zs.length ≤ 20 ∧ s.size ≤ 200 ∧ 200 < more.size) := by omega
    rcases hgd with hgd | ⟨hg1, hgd⟩ | ⟨hg1, hg2, hgd⟩
    all_goals
      clear hg
      go_enter Try.func5, Try.ntmps5
      go_wp2_with fail
      refine (awake7_any _).mono ?_
      rintro e y1 ⟨rfl, b1⟩
      go_wp2_with fail
      go_ret
      exact ⟨rfl, b1⟩

theorem laidOut : laidOutB Try.prog = true := by kernel_rfl
set_option maxRecDepth 100000 in
theorem lifted (os : Os) (started : os.Started) (H : Type) (enc : TypeId × Value → H) :
    ReturnsInHanded {} Try.checked os 5 .any (Rows.numPutsSpec.pre6 enc Try.prog Try.f5 Rows.numPutsRow.domain false) (Rows.numPutsSpec.post enc Try.prog Try.f5 false true false false) := by
  refine returnsInHanded_of_change (C := Try.checked) own started (by kernel_rfl) Try.func5
    (ChangeSpec.witness6 (enc := enc) (C := Try.checked) false ⟨#[], #[.slice none 0 0, .string ByteArray.empty, .string ByteArray.empty], []⟩ 8 (by kernel_rfl) (by kernel_rfl) (by kernel_rfl) (by kernel_rfl)) ?_
  intro W base args ds gs before hval0 hW hcnd _
  have hval : ∀ (j : Nat) t v, Try.f5.params[j]? = some t → args[j]? = some v → Value.okWide Try.prog W .any base t v := hval0
  have hW' := hW
  obtain ⟨p, q, hA0, hV, rfl, hfz, hnd⟩ := hW
  have hA : DataW.TrodAll enc Try.prog W 0 (fun _ => true) true Try.f5.params.toList args.toList ds p := hA0
  rw [Try.params5] at hA hval
  obtain ⟨v0, vs0, d0, ds0, p0, q0, hargs, rfl, rfl, h0, r0⟩ := trodAll_cons hA
  obtain ⟨v1, vs1, d1, ds1, p1, q1, rfl, rfl, rfl, h1, r1⟩ := trodAll_cons r0
  obtain ⟨v2, vs2, d2, ds2, p2, q2, rfl, rfl, rfl, h2, r2⟩ := trodAll_cons r1
  obtain ⟨rfl, rfl, rfl⟩ := trodAll_nil r2
  obtain rfl : args = #[v0, v1, v2] := by cases args; simp_all
  obtain ⟨rfl, rfl⟩ := trodVars_none hV
  obtain ⟨a0, len0, cap0, rfl⟩ := okWide_slice Try.underlying44 (hval 0 44 v0 rfl rfl)
  have k0 := h0
  have lt0 : ∀ x ∈ p0, x.block < W.heap.size := by obtain ⟨m, hm⟩ := k0; exact DataW.trod_lt m _ _ _ hm
  obtain ⟨l0, w0⟩ := open_nums h0
  obtain ⟨a1, rfl, rfl, rfl, w1⟩ := open_string Try.underlying9 (hval 1 9 v1 rfl rfl) h1
  obtain ⟨a2, rfl, rfl, rfl, w2⟩ := open_string Try.underlying9 (hval 2 9 v2 rfl rfl) h2
  clear hA0 hval0
  refine (walk a0 len0 cap0 l0 a1 a2 W w0 w1 w2).mono fun e W' ⟨he, bel⟩ => ?_
  subst he
  exact ⟨_, rfl, _, _, _, [], _, [], hW', trodAll_mk1 (shut_bool Try.underlying4 _), (trodAll_cons_mk (Below.trod laidOut (by kernel_rfl) (of_decide_eq_true (by kernel_rfl)) k0 bel lt0) (trodAll_cons_mk (shut_string Try.underlying9 w1) (trodAll_cons_mk (shut_string Try.underlying9 w2) trodAll_mk0))), rfl, bel.frame _, fun h => by cases h⟩

theorem over : Rows.numPutsRow.holds Try.pinned (OpenSpec.ofChange Rows.numPutsSpec) :=
  OpenClaim.holds_of_wide 5 Try.f5 rfl rfl rfl rfl rfl rfl rfl ⟨rfl, rfl, rfl, rfl, rfl⟩ rfl rfl rfl rfl rfl (by kernel_rfl) Try.func5 (by kernel_rfl)
    (of_decide_eq_true (by kernel_rfl)) (by unfold Func.isWrapper; first | (rw [if_pos (by decide +kernel)]; kernel_rfl) | (rw [if_neg (by decide +kernel)]; exact ⟨rfl, rfl⟩))
    (fun os started H enc _ => lifted os started H enc)

theorem proved : Rows.NumPutsSaid :=
  over
end Go.Proofs.Ytcdbnabbhlnigaa.numPuts
#print axioms Go.Proofs.Ytcdbnabbhlnigaa.numPuts.proved
