/- The walks of codec.All and of the reference's All. -/
import Derived.Test.YtcdbnabbhlnigaaDoorCm3
namespace Go.Proofs.YtcdbnabbhlnigaaDoor
open Go.RowKit

/-- a command in the midst of a block -/
def At7 (W : World) (b o : Nat) (c : Cm) : Prop :=
  W.cell? ⟨b, o, none⟩ = some (.int .i64 c.kd) ∧ W.cell? ⟨b, o + 1, none⟩ = some (.int .i64 c.id) ∧ W.cell? ⟨b, o + 2, none⟩ = some (.int .i64 c.mb) ∧ W.cell? ⟨b, o + 3, none⟩ = some (.int .i64 c.ot) ∧
    W.cell? ⟨b, o + 4, none⟩ = some (.int .i64 c.sc) ∧ W.cell? ⟨b, o + 5, none⟩ = some (.int .i64 c.qt) ∧ W.cell? ⟨b, o + 6, none⟩ = some (.int .i64 c.pr)
theorem At7.keep {W W' : World} {b o : Nat} {c : Cm} {n : Nat} (h : At7 W b o c) (hb : Below n W W') (hlt : b < n) : At7 W' b o c :=
  ⟨(hb.cell (p := ⟨b, o, none⟩) hlt).trans h.1, (hb.cell (p := ⟨b, o + 1, none⟩) hlt).trans h.2.1, (hb.cell (p := ⟨b, o + 2, none⟩) hlt).trans h.2.2.1, (hb.cell (p := ⟨b, o + 3, none⟩) hlt).trans h.2.2.2.1, (hb.cell (p := ⟨b, o + 4, none⟩) hlt).trans h.2.2.2.2.1, (hb.cell (p := ⟨b, o + 5, none⟩) hlt).trans h.2.2.2.2.2.1, (hb.cell (p := ⟨b, o + 6, none⟩) hlt).trans h.2.2.2.2.2.2⟩
/-- a slice of commands that reads as a list -/
def Cms (W : World) (v : Value) (cs : List Cm) : Prop :=
  ∃ a cap, v = .slice a cs.length cap ∧ cs.length ≤ cap ∧ cap ≤ maxLen ∧ (0 < cs.length → ∃ b off, a = some ⟨b, off, none⟩ ∧ b < W.heap.size ∧ ∀ i (h : i < cs.length), At7 W b (off + i * 7) cs[i])
theorem Cms.keep {w w' : World} {v : Value} {cs : List Cm} (h : Cms w v cs) (hb : Below w.heap.size w w') : Cms w' v cs := by
  obtain ⟨a, cap, hv, h1, h2, hc⟩ := h
  refine ⟨a, cap, hv, h1, h2, fun h0 => ?_⟩
  obtain ⟨b, off, ha, hlt, hcl⟩ := hc h0
  exact ⟨b, off, ha, Nat.lt_of_lt_of_le hlt hb.size, fun i hi => (hcl i hi).keep hb hlt⟩
theorem bytes_len (c : Cm) : c.bytes.length ≤ 70 := by
  unfold Cm.bytes
  rw [List.length_append]
  have h1 := put_len c.kd
  have h2 := vals_len (hasOf c.kd).1 c 6
  omega
theorem text_len (c : Cm) : c.text.size ≤ 70 := by
  unfold Cm.text
  split
  · show c.bytes.toArray.size ≤ 70
    rw [List.size_toArray]; exact bytes_len c
  · decide
theorem catC_len (cs : List Cm) : (catC cs).length ≤ 70 * cs.length := by
  induction cs with
  | nil => simp [catC]
  | cons c cs ih =>
    have := bytes_len c
    simp only [catC, List.map_cons, List.flatten_cons, List.length_append, List.length_cons] at ih ⊢
    omega
theorem catC_take (cs : List Cm) (k : Nat) (h : k < cs.length) : catC (cs.take (k + 1)) = catC (cs.take k) ++ cs[k].bytes := by
  rw [List.take_succ_eq_append_getElem h, catC_snoc]
theorem rightAll_step (cs : List Cm) (k : Nat) (h : k < cs.length) : rightAll (cs.take (k + 1)) = (rightAll (cs.take k) && cs[k].right) := by
  rw [List.take_succ_eq_append_getElem h, rightAll_snoc]
theorem rightAll_no {cs : List Cm} {k : Nat} (h : k < cs.length) (hr : cs[k].right = false) : rightAll cs = false := by
  rw [Bool.eq_false_iff]
  intro e
  unfold rightAll at e
  rw [List.all_eq_true] at e
  have := e _ (List.getElem_mem h)
  rw [hr] at this
  exact absurd this (by decide)
structure AllRel (cs : List Cm) (w wr : World) (k : Nat) : Prop where
  bld : Lib.IsBuilder 50 5 w.heap.size w.heap.size (Lib.byteCells (Vint.put (cs.length : Nat) ++ catC (cs.take k))) wr
  low : Below w.heap.size w wr
  ok : rightAll (cs.take k) = true
set_option maxHeartbeats 8000000 in
set_option maxRecDepth 100000 in
theorem all_any (v : Value) (cs : List Cm) (w : World) (hv : Cms w v cs) (hf : FitAll cs) (hn : cs.length ≤ 1024) :
    Calls Tryd.prog 17 #[v] w fun e w' => e = .returned (.tuple #[.string (allOf cs).1, .int .i64 (allOf cs).2]) ∧ Below w.heap.size w w' := by
  obtain ⟨a, cap, rfl, hc1, hc2, hcell⟩ := hv
  unfold maxLen at hc2
  have HCELL := Lib.hid hcell
  have HF := Lib.hid hf
  clear hcell hf
  have hps := put_size (cs.length : Nat)
  have hpl := put_len (cs.length : Nat)
  go_enter Tryd.func17, Tryd.ntmps17
  go_wp2_with fail
  refine (put_any (cs.length : Nat) (by omega) (by omega) _).mono ?_
  rintro e w1 ⟨rfl, c1⟩
  have hb1 := bld_keep (Lib.fresh_isBuilder 50 5 w) c1
  have b1 : Below w.heap.size w w1 := ((Below.refl w.heap.size w).alloc (Nat.le_refl _) _).trans (c1.mono (by simp))
  clear c1
  go_wp2_with fail
  refine (bwrite w.heap.size w.heap.size [] _ _ hb1 (by simp only [List.length_nil]; omega) b1.size).mono ?_
  rintro e w2 ⟨rfl, hat, c2, _⟩
  have h0 : AllRel cs w w2 0 := ⟨Or.inr (by rw [List.take_zero]; rw [List.nil_append] at hat; show Lib.BuilderAt _ _ _ _ _ (Lib.byteCells (Vint.put (cs.length : Nat) ++ [])) _; rw [List.append_nil]; exact hat), b1.trans c2, by rw [List.take_zero]; rfl⟩
  clear hat c2 b1 hb1
  go_wp2_with fail
  go_loopw [18] (fun i wr => ∃ k : Nat, k ≤ cs.length ∧ i = .int .i64 k ∧ AllRel cs w wr k) (fun i _ => cs.length - (intOf i).toNat)
  case atStart => exact ⟨0, Nat.zero_le _, rfl, h0⟩
  case round =>
    obtain ⟨k, hk, rfl, hbld, hbel, hok⟩ := hrel
    by_cases hlt : k < cs.length
    · obtain ⟨b, off, rfl, hbl, hcl⟩ := HCELL.out (by omega)
      obtain ⟨p0, p1, p2, p3, p4, p5, p6⟩ := (hcl k hlt).keep hbel hbl
      have hfc := HF.out cs[k] (List.getElem_mem hlt)
      have HFC := Lib.hid hfc
      have HCA := Lib.hid (catC_take cs k hlt)
      have HRS := rightAll_step cs k hlt
      rw [hok, Bool.true_and] at HRS
      have HNO := Lib.hid (fun (h : cs[k].right = false) => rightAll_no hlt h)
      have hcl2 := catC_len (cs.take k)
      have hcl3 : (cs.take k).length ≤ 1024 := by rw [List.length_take]; omega
      have hi1 : (0 : Int) ≤ (k : Int) := by omega
      have hi2 : (k : Int) < (cs.length : Int) := by omega
      clear hcl hfc
      generalize cs[k] = c at *
      have htl := text_len c
      have HB := Lib.hid hbld
      clear hbld
      go_wp2_with fail
      refine (cput_any c HFC.out _).mono ?_
      rintro e w3 ⟨rfl, c3⟩
      have b3 := (hbel.alloc hbel.size (.cells (ccells c) 29)).trans (c3.mono (by have := hbel.size; simp; omega))
      have HB3 := Lib.hid (bld_keep (bld_keep HB.out ((Below.refl _ _).alloc (Nat.le_refl _) (.cells (ccells c) 29))) c3)
      clear c3 hbel HB p0 p1 p2 p3 p4 p5 p6
      cases hr : c.right
      · have HE : Hid (c.err = 3) := Lib.hid (by unfold Cm.err; rw [hr]; rfl)
        have HAO : Hid (allOf cs = (⟨#[]⟩, 3)) := Lib.hid (by unfold allOf; rw [if_neg (by omega), HNO.out hr]; rfl)
        rw [HE.out]
        clear hr HRS
        go_wp2_with fail
        go_ret2
        exact ⟨by rw [HAO.out]; rfl, b3⟩
      · have HE : Hid (c.err = 0) := Lib.hid (by unfold Cm.err; rw [hr]; rfl)
        have HT : Hid (c.text = ⟨c.bytes.toArray⟩) := Lib.hid (by unfold Cm.text; rw [hr]; rfl)
        rw [hr] at HRS
        have HRS2 := Lib.hid HRS
        rw [HE.out]
        clear hr HRS
        go_wp2_with fail
        refine (bwrite w.heap.size w.heap.size _ _ _ HB3.out (by rw [Lib.byteCells_length, List.length_append]; omega) b3.size).mono ?_
        rintro e w4 ⟨rfl, hat, c4, _⟩
        rw [HT.out, cells_snoc, List.append_assoc, ← HCA.out] at hat
        have hrel2 : AllRel cs w w4 (k + 1) := ⟨Or.inr hat, b3.trans c4, HRS2.out⟩
        clear hat c4 b3 HB3
        go_wp2_with fail
        go_roundw
        case rel => exact ⟨k + 1, by omega, by go_num, hrel2⟩
        case measure => simp [intOf]; omega
    · rw [List.take_of_length_le (by omega)] at hbld hok
      have HAO : Hid (allOf cs = (⟨(Vint.put (cs.length : Nat) ++ catC cs).toArray⟩, 0)) := Lib.hid (by unfold allOf; rw [if_neg (by omega), if_pos hok])
      have HB := Lib.hid hbld
      clear hbld hok
      go_wp2_with fail
      refine (Tryd.Builder_String_any w.heap.size w.heap.size (Vint.put (cs.length : Nat) ++ catC cs) _ HB.out hbel.size).mono ?_
      rintro e w9 ⟨rfl, c9⟩
      go_wp2_with fail
      go_ret2
      exact ⟨by rw [HAO.out]; rfl, hbel.trans c9⟩
structure RAllRel (cs : List Cm) (w wr : World) (k : Nat) (sv : Value) : Prop where
  s : sv = .string ⟨(Vint.put (cs.length : Nat) ++ catC (cs.take k)).toArray⟩
  low : Below w.heap.size w wr
  ok : rightAll (cs.take k) = true
set_option maxHeartbeats 8000000 in
set_option maxRecDepth 100000 in
theorem refall_any (v : Value) (cs : List Cm) (w : World) (hv : Cms w v cs) (hf : FitAll cs) (hn : cs.length ≤ 1024) :
    Calls Tryd.prog 18 #[v] w fun e w' => e = .returned (.tuple #[.string (allOf cs).1, .int .i64 (allOf cs).2]) ∧ Below w.heap.size w w' := by
  obtain ⟨a, cap, rfl, hc1, hc2, hcell⟩ := hv
  unfold maxLen at hc2
  have HCELL := Lib.hid hcell
  have HF := Lib.hid hf
  clear hcell hf
  have hpl := put_len (cs.length : Nat)
  go_enter Tryd.func18, Tryd.ntmps18
  go_wp2_with fail
  refine (refput_any (cs.length : Nat) (by omega) (by omega) _).mono ?_
  rintro e w1 ⟨rfl, b1⟩
  have h0 : RAllRel cs w w1 0 (.string ⟨(Vint.put (cs.length : Nat)).toArray⟩) := ⟨by rw [List.take_zero]; simp [catC], b1, by rw [List.take_zero]; rfl⟩
  go_wp2_with fail
  go_loopw [4, 5] (fun s i wr => ∃ k : Nat, k ≤ cs.length ∧ i = .int .i64 k ∧ RAllRel cs w wr k s) (fun _ i _ => cs.length - (intOf i).toNat)
  case atStart => exact ⟨0, Nat.zero_le _, rfl, h0⟩
  case round =>
    obtain ⟨k, hk, rfl, rfl, hbel, hok⟩ := hrel
    by_cases hlt : k < cs.length
    · obtain ⟨b, off, rfl, hbl, hcl⟩ := HCELL.out (by omega)
      have HAT := Lib.hid (hcl k hlt)
      obtain ⟨p0, p1, p2, p3, p4, p5, p6⟩ := (hcl k hlt).keep hbel hbl
      have HFC := Lib.hid (HF.out cs[k] (List.getElem_mem hlt))
      have HCA := Lib.hid (catC_take cs k hlt)
      have HRS := rightAll_step cs k hlt
      rw [hok, Bool.true_and] at HRS
      have HNO := Lib.hid (fun (h : cs[k].right = false) => rightAll_no hlt h)
      have hcl2 := catC_len (cs.take k)
      have hcl3 : (cs.take k).length ≤ 1024 := by rw [List.length_take]; omega
      have hbs : (ByteArray.mk (Vint.put (cs.length : Nat) ++ catC (cs.take k)).toArray).size ≤ 100000 := by show (Vint.put (cs.length : Nat) ++ catC (cs.take k)).toArray.size ≤ 100000; rw [List.size_toArray, List.length_append]; omega
      have hi1 : (0 : Int) ≤ (k : Int) := by omega
      have hi2 : (k : Int) < (cs.length : Int) := by omega
      clear hcl
      generalize cs[k] = c at *
      go_wp2_with fail
      refine (low hbel (right_any c _)).mono ?_
      rintro e w3 ⟨rfl, b3⟩
      clear p0 p1 p2 p3 p4 p5 p6
      cases hr : c.right
      · have HAO : Hid (allOf cs = (⟨#[]⟩, 3)) := Lib.hid (by unfold allOf; rw [if_neg (by omega), HNO.out hr]; rfl)
        clear hr HRS
        go_wp2_with fail
        go_ret2
        exact ⟨by rw [HAO.out]; rfl, b3⟩
      · rw [hr] at HRS
        have HRS2 := Lib.hid HRS
        have HK : Hid ((hasOf c.kd).2 = true) := Lib.hid (by unfold Cm.right at hr; simp at hr; exact hr.1)
        have hbl2 : (ByteArray.mk c.bytes.toArray).size ≤ 70 := by show c.bytes.toArray.size ≤ 70; rw [List.size_toArray]; exact bytes_len c
        clear hr HRS
        obtain ⟨p0, p1, p2, p3, p4, p5, p6⟩ := HAT.out.keep b3 hbl
        go_wp2_with fail
        refine (low b3 (crefput_any c HFC.out HK.out _)).mono ?_
        rintro e w4 ⟨rfl, b4⟩
        clear p0 p1 p2 p3 p4 p5 p6
        go_wp2_with fail
        rw [cat_lists, List.append_assoc, ← HCA.out]
        go_roundw
        case rel => exact ⟨k + 1, by omega, by go_num, rfl, b4, HRS2.out⟩
        case measure => simp [intOf]; omega
    · rw [List.take_of_length_le (by omega)] at hok ⊢
      have HAO : Hid (allOf cs = (⟨(Vint.put (cs.length : Nat) ++ catC cs).toArray⟩, 0)) := Lib.hid (by unfold allOf; rw [if_neg (by omega), if_pos hok])
      clear hok
      go_wp2_with fail
      go_ret2
      exact ⟨by rw [HAO.out]; rfl, hbel⟩
end Go.Proofs.YtcdbnabbhlnigaaDoor
