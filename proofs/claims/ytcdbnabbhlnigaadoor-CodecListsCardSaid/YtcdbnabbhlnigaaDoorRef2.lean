/- The walks of the reference's Right, Put. -/
import Derived.Test.YtcdbnabbhlnigaaDoorRef
namespace Go.Proofs.YtcdbnabbhlnigaaDoor
open Go.RowKit

theorem Boxed.free {W : World} {g : Nat} {c : Cm} (h : Boxed W g c) (i : Nat) : W.frozen? ⟨g, i, none⟩ = false := Lib.frozen_of_heap h i
theorem boxed_set {x : World} {g : Nat} {d k : Cm} (h : Boxed x g d) :
    Boxed (((((((x.setCell ⟨g, 0, none⟩ (.int .i64 k.kd)).setCell ⟨g, 1, none⟩ (.int .i64 k.id)).setCell ⟨g, 2, none⟩ (.int .i64 k.mb)).setCell ⟨g, 3, none⟩ (.int .i64 k.ot)).setCell ⟨g, 4, none⟩ (.int .i64 k.sc)).setCell ⟨g, 5, none⟩ (.int .i64 k.qt)).setCell ⟨g, 6, none⟩ (.int .i64 k.pr)) g k := by
  have h0 : (x.setCell ⟨g, 0, none⟩ (.int .i64 k.kd)).heap[g]? = some (.cells #[.int .i64 k.kd, .int .i64 d.id, .int .i64 d.mb, .int .i64 d.ot, .int .i64 d.sc, .int .i64 d.qt, .int .i64 d.pr] 29 (0, 0)) := heap_setCell_same _ g 0 _ 29 _ h
  generalize x.setCell ⟨g, 0, none⟩ (.int .i64 k.kd) = y0 at *
  have h1 : (y0.setCell ⟨g, 1, none⟩ (.int .i64 k.id)).heap[g]? = some (.cells #[.int .i64 k.kd, .int .i64 k.id, .int .i64 d.mb, .int .i64 d.ot, .int .i64 d.sc, .int .i64 d.qt, .int .i64 d.pr] 29 (0, 0)) := heap_setCell_same _ g 1 _ 29 _ h0
  generalize y0.setCell ⟨g, 1, none⟩ (.int .i64 k.id) = y1 at *
  have h2 : (y1.setCell ⟨g, 2, none⟩ (.int .i64 k.mb)).heap[g]? = some (.cells #[.int .i64 k.kd, .int .i64 k.id, .int .i64 k.mb, .int .i64 d.ot, .int .i64 d.sc, .int .i64 d.qt, .int .i64 d.pr] 29 (0, 0)) := heap_setCell_same _ g 2 _ 29 _ h1
  generalize y1.setCell ⟨g, 2, none⟩ (.int .i64 k.mb) = y2 at *
  have h3 : (y2.setCell ⟨g, 3, none⟩ (.int .i64 k.ot)).heap[g]? = some (.cells #[.int .i64 k.kd, .int .i64 k.id, .int .i64 k.mb, .int .i64 k.ot, .int .i64 d.sc, .int .i64 d.qt, .int .i64 d.pr] 29 (0, 0)) := heap_setCell_same _ g 3 _ 29 _ h2
  generalize y2.setCell ⟨g, 3, none⟩ (.int .i64 k.ot) = y3 at *
  have h4 : (y3.setCell ⟨g, 4, none⟩ (.int .i64 k.sc)).heap[g]? = some (.cells #[.int .i64 k.kd, .int .i64 k.id, .int .i64 k.mb, .int .i64 k.ot, .int .i64 k.sc, .int .i64 d.qt, .int .i64 d.pr] 29 (0, 0)) := heap_setCell_same _ g 4 _ 29 _ h3
  generalize y3.setCell ⟨g, 4, none⟩ (.int .i64 k.sc) = y4 at *
  have h5 : (y4.setCell ⟨g, 5, none⟩ (.int .i64 k.qt)).heap[g]? = some (.cells #[.int .i64 k.kd, .int .i64 k.id, .int .i64 k.mb, .int .i64 k.ot, .int .i64 k.sc, .int .i64 k.qt, .int .i64 d.pr] 29 (0, 0)) := heap_setCell_same _ g 5 _ 29 _ h4
  generalize y4.setCell ⟨g, 5, none⟩ (.int .i64 k.qt) = y5 at *
  exact heap_setCell_same _ g 6 _ 29 _ h5
theorem below_set {w x : World} {g : Nat} {k : Cm} (h : Below w.heap.size w x) (hg : w.heap.size ≤ g) :
    Below w.heap.size w (((((((x.setCell ⟨g, 0, none⟩ (.int .i64 k.kd)).setCell ⟨g, 1, none⟩ (.int .i64 k.id)).setCell ⟨g, 2, none⟩ (.int .i64 k.mb)).setCell ⟨g, 3, none⟩ (.int .i64 k.ot)).setCell ⟨g, 4, none⟩ (.int .i64 k.sc)).setCell ⟨g, 5, none⟩ (.int .i64 k.qt)).setCell ⟨g, 6, none⟩ (.int .i64 k.pr)) :=
  ((((((h.setCell (p := ⟨g, 0, none⟩) hg _).setCell (p := ⟨g, 1, none⟩) hg _).setCell (p := ⟨g, 2, none⟩) hg _).setCell (p := ⟨g, 3, none⟩) hg _).setCell (p := ⟨g, 4, none⟩) hg _).setCell (p := ⟨g, 5, none⟩) hg _).setCell (p := ⟨g, 6, none⟩) hg _
theorem take_snoc (s : ByteArray) (k : Nat) (h : k < s.size) : s.data.toList.take (k + 1) = s.data.toList.take k ++ [s[k]] := by
  rw [List.take_succ_eq_append_getElem (by simpa using h)]; rfl
theorem mem_at (s : ByteArray) (k : Nat) (h : k < s.size) : s[k] ∈ s.data.toList := by
  have : s.data.toList[k]'(by simpa using h) = s[k] := rfl
  rw [← this]
  exact List.getElem_mem _
theorem strNe {x y : ByteArray} (h : x ≠ y) : (x.toList == y.toList) = false := by
  rw [beq_eq_false_iff_ne]
  intro e
  rw [ByteArray.toList_eq, ByteArray.toList_eq] at e
  exact h (ByteArray.ext (Array.toList_inj.mp e))
def restOf (c : Cm) (L : List UInt8) : Cm := L.foldl (fun r l => setL r l 0) { c with kd := 0 }
theorem restOf_snoc (c : Cm) (L : List UInt8) (l : UInt8) : restOf c (L ++ [l]) = setL (restOf c L) l 0 := by unfold restOf; rw [List.foldl_append]; rfl
def RightRel (c : Cm) (L : ByteArray) (w wr : World) (g k : Nat) : Prop := Boxed wr g (restOf c (L.data.toList.take k)) ∧ Below w.heap.size w wr
theorem eq_zero (r : Cm) : (decide (r = zeroC)) = (r.kd == 0 && r.id == 0 && r.mb == 0 && r.ot == 0 && r.sc == 0 && r.qt == 0 && r.pr == 0) := by
  obtain ⟨a, b, c, d, e, f, g⟩ := r
  rw [Bool.eq_iff_iff]
  simp [zeroC, and_assoc]
set_option maxHeartbeats 4000000 in
set_option maxRecDepth 100000 in
theorem right_any (c : Cm) (w : World) : Calls Tryd.prog 12 #[cval c] w fun e w' => e = .returned (.bool c.right) ∧ Below w.heap.size w w' := by
  by_cases hk : (hasOf c.kd).2 = true
  · have hlet : letB c.kd ≠ ⟨#[63]⟩ := by
      intro e
      have : lettersOf c.kd = [63] := by rw [← letB_list, e]
      exact letters_some c.kd hk this
    have hne := strNe hlet
    have hne2 : ((letB c.kd).toList == [63]) = false := by rw [show (ByteArray.mk #[63]).toList = [63] from by rw [ByteArray.toList_eq]] at hne; exact hne
    have HG : Hid (∀ l ∈ (letB c.kd).data.toList, good l) := Lib.hid (letters_good c.kd hk).1
    have HR : Hid (c.right = decide (restOf c (letB c.kd).data.toList = zeroC)) := Lib.hid (right_letters c hk)
    have hsz : (letB c.kd).size ≤ 6 := by
      rcases kinds c.kd hk with h | h | h | h | h | h | h | h | h | h <;> (rw [h]; decide)
    obtain ⟨kd, id, mb, ot, sc, qt, pr⟩ := c
    clear hlet hk
    dsimp only at hne hne2 HG HR hsz
    go_enter Tryd.func12, Tryd.ntmps12
    go_wp2_with fail
    refine (hasL_any kd _).mono ?_
    rintro e w1 ⟨rfl, c1⟩
    have hx1 : Boxed w1 w.heap.size ⟨kd, id, mb, ot, sc, qt, pr⟩ := (Boxed.new w _).keep c1
    have b1 : Below w.heap.size w w1 := ((Below.refl w.heap.size w).alloc (Nat.le_refl _) _).trans (c1.mono (by simp))
    clear c1
    obtain ⟨p0, p1, p2, p3, p4, p5, p6⟩ := hx1.cells
    generalize letB kd = L at *
    go_wp2_with fail
    have h0 : RightRel ⟨kd, id, mb, ot, sc, qt, pr⟩ L w (w1.alloc (.cells #[.int .i64 0, .int .i64 id, .int .i64 mb, .int .i64 ot, .int .i64 sc, .int .i64 qt, .int .i64 pr] 29)) w1.heap.size 0 :=
      ⟨heap_alloc_new _ _, b1.alloc b1.size _⟩
    have hg1 : w.heap.size ≤ w1.heap.size := b1.size
    clear hx1 b1 p0 p1 p2 p3 p4 p5 p6
    generalize (w1.alloc (.cells #[.int .i64 0, .int .i64 id, .int .i64 mb, .int .i64 ot, .int .i64 sc, .int .i64 qt, .int .i64 pr] 29)) = W2 at *
    generalize w1.heap.size = g at *
    go_loopw [5] (fun i wr => ∃ k : Nat, k ≤ L.size ∧ i = .int .i64 k ∧ RightRel ⟨kd, id, mb, ot, sc, qt, pr⟩ L w wr g k) (fun i _ => L.size - (intOf i).toNat)
    case atStart => exact ⟨0, Nat.zero_le _, rfl, h0⟩
    case round =>
      obtain ⟨k, hk, rfl, hbx, hbel⟩ := hrel
      by_cases hlt : k < L.size
      · have hgl : good L[k] := HG.out _ (mem_at L k hlt)
        have HGL := Lib.hid hgl
        have HS : Hid (restOf ⟨kd, id, mb, ot, sc, qt, pr⟩ (L.data.toList.take (k + 1)) = setL (restOf ⟨kd, id, mb, ot, sc, qt, pr⟩ (L.data.toList.take k)) L[k] 0) := Lib.hid (by rw [take_snoc L k hlt, restOf_snoc])
        clear hgl
        generalize restOf ⟨kd, id, mb, ot, sc, qt, pr⟩ (L.data.toList.take k) = r at *
        have HBX := Lib.hid hbx
        obtain ⟨p0, p1, p2, p3, p4, p5, p6⟩ := hbx.cells
        clear hbx
        have hi1 : (0 : Int) ≤ (k : Int) := by omega
        have hi2 : (k : Int) < (L.size : Int) := by omega
        go_wp2_with fail
        go_region_with ((go_at_call 28; refine (with_any r L[k] HGL.out 0 _).mono ?_; rintro e x1 ⟨rfl, c1⟩; have HH := Lib.hid (Boxed.keep (W := wr.drew) HBX.out c1); obtain ⟨e0, e1, e2, e3, e4, e5, e6⟩ := HH.out.cells; have f0 := HH.out.free 0; have f1 := HH.out.free 1; have f2 := HH.out.free 2; have f3 := HH.out.free 3; have f4 := HH.out.free 4; have f5 := HH.out.free 5; have f6 := HH.out.free 6))
        all_goals
          have B2 := below_set (k := setL r L[k] 0) (g := g) (hbel.drew.trans (c1.mono hbel.drew.size)) hg1
          have HH2 := Lib.hid (boxed_set (k := setL r L[k] 0) HH.out)
          clear c1 HH e0 e1 e2 e3 e4 e5 e6 f0 f1 f2 f3 f4 f5 f6 p0 p1 p2 p3 p4 p5 p6 hbel HBX
          generalize setL r L[k] 0 = d2 at *
          generalize (((((((x1.setCell ⟨g, 0, none⟩ (.int .i64 d2.kd)).setCell ⟨g, 1, none⟩ (.int .i64 d2.id)).setCell ⟨g, 2, none⟩ (.int .i64 d2.mb)).setCell ⟨g, 3, none⟩ (.int .i64 d2.ot)).setCell ⟨g, 4, none⟩ (.int .i64 d2.sc)).setCell ⟨g, 5, none⟩ (.int .i64 d2.qt)).setCell ⟨g, 6, none⟩ (.int .i64 d2.pr)) = W3 at *
          go_wp2_with fail
          go_roundw
          case rel => exact ⟨k + 1, by omega, by go_num, by rw [HS.out]; exact HH2.out, B2⟩
          case measure => simp [intOf]; omega
      · rw [List.take_of_length_le (by rw [ba_len]; omega)] at hbx
        rw [eq_zero] at HR
        generalize restOf ⟨kd, id, mb, ot, sc, qt, pr⟩ L.data.toList = r at *
        obtain ⟨p0, p1, p2, p3, p4, p5, p6⟩ := hbx.cells
        clear hbx
        go_wp2_with fail
        all_goals (go_ret; exact ⟨by rw [HR.out]; simp [*], hbel⟩)
  · have hk2 : (hasOf c.kd).2 = false := by simpa using hk
    have HL : Hid (letB c.kd = ⟨#[63]⟩) := Lib.hid (by unfold letB; rw [letters_none c.kd hk2])
    have HR : Hid (c.right = false) := Lib.hid (by unfold Cm.right; rw [hk2]; rfl)
    clear hk hk2
    rw [HR.out]
    go_enter Tryd.func12, Tryd.ntmps12
    go_wp2_with fail
    refine (hasL_any c.kd _).mono ?_
    rintro e w1 ⟨rfl, c1⟩
    rw [HL.out]
    go_wp2_with fail
    go_ret
    exact ⟨rfl, ((Below.refl w.heap.size w).alloc (Nat.le_refl _) _).trans (c1.mono (by simp))⟩
/-- the bytes of the first letters -/
def bytesL (c : Cm) (L : List UInt8) : List UInt8 := Vint.put c.kd ++ (L.map fun l => Vint.put (valL c l)).flatten
theorem bytesL_snoc (c : Cm) (L : List UInt8) (l : UInt8) : bytesL c (L ++ [l]) = bytesL c L ++ Vint.put (valL c l) := by unfold bytesL; simp
theorem bytesL_len (c : Cm) (L : List UInt8) : (bytesL c L).length ≤ 10 + 10 * L.length := by
  unfold bytesL
  rw [List.length_append]
  have h1 := put_len c.kd
  have h2 : ((L.map fun l => Vint.put (valL c l)).flatten).length ≤ 10 * L.length := by
    induction L with
    | nil => simp
    | cons l L ih =>
      have := put_len (valL c l)
      simp only [List.map_cons, List.flatten_cons, List.length_append, List.length_cons]
      omega
  omega
theorem fit_val {c : Cm} (h : c.Fit) (l : UInt8) : In64 (valL c l) := by
  unfold valL
  repeat' split
  · exact h.id
  · exact h.mb
  · exact h.ot
  · exact h.sc
  · exact h.qt
  · exact h.pr
def RPutRel (c : Cm) (L : ByteArray) (w wr : World) (k : Nat) (sv : Value) : Prop := sv = .string ⟨(bytesL c (L.data.toList.take k)).toArray⟩ ∧ Boxed wr w.heap.size c ∧ Below w.heap.size w wr
set_option maxHeartbeats 4000000 in
set_option maxRecDepth 100000 in
theorem crefput_any (c : Cm) (hc : c.Fit) (hk : (hasOf c.kd).2 = true) (w : World) : Calls Tryd.prog 15 #[cval c] w fun e w' => e = .returned (.string ⟨c.bytes.toArray⟩) ∧ Below w.heap.size w w' := by
  have HG : Hid (∀ l ∈ (letB c.kd).data.toList, good l) := Lib.hid (letters_good c.kd hk).1
  have HB : Hid (c.bytes = bytesL c (letB c.kd).data.toList) := Lib.hid (bytes_letters c hk)
  have hsz : (letB c.kd).size ≤ 6 := by
    rcases kinds c.kd hk with h | h | h | h | h | h | h | h | h | h <;> (rw [h]; decide)
  have HC := Lib.hid hc
  obtain ⟨k1, k2⟩ := hc.kd
  clear hk hc
  go_enter Tryd.func15, Tryd.ntmps15
  go_wp2_with fail
  refine (refput_any c.kd k1 k2 _).mono ?_
  rintro e w1 ⟨rfl, c1⟩
  have hx1 : Boxed w1 w.heap.size c := (Boxed.new w _).keep c1
  have b1 : Below w.heap.size w w1 := ((Below.refl w.heap.size w).alloc (Nat.le_refl _) _).trans (c1.mono (by simp))
  clear c1
  obtain ⟨p0, p1, p2, p3, p4, p5, p6⟩ := hx1.cells
  go_wp2_with fail
  refine (hasL_any c.kd _).mono ?_
  rintro e w2 ⟨rfl, c2⟩
  have h0 : RPutRel c (letB c.kd) w w2 0 (.string ⟨(Vint.put c.kd).toArray⟩) := ⟨by rw [List.take_zero]; unfold bytesL; simp, hx1.keep c2, b1.trans (c2.mono b1.size)⟩
  clear c2 hx1 b1 p0 p1 p2 p3 p4 p5 p6
  generalize letB c.kd = L at *
  go_wp2_with fail
  go_loopw [3, 5] (fun s i wr => ∃ k : Nat, k ≤ L.size ∧ i = .int .i64 k ∧ RPutRel c L w wr k s) (fun _ i _ => L.size - (intOf i).toNat)
  case atStart => exact ⟨0, Nat.zero_le _, rfl, h0⟩
  case round =>
    obtain ⟨k, hk, rfl, rfl, hbx, hbel⟩ := hrel
    by_cases hlt : k < L.size
    · have hgl : good L[k] := HG.out _ (mem_at L k hlt)
      have HGL := Lib.hid hgl
      have HS : Hid (bytesL c (L.data.toList.take (k + 1)) = bytesL c (L.data.toList.take k) ++ Vint.put (valL c L[k])) := Lib.hid (by rw [take_snoc L k hlt, bytesL_snoc])
      have hbl := bytesL_len c (L.data.toList.take k)
      have htl : (L.data.toList.take k).length ≤ k := List.length_take_le _ _
      have hbs : (ByteArray.mk (bytesL c (L.data.toList.take k)).toArray).size ≤ 100 := by show (bytesL c (L.data.toList.take k)).toArray.size ≤ 100; rw [List.size_toArray]; omega
      have hps := put_size (valL c L[k])
      obtain ⟨v1, v2⟩ := fit_val HC.out L[k]
      clear hgl
      have HBX := Lib.hid hbx
      obtain ⟨p0, p1, p2, p3, p4, p5, p6⟩ := hbx.cells
      clear hbx
      have hi1 : (0 : Int) ≤ (k : Int) := by omega
      have hi2 : (k : Int) < (L.size : Int) := by omega
      have hpl := put_len (valL c L[k])
      have hsum : ¬ (9223372036854775807 < (bytesL c (L.data.toList.take k)).length + (Vint.put (valL c L[k])).length) := by omega
      generalize bytesL c (L.data.toList.take k) = bb at *
      go_wp2_with fail
      go_region_held3 (fun W => (Below w.heap.size w W ∧ Boxed W w.heap.size c) ∧ W.cell? ⟨w.heap.size, 0, none⟩ = some (.int .i64 c.kd) ∧ W.cell? ⟨w.heap.size, 1, none⟩ = some (.int .i64 c.id) ∧ W.cell? ⟨w.heap.size, 2, none⟩ = some (.int .i64 c.mb) ∧ W.cell? ⟨w.heap.size, 3, none⟩ = some (.int .i64 c.ot) ∧ W.cell? ⟨w.heap.size, 4, none⟩ = some (.int .i64 c.sc) ∧ W.cell? ⟨w.heap.size, 5, none⟩ = some (.int .i64 c.qt) ∧ W.cell? ⟨w.heap.size, 6, none⟩ = some (.int .i64 c.pr))
        (first | exact ⟨⟨hbel.drew, HBX.out⟩, p0, p1, p2, p3, p4, p5, p6⟩ | exact (by assumption) | exact ⟨(by assumption), Boxed.cells (And.right (by assumption))⟩)
        (first | (go_at_call 33; refine (value_any c L[k] HGL.out _).mono ?_; rintro e x1 ⟨rfl, c1⟩; have q1 : Below w.heap.size w x1 ∧ Boxed x1 w.heap.size c := ⟨hbel.drew.trans (c1.mono hbel.drew.size), Boxed.keep (W := wr.drew) HBX.out c1⟩; have q2 := q1.2.cells; have q3 := And.intro q1 q2) | (go_at_call 32; refine (refput_any (valL c L[k]) v1 v2 _).mono ?_; rintro e x2 ⟨rfl, c2⟩; have q4 : Below w.heap.size w x2 ∧ Boxed x2 w.heap.size c := ⟨q1.1.trans (c2.mono q1.1.size), q1.2.keep c2⟩; have q5 := And.intro q4 q4.2.cells))
      clear q1 q2 q3 q5 c1 c2
      rw [cat_lists, ← HS.out]
      go_wp2_with fail
      go_roundw
      case rel => exact ⟨k + 1, by omega, by go_num, rfl, q4.2, q4.1⟩
      case measure => simp [intOf]; omega
    · rw [List.take_of_length_le (by rw [ba_len]; omega)]
      clear hbx
      go_wp2_with fail
      go_ret
      exact ⟨by rw [HB.out]; rfl, hbel⟩
end Go.Proofs.YtcdbnabbhlnigaaDoor
