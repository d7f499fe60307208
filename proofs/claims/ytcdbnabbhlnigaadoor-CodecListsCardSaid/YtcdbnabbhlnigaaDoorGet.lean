/- The walks of codec.Get and of the reference's Get. -/
import Derived.Test.YtcdbnabbhlnigaaDoorRd3
namespace Go.Proofs.YtcdbnabbhlnigaaDoor
open Go.RowKit

/-- the command of bytes -/
def getOf (s : ByteArray) : Cm × Int :=
  if (rdC s 0).2.1 ≠ 0 then (zeroC, (rdC s 0).2.1) else if (rdC s 0).2.2.1.size ≠ 0 then (zeroC, 3) else ((rdC s 0).1, 0)
theorem get_bad {s : ByteArray} {c : Cm} {er : Int} {s' : ByteArray} {e' : Int} (h : rdC s 0 = (c, er, s', e')) (he : er ≠ 0) : getOf s = (zeroC, er) := by
  unfold getOf; rw [h]; dsimp only; rw [if_pos he]
theorem get_more {s : ByteArray} {c : Cm} {s' : ByteArray} {e' : Int} (h : rdC s 0 = (c, 0, s', e')) (hz : s'.size ≠ 0) : getOf s = (zeroC, 3) := by
  unfold getOf; rw [h]; dsimp only; rw [if_neg (by simp), if_pos hz]
theorem get_good {s : ByteArray} {c : Cm} {s' : ByteArray} {e' : Int} (h : rdC s 0 = (c, 0, s', e')) (hz : s'.size = 0) : getOf s = (c, 0) := by
  unfold getOf; rw [h]; dsimp only; rw [if_neg (by simp), if_neg (by simp [hz])]
theorem Put7.low {w0 w W : World} {g : Nat} {k : Cm} (h : Put7 w g k W) (hb : Below w0.heap.size w0 w) (hg : w0.heap.size ≤ g) : Below w0.heap.size w0 W := h.only.low hb hg
set_option maxHeartbeats 4000000 in
set_option maxRecDepth 100000 in
theorem get_any' (s : ByteArray) (hs : s.size ≤ 1000000000) (w : World) : Calls Tryd.prog 14 #[.string s] w fun e w' => e = .returned (.tuple #[cval (getOf s).1, .int .i64 (getOf s).2]) ∧ Below w.heap.size w w' := by
  obtain ⟨⟨c, er, s', e'⟩, hrd⟩ : ∃ r, rdC s 0 = r := ⟨_, rfl⟩
  have HRD := Lib.hid hrd
  have hcase : (er ≠ 0 ∧ getOf s = (zeroC, er)) ∨ (er = 0 ∧ e' = 0 ∧ s'.size ≠ 0 ∧ getOf s = (zeroC, 3)) ∨ (er = 0 ∧ e' = 0 ∧ s'.size = 0 ∧ getOf s = (c, 0)) := by
    by_cases he : er = 0
    · subst he
      have he' : e' = 0 := by
        rcases rd_cases s 0 with ⟨a, b, d, h1, h2⟩ | ⟨a, b, h1, _⟩
        · rw [hrd] at h1; simp at h1; exact absurd h1.2.1.symm h2
        · rw [hrd] at h1; simp at h1; exact h1.2.2
      by_cases hz : s'.size = 0
      · exact Or.inr (Or.inr ⟨rfl, he', hz, get_good hrd hz⟩)
      · exact Or.inr (Or.inl ⟨rfl, he', hz, get_more hrd hz⟩)
    · exact Or.inl ⟨he, get_bad hrd he⟩
  clear hrd
  have HC := Lib.hid hcase
  clear hcase
  go_enter Tryd.func14, Tryd.ntmps14
  go_wp2_with fail
  refine (new_any s _).mono ?_
  rintro e w1 ⟨rfl, rfl⟩
  have hR : Boxed ((w.alloc (.cells (ccells zeroC) 29)).alloc (.cells #[.string s, .int .i64 0] 78)) w.heap.size zeroC := (Boxed.new w zeroC).alloc _
  have hr : Rdr 78 ((w.alloc (.cells (ccells zeroC) 29)).alloc (.cells #[.string s, .int .i64 0] 78)) (w.heap.size + 1) s 0 := heap_alloc2_new _ _ _
  have b1 : Below w.heap.size w ((w.alloc (.cells (ccells zeroC) 29)).alloc (.cells #[.string s, .int .i64 0] 78)) := ((Below.refl _ _).alloc (Nat.le_refl _) _).alloc (by simp) _
  have hsz1 : (w.alloc (.cells #[.int .i64 0, .int .i64 0, .int .i64 0, .int .i64 0, .int .i64 0, .int .i64 0, .int .i64 0] 29)).heap.size = w.heap.size + 1 := by simp
  dsimp only [ccells, zeroC] at hR hr b1
  rw [hsz1]
  clear hsz1
  generalize ((w.alloc (.cells #[.int .i64 0, .int .i64 0, .int .i64 0, .int .i64 0, .int .i64 0, .int .i64 0, .int .i64 0] 29)).alloc (.cells #[.string s, .int .i64 0] 78)) = W1 at *
  go_wp2_with fail
  refine (rd_any (w.heap.size + 1) s 0 hs _ hr).mono ?_
  rintro e w2 ⟨rfl, hr2, ho2⟩
  rw [HRD.out] at hr2 ⊢
  dsimp only at hr2 ⊢
  have HR2 := Lib.hid (Boxed.far hR ho2 (by omega))
  have b2 := ho2.low b1 (by omega)
  clear ho2 b1 hR hr
  rcases HC.out with ⟨he, hg⟩ | ⟨rfl, rfl, hz, hg⟩ | ⟨rfl, rfl, hz, hg⟩
  · have hne : (er != 0) = true := by simpa using he
    have hne2 : (er == 0) = false := by simpa using he
    have HG := Lib.hid hg
    have HR3 := Lib.hid (Boxed.alloc HR2.out (.cells (ccells c) 29))
    have b3 := b2.alloc b2.size (.cells (ccells c) 29)
    clear he hg hr2
    go_wp2_with (refine store_cm rfl _ _ rfl rfl w.heap.size zeroC rfl rfl zeroC HR3.out ?_; intro W5 P5; obtain ⟨p0, p1, p2, p3, p4, p5, p6⟩ := P5.row.cells)
    refine bodyPost_ret (v := .tuple #[cval zeroC, .int .i64 er]) (by simp [results, Tryd.results14, go_sem, p0, p1, p2, p3, p4, p5, p6]) rfl ⟨?_, P5.low b3 (Nat.le_refl _)⟩
    rw [HG.out]
  · have HG := Lib.hid hg
    have HE : Hid (endOf s' 0 = 3) := Lib.hid (by unfold endOf; rw [if_neg (by simp [hz])])
    have HR3 := Lib.hid (Boxed.alloc HR2.out (.cells (ccells c) 29))
    have b3 := b2.alloc b2.size (.cells (ccells c) 29)
    have hr3 := Rdr.alloc hr2 (.cells (ccells c) 29)
    clear hg hz hr2
    go_wp2_with fail
    refine (end_any (w.heap.size + 1) s' 0 _ hr3).mono ?_
    rintro e w4 ⟨rfl, rfl⟩
    rw [HE.out]
    go_wp2_with (refine store_cm rfl _ _ rfl rfl w.heap.size zeroC rfl rfl zeroC HR3.out ?_; intro W5 P5; obtain ⟨p0, p1, p2, p3, p4, p5, p6⟩ := P5.row.cells)
    refine bodyPost_ret (v := .tuple #[cval zeroC, .int .i64 3]) (by simp [results, Tryd.results14, go_sem, p0, p1, p2, p3, p4, p5, p6]) rfl ⟨?_, P5.low b3 (Nat.le_refl _)⟩
    rw [HG.out]
  · have HG := Lib.hid hg
    have HE : Hid (endOf s' 0 = 0) := Lib.hid (by unfold endOf; rw [if_pos (Or.inr hz)])
    have HR3 := Lib.hid (Boxed.alloc HR2.out (.cells (ccells c) 29))
    have b3 := b2.alloc b2.size (.cells (ccells c) 29)
    have hr3 := Rdr.alloc hr2 (.cells (ccells c) 29)
    clear hg hz hr2
    go_wp2_with fail
    refine (end_any (w.heap.size + 1) s' 0 _ hr3).mono ?_
    rintro e w4 ⟨rfl, rfl⟩
    rw [HE.out]
    go_wp2_with (refine store_cm rfl _ _ rfl rfl w.heap.size c rfl rfl zeroC HR3.out ?_; intro W5 P5; obtain ⟨p0, p1, p2, p3, p4, p5, p6⟩ := P5.row.cells)
    refine bodyPost_ret (v := .tuple #[cval c, .int .i64 0]) (by simp [results, Tryd.results14, go_sem, p0, p1, p2, p3, p4, p5, p6]) rfl ⟨?_, P5.low b3 (Nat.le_refl _)⟩
    rw [HG.out]
set_option maxHeartbeats 4000000 in
set_option maxRecDepth 100000 in
theorem refget_any' (s : ByteArray) (hs : s.size ≤ 1000000000) (w : World) : Calls Tryd.prog 16 #[.string s] w fun e w' => e = .returned (.tuple #[cval (getOf s).1, .int .i64 (getOf s).2]) ∧ Below w.heap.size w w' := by
  obtain ⟨⟨c, er, s', e'⟩, hrd⟩ : ∃ r, rdC s 0 = r := ⟨_, rfl⟩
  have HRD := Lib.hid hrd
  have hcase : (er ≠ 0 ∧ getOf s = (zeroC, er)) ∨ (er = 0 ∧ e' = 0 ∧ s'.size ≠ 0 ∧ getOf s = (zeroC, 3)) ∨ (er = 0 ∧ e' = 0 ∧ s'.size = 0 ∧ getOf s = (c, 0)) := by
    by_cases he : er = 0
    · subst he
      have he' : e' = 0 := by
        rcases rd_cases s 0 with ⟨a, b, d, h1, h2⟩ | ⟨a, b, h1, _⟩
        · rw [hrd] at h1; simp at h1; exact absurd h1.2.1.symm h2
        · rw [hrd] at h1; simp at h1; exact h1.2.2
      by_cases hz : s'.size = 0
      · exact Or.inr (Or.inr ⟨rfl, he', hz, get_good hrd hz⟩)
      · exact Or.inr (Or.inl ⟨rfl, he', hz, get_more hrd hz⟩)
    · exact Or.inl ⟨he, get_bad hrd he⟩
  clear hrd
  have HC := Lib.hid hcase
  clear hcase
  have hR : Boxed ((w.alloc (.cells (ccells zeroC) 29)).alloc (.cells #[.string s, .int .i64 0] 70)) w.heap.size zeroC := (Boxed.new w zeroC).alloc _
  have hr : Rdr 70 ((w.alloc (.cells (ccells zeroC) 29)).alloc (.cells #[.string s, .int .i64 0] 70)) (w.heap.size + 1) s 0 := heap_alloc2_new _ _ _
  have b1 : Below w.heap.size w ((w.alloc (.cells (ccells zeroC) 29)).alloc (.cells #[.string s, .int .i64 0] 70)) := ((Below.refl _ _).alloc (Nat.le_refl _) _).alloc (by simp) _
  dsimp only [ccells, zeroC] at hR hr b1
  go_enter Tryd.func16, Tryd.ntmps16
  go_wp2_with fail
  generalize ((w.alloc (.cells #[.int .i64 0, .int .i64 0, .int .i64 0, .int .i64 0, .int .i64 0, .int .i64 0, .int .i64 0] 29)).alloc (.cells #[.string s, .int .i64 0] 70)) = W1 at *
  refine (rrd_any (w.heap.size + 1) s 0 hs _ hr).mono ?_
  rintro e w2 ⟨rfl, hr2, ho2⟩
  rw [HRD.out] at hr2 ⊢
  dsimp only at hr2 ⊢
  have HR2 := Lib.hid (Boxed.far hR ho2 (by omega))
  have b2 := ho2.low b1 (by omega)
  clear ho2 b1 hR hr
  have HR3 := Lib.hid (Boxed.alloc HR2.out (.cells (ccells c) 29))
  have b3 := b2.alloc b2.size (.cells (ccells c) 29)
  have hr3 := Rdr.alloc hr2 (.cells (ccells c) 29)
  clear hr2 b2 HR2
  rcases HC.out with ⟨he, hg⟩ | ⟨rfl, rfl, hz, hg⟩ | ⟨rfl, rfl, hz, hg⟩
  · have hne : (er != 0) = true := by simpa using he
    have HG := Lib.hid hg
    have HE : Hid (endOf s' er = er) := Lib.hid (by unfold endOf; rw [if_pos (Or.inl he)])
    clear he hg
    go_wp2_with fail
    refine (refend_any (w.heap.size + 1) s' er _ hr3).mono ?_
    rintro e w4 ⟨rfl, rfl⟩
    rw [HE.out]
    go_wp2_with (refine store_cm rfl _ _ rfl rfl w.heap.size zeroC rfl rfl zeroC HR3.out ?_; intro W5 P5; obtain ⟨p0, p1, p2, p3, p4, p5, p6⟩ := P5.row.cells)
    refine bodyPost_ret (v := .tuple #[cval zeroC, .int .i64 er]) (by simp [results, Tryd.results16, go_sem, p0, p1, p2, p3, p4, p5, p6]) rfl ⟨?_, P5.low b3 (Nat.le_refl _)⟩
    rw [HG.out]
  · have HG := Lib.hid hg
    have HE : Hid (endOf s' 0 = 3) := Lib.hid (by unfold endOf; rw [if_neg (by simp [hz])])
    clear hg hz
    go_wp2_with fail
    refine (refend_any (w.heap.size + 1) s' 0 _ hr3).mono ?_
    rintro e w4 ⟨rfl, rfl⟩
    rw [HE.out]
    go_wp2_with (refine store_cm rfl _ _ rfl rfl w.heap.size zeroC rfl rfl zeroC HR3.out ?_; intro W5 P5; obtain ⟨p0, p1, p2, p3, p4, p5, p6⟩ := P5.row.cells)
    refine bodyPost_ret (v := .tuple #[cval zeroC, .int .i64 3]) (by simp [results, Tryd.results16, go_sem, p0, p1, p2, p3, p4, p5, p6]) rfl ⟨?_, P5.low b3 (Nat.le_refl _)⟩
    rw [HG.out]
  · have HG := Lib.hid hg
    have HE : Hid (endOf s' 0 = 0) := Lib.hid (by unfold endOf; rw [if_pos (Or.inr hz)])
    clear hg hz
    go_wp2_with fail
    refine (refend_any (w.heap.size + 1) s' 0 _ hr3).mono ?_
    rintro e w4 ⟨rfl, rfl⟩
    rw [HE.out]
    go_wp2_with (refine store_cm rfl _ _ rfl rfl w.heap.size c rfl rfl zeroC HR3.out ?_; intro W5 P5; obtain ⟨p0, p1, p2, p3, p4, p5, p6⟩ := P5.row.cells)
    refine bodyPost_ret (v := .tuple #[cval c, .int .i64 0]) (by simp [results, Tryd.results16, go_sem, p0, p1, p2, p3, p4, p5, p6]) rfl ⟨?_, P5.low b3 (Nat.le_refl _)⟩
    rw [HG.out]
/-- what is got has just these bytes -/
theorem get_back (s : ByteArray) (h : (getOf s).2 = 0) : (getOf s).1.Fit ∧ (getOf s).1.right = true ∧ s = ⟨(getOf s).1.bytes.toArray⟩ := by
  rcases rd_cases s 0 with ⟨er, s', e', h1, h2⟩ | ⟨c, s', h1, _, h3, h4, h5⟩
  · rw [get_bad h1 h2] at h; exact absurd h h2
  · by_cases hz : s'.size = 0
    · rw [get_good h1 hz]
      refine ⟨h3, h4, ?_⟩
      have : s'.data.toList = [] := List.eq_nil_of_length_eq_zero (by rw [ba_len]; exact hz)
      rw [this, List.append_nil] at h5
      apply ba_list
      exact h5
    · rw [get_more h1 hz] at h; simp at h
theorem get_put (c : Cm) (hf : c.Fit) (hr : c.right = true) : getOf ⟨c.bytes.toArray⟩ = (c, 0) :=
  get_good (rd_put c hf hr ⟨c.bytes.toArray⟩ ⟨#[]⟩ (by simp)) rfl
theorem get_zero (s : ByteArray) (h : (getOf s).2 ≠ 0) : (getOf s).1 = zeroC := by
  unfold getOf at h ⊢
  split
  · rfl
  · split
    · rfl
    · rename_i h1 h2
      rw [if_neg h1, if_neg h2] at h
      simp at h
end Go.Proofs.YtcdbnabbhlnigaaDoor
