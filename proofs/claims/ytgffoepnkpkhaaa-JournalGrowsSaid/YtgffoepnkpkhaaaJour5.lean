/- journal.Mend once more: the slice that it returns is its own. -/
import Derived.Test.YtgffoepnkpkhaaaJour4
namespace Go.Proofs.Ytgffoepnkpkhaaa
open Go.RowKit

def MendOwn (x : Dk) (w : World) (e : Ending) (w' : World) : Prop :=
  ∃ v, e = .returned (.tuple #[dval x.mend.1, v, .int .i64 x.mend.2]) ∧ w'.ownsRow w.heap.size 9 1 v (if x.mend.2 = 0 then recs (Fr.all x.s.data.toList).1 else []).length (sv (if x.mend.2 = 0 then recs (Fr.all x.s.data.toList).1 else [])) ∧ Below w.heap.size w w'
set_option maxHeartbeats 4000000 in
set_option maxRecDepth 100000 in
theorem mend_own (x : Dk) (hx : x.Calm) (w : World) : Calls Try.prog 41 #[dval x] w (MendOwn x w) := by
  have HX := Lib.hid hx
  have hs1 := hx.s
  clear hx
  obtain ⟨⟨⟨s2, u2, f2, d2⟩, er⟩, hy⟩ : ∃ y, x.mend = y := ⟨_, rfl⟩
  have HY := Lib.hid hy
  have HZ : Hid (x.leave (Fr.all x.s.data.toList).2.1 = (⟨s2, u2, f2, d2⟩, er)) := Lib.hid hy
  clear hy
  obtain ⟨s, u, f, d⟩ := x
  dsimp only at hs1
  go_enter Try.func41, Try.ntmps41
  go_wp2_with fail
  refine (jready_ok ⟨s, u, f, d⟩ HX.out _).mono ?_
  rintro e w1 ⟨rfl, c1⟩
  have H0 := Lib.hid (show Held w1 w.heap.size ⟨s, u, f, d⟩ from Held.keep (heap_alloc2_old w _ _) c1)
  have H1 := Lib.hid (show Held w1 (w.heap.size + 1) ⟨⟨#[]⟩, ⟨#[]⟩, 0, false⟩ from Held.keep (heap_alloc2_new w _ _) c1)
  have b1 : Below w.heap.size w w1 := (((Below.refl w.heap.size w).alloc (Nat.le_refl _) _).alloc (by simp) _).trans (c1.mono (by simp; omega))
  clear c1
  obtain ⟨p0, p1, p2, p3⟩ := H0.out.cells
  go_wp2_with fail
  refine (read_any ⟨s, u, f, d⟩ hs1 _).mono ?_
  rintro e w2 ⟨v, rfl, sv2, c2⟩
  have H02 := Lib.hid (H0.out.keep c2)
  have H12 := Lib.hid (H1.out.keep c2)
  have hB := H1.out.lt
  have b2 := b1.trans (c2.mono b1.size)
  have SV2 := Lib.hid sv2
  clear c2 b1 H0 H1 p0 p1 p2 p3 sv2
  obtain ⟨p0, p1, p2, p3⟩ := H02.out.cells
  go_wp2_with fail
  refine (leave_any ⟨s, u, f, d⟩ HX.out.ok _ _).mono ?_
  rintro e w3 ⟨rfl, c3⟩
  rw [HZ.out]
  dsimp only
  have H03 := Lib.hid (H02.out.keep c3)
  have H13 := Lib.hid (H12.out.keep c3)
  have b3 := b2.trans (c3.mono b2.size)
  have SV3 := Lib.hid (own_keep SV2.out c3)
  clear c3 b2 H02 H12 p0 p1 p2 p3 SV2
  have hne1 : w.heap.size + 1 ≠ w.heap.size := by omega
  by_cases he : er = 0
  · obtain rfl := he
    go_wp2_with (first
      | (refine store_dk rfl _ _ rfl rfl w w.heap.size ⟨s2, u2, f2, d2⟩ rfl rfl _ H03.out rfl b3 (Nat.le_refl _) ?_; intro W4 P4; have H14 := Lib.hid (Held.far H13.out P4 hne1); have BL4 := Lib.hid P4; have SV4 := Lib.hid (own_far SV3.out P4 (by omega)); obtain ⟨q0, q1, q2, q3⟩ := Held.cells (Put4.held P4); clear P4)
      | (refine store_dk rfl _ _ rfl rfl w (w.heap.size + 1) ⟨s2, u2, f2, d2⟩ rfl rfl _ H14.out rfl BL4.out.low (by omega) ?_; intro W5 P5; obtain ⟨r0, r1, r2, r3⟩ := Held.cells (Put4.held P5)))
    refine bodyPost_ret (v := .tuple #[dval ⟨s2, u2, f2, d2⟩, v, .int .i64 0]) (by simp [results, Try.results41, go_sem, r0, r1, r2, r3]) rfl ⟨v, ?_, ?_, P5.low⟩
    · rw [HY.out]
    · rw [HY.out, if_pos rfl]
      exact own_mono (own_far SV4.out P5 (by omega)) (by omega)
  · have hne : (er != 0) = true := by simpa using he
    have HE := Lib.hid he
    clear he
    go_wp2_with (first
      | (refine store_dk rfl _ _ rfl rfl w w.heap.size ⟨s2, u2, f2, d2⟩ rfl rfl _ H03.out rfl b3 (Nat.le_refl _) ?_; intro W4 P4; have H14 := Lib.hid (Held.far H13.out P4 hne1); have BL4 := Lib.hid P4; have SV4 := Lib.hid (own_far SV3.out P4 (by omega)); obtain ⟨q0, q1, q2, q3⟩ := Held.cells (Put4.held P4); clear P4)
      | (refine store_dk rfl _ _ rfl rfl w (w.heap.size + 1) ⟨s2, u2, f2, d2⟩ rfl rfl _ H14.out rfl BL4.out.low (by omega) ?_; intro W5 P5; obtain ⟨r0, r1, r2, r3⟩ := Held.cells (Put4.held P5)))
    refine bodyPost_ret (v := .tuple #[dval ⟨s2, u2, f2, d2⟩, .slice none 0 0, .int .i64 er]) (by simp [results, Try.results41, go_sem, r0, r1, r2, r3]) rfl ⟨.slice none 0 0, ?_, ?_, P5.low⟩
    · rw [HY.out]
    · rw [HY.out, if_neg HE.out]
      exact ⟨rfl, Or.inl ⟨rfl, rfl⟩⟩
end Go.Proofs.Ytgffoepnkpkhaaa
