/- SumTells holds for every input: the sums of package sum, from any sum on, in pieces and at once, are the reference's; no condition. -/
import Derived.Test.YtgffoepnkpkhaaaBase
import Derived.Test.YtgffoepnkpkhaaaSum
namespace Go.Proofs.Ytgffoepnkpkhaaa.sumTells
open Go.ChangeShapes Go.WideShapes Go.ChangeAt Go.RowKit
open Go.ChangeMaps (open_string shut_string)

theorem cat (a b : ByteArray) : (a ++ b).data.toList = a.data.toList ++ b.data.toList := by simp [ByteArray.data_append]
set_option maxHeartbeats 1000000 in
theorem walk (a0 : Int) (a1 a2 : ByteArray) (w0 : (Lit.int .u32 a0).wf = true) (w1 : a1.size ≤ maxLen) (w2 : a2.size ≤ maxLen) (w : World) :
    Calls Try.prog 4 #[.int .u32 a0, .string a1, .string a2] w fun e w' => e = .returned (.bool true) ∧ Below w.heap.size w w' := by
  have hb := bounds_u32 w0
  obtain ⟨n, rfl⟩ := Int.eq_ofNat_of_zero_le hb.1
  have hn : n < 4294967296 := by omega
  clear w0 hb
  by_cases hg : a1.size ≤ 300 ∧ a2.size ≤ 300
  · obtain ⟨hs, ht⟩ := hg
    go_enter Try.func4, Try.ntmps4
    go_wp2_with fail
    refine (refon_any 0 (by omega) a1 _ w1).mono ?_
    rintro e w' ⟨rfl, rfl⟩
    go_wp2_with fail
    refine (refon_any _ (Crc.on_lt _ _) a2 _ w2).mono ?_
    rintro e w' ⟨rfl, rfl⟩
    go_wp2_with fail
    refine (awake6_any _).mono ?_
    rintro e x1 ⟨rfl, b1⟩
    go_wp2_with fail
    refine (on_any n hn a1 _ w1).mono ?_
    rintro e x2 ⟨rfl, c2⟩
    have b2 := b1.trans (c2.mono b1.size)
    clear b1 c2 x1
    go_wp2_with fail
    refine (refon_any n hn a1 _ w1).mono ?_
    rintro e w' ⟨rfl, rfl⟩
    go_wp2_with fail
    refine (of_any a1 _ w1).mono ?_
    rintro e x3 ⟨rfl, c3⟩
    have b3 := b2.trans (c3.mono b2.size)
    clear b2 c3 x2
    go_wp2_with fail
    refine (refon_any 0 (by omega) a1 _ w1).mono ?_
    rintro e w' ⟨rfl, rfl⟩
    go_wp2_with fail
    refine (of_any (a1 ++ a2) _ (by unfold maxLen; rw [ByteArray.size_append]; omega)).mono ?_
    rintro e x4 ⟨rfl, c4⟩
    have b4 := b3.trans (c4.mono b3.size)
    clear b3 c4 x3
    rw [cat, Crc.on_append _ _ _ (by omega)]
    go_wp2_with fail
    have b5 : Below w.heap.size w (x4.alloc (Obj.cells #[Value.string a1, Value.string a2] 9)) := b4.alloc b4.size _
    refine (fold_two a1 a2 x4.heap.size _ w1 w2 (by simp) (by go_simp) (by go_simp)).mono ?_
    rintro e x6 ⟨rfl, c6⟩
    have b6 := b5.trans (c6.mono b5.size)
    clear b5 c6 b4
    go_wp2_with fail
    refine (of_any a1 _ w1).mono ?_
    rintro e x7 ⟨rfl, c7⟩
    have b7 := b6.trans (c7.mono b6.size)
    clear b6 c7
    go_wp2_with fail
    refine (on_any _ (Crc.on_lt _ _) a2 _ w2).mono ?_
    rintro e x8 ⟨rfl, c8⟩
    have b8 := b7.trans (c8.mono b7.size)
    clear b7 c8
    go_wp2_with fail
    go_ret
    exact ⟨rfl, b8⟩
  · by_cases hs : a1.size ≤ 300
    · have ht : ¬ a2.size ≤ 300 := fun h => hg ⟨hs, h⟩
      clear hg
      go_enter Try.func4, Try.ntmps4
      go_wp2_with fail
      refine (awake6_any _).mono ?_
      rintro e x1 ⟨rfl, b1⟩
      go_wp2_with fail
      go_ret
      exact ⟨rfl, b1⟩
    · clear hg
      go_enter Try.func4, Try.ntmps4
      go_wp2_with fail
      refine (awake6_any _).mono ?_
      rintro e x1 ⟨rfl, b1⟩
      go_wp2_with fail
      go_ret
      exact ⟨rfl, b1⟩

set_option maxRecDepth 100000 in
theorem lifted (os : Os) (started : os.Started) (H : Type) (enc : TypeId × Value → H) :
    ReturnsInHanded {} Try.checked os 4 .any (Rows.sumTellsSpec.pre6 enc Try.prog Try.f4 Rows.sumTellsRow.domain false) (Rows.sumTellsSpec.post enc Try.prog Try.f4 false true false false) := by
  refine returnsInHanded_of_change (C := Try.checked) own started (by kernel_rfl) Try.func4
    (ChangeSpec.witness6 (enc := enc) (C := Try.checked) false ⟨#[], #[.int .u32 0, .string ByteArray.empty, .string ByteArray.empty], []⟩ 8 (by kernel_rfl) (by kernel_rfl) (by kernel_rfl) (by kernel_rfl)) ?_
  intro W base args ds gs before hval0 hW hcnd _
  have hval : ∀ (j : Nat) t v, Try.f4.params[j]? = some t → args[j]? = some v → Value.okWide Try.prog W .any base t v := hval0
  have hW' := hW
  obtain ⟨p, q, hA0, hV, rfl, hfz, hnd⟩ := hW
  have hA : DataW.TrodAll enc Try.prog W 0 (fun _ => true) true Try.f4.params.toList args.toList ds p := hA0
  rw [Try.params4] at hA hval
  obtain ⟨v0, vs0, d0, ds0, p0, q0, hargs, rfl, rfl, h0, r0⟩ := trodAll_cons hA
  obtain ⟨v1, vs1, d1, ds1, p1, q1, rfl, rfl, rfl, h1, r1⟩ := trodAll_cons r0
  obtain ⟨v2, vs2, d2, ds2, p2, q2, rfl, rfl, rfl, h2, r2⟩ := trodAll_cons r1
  obtain ⟨rfl, rfl, rfl⟩ := trodAll_nil r2
  obtain rfl : args = #[v0, v1, v2] := by cases args; simp_all
  obtain ⟨rfl, rfl⟩ := trodVars_none hV
  obtain ⟨a0, rfl, rfl, rfl, w0⟩ := open_int Try.underlying25 (hval 0 25 v0 rfl rfl) h0
  obtain ⟨a1, rfl, rfl, rfl, w1⟩ := open_string Try.underlying9 (hval 1 9 v1 rfl rfl) h1
  obtain ⟨a2, rfl, rfl, rfl, w2⟩ := open_string Try.underlying9 (hval 2 9 v2 rfl rfl) h2
  clear hA0 hval0
  simp only [List.append_nil] at hW'
  refine (walk a0 a1 a2 w0 w1 w2 W).mono fun e W' ⟨he, hg⟩ => ?_
  subst he
  exact ⟨_, rfl, post_law (pa := []) (pv := []) hW' (fun _ _ _ => (trodAll_cons_mk (shut_bool Try.underlying4 _) trodAll_mk0)) (fun sp _ => (trodAll_cons_mk (shut_int Try.underlying25 w0) (trodAll_cons_mk (shut_string Try.underlying9 w1) (trodAll_cons_mk (shut_string Try.underlying9 w2) trodAll_mk0)))) (fun _ _ => rfl) rfl
    hg (ok_one (by kernel_rfl) rfl (okWide_bool_mk Try.underlying4 _))⟩

theorem over : Rows.sumTellsRow.holds Try.pinned (OpenSpec.ofChange Rows.sumTellsSpec) :=
  OpenClaim.holds_of_wide 4 Try.f4 rfl rfl rfl rfl rfl rfl rfl ⟨rfl, rfl, rfl, rfl, rfl⟩ rfl rfl rfl rfl rfl (by kernel_rfl) Try.func4 (by kernel_rfl)
    (of_decide_eq_true (by kernel_rfl)) (by unfold Func.isWrapper; first | (rw [if_pos (by decide +kernel)]; kernel_rfl) | (rw [if_neg (by decide +kernel)]; exact ⟨rfl, rfl⟩))
    (fun os started H enc _ => lifted os started H enc)

theorem proved : Rows.SumTellsSaid :=
  over
end Go.Proofs.Ytgffoepnkpkhaaa.sumTells
#print axioms Go.Proofs.Ytgffoepnkpkhaaa.sumTells.proved
