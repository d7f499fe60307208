/- The walks of the reference's Scan and Same. -/
import Derived.Test.YtgffoepnkpkhaaaFrame6
namespace Go.Proofs.Ytgffoepnkpkhaaa
open Go.RowKit

set_option maxHeartbeats 4000000 in
set_option maxRecDepth 100000 in
theorem refscan_any (s : ByteArray) (hs : s.size ≤ 1000000) (w : World) : Calls Try.prog 38 #[.string s] w (ScanPost s w) := by
  have hlen : s.data.toList.length = s.size := by simp
  have HLEN := Lib.hid hlen
  clear hlen
  obtain ⟨i0, hi, hz0, hz1, hz2⟩ := info_parts infoS
  go_enter Try.func38, Try.ntmps38
  go_wp2
  go_loopw [5, 6] (fun v uv wr => ScanRel s w wr v uv) (fun _ uv _ => s.size - (intOf uv).toNat)
  case atStart => exact ⟨[], 0, Nat.zero_le _, rfl, Nat.le_refl _, ⟨rfl, Or.inl ⟨rfl, rfl⟩⟩, Below.refl _ _, by simp, by simp, by simp⟩
  case round =>
    obtain ⟨rs, u, hu, rfl, hru, hown, hbel, e1, e2, e3⟩ := hrel
    by_cases hlt : u < s.size
    · have hsx : (s.extract u s.size).size ≤ 1000000000000 := by rw [ByteArray.size_extract]; omega
      by_cases he : Fr.err (s.data.toList.drop u) = 0
      · obtain ⟨m, r, q, ST⟩ := scan_step s rs u hlt he e1 e2 e3
        have hum := ST.fits
        have hm8 := ST.eight
        have hqr := ST.len
        have HSUB := Lib.hid (show (u : Int) + 8 + (r.size : Int) = ((u + m : Nat) : Int) by omega)
        have hqs : r.size ≤ s.size := by omega
        clear e1 e2 e3 he hqr
        go_wp2_with fail
        refine (refnext_any (s.extract u s.size) hsx _).mono ?_
        rintro e w1 ⟨rfl, c1⟩
        rw [ST.next]
        dsimp only
        have b1 := hbel.trans (c1.mono hbel.size)
        have hown1 : w1.ownsRow w.heap.size 9 1 u5 rs.length (sv rs) := own_keep hown c1
        clear hown hbel c1
        have hlr : rs.length ≤ 1000000 := by omega
        go_wp2_with (at_builtin; refine wpList_append_own _ rfl _ _ 54 rfl w.heap.size 9 i0 (.string ⟨#[]⟩) 1 16 Try.underlying54 hi hz0 hz1 hz2 rfl (by decide) _ _ _ rfl (hown1.alloc _) ⟨w1.heap.size, 0, none⟩ 1 1 [.string r] rfl rfl ?c1 ?c2 ?c3 ?c4 ?c5 ?_)
        case c1 => exact one_new w1 _ _
        case c2 => intro u hu; simp at hu; subst hu; rfl
        case c3 => unfold maxLen; omega
        case c4 => omega
        case c5 => have := b1.size; simp; omega
        intro v' w2 hown' hgrow _
        have hb2 : Below w.heap.size w w2 := (b1.alloc b1.size _).grown hgrow (by have := b1.size; simp; omega) (own_from hown1)
        have hown2 : w2.ownsRow w.heap.size 9 1 v' (rs ++ [r]).length (sv (rs ++ [r])) := by rw [sv_append]; simpa [sv] using hown'
        clear hown1 hown' hgrow b1
        go_wp2
        go_roundw
        case rel => exact ⟨rs ++ [r], u + m, hum, by rw [HSUB.out], by simp; omega, hown2, hb2, ST.e1, ST.e2, ST.e3⟩
        case measure => have := HSUB.out; simp [intOf]; omega
      · have hne0 : (s.data.toList.drop u).length ≠ 0 := by rw [List.length_drop, HLEN.out]; omega
        have hall := Fr.all_err _ hne0 he
        rw [hall] at e1 e2 e3
        dsimp only at e1 e2 e3
        have HFN := Lib.hid (fn_err (s.extract u s.size) (Fr.err (s.data.toList.drop u)) (by rw [list_drop]) he)
        have hne : (Fr.err (s.data.toList.drop u) != 0) = true := by simpa using he
        have HE1 := Lib.hid (show recs (Fr.all s.data.toList).1 = rs by rw [e1]; simp [recs])
        have HE2 := Lib.hid e2
        have HE3 := Lib.hid e3
        generalize Fr.err (s.data.toList.drop u) = er at *
        clear e1 e2 e3 hall he hne0
        go_wp2_with fail
        refine (refnext_any (s.extract u s.size) hsx _).mono ?_
        rintro e w1 ⟨rfl, c1⟩
        rw [HFN.out]
        dsimp only
        have b1 := hbel.trans (c1.mono hbel.size)
        have hown1 : w1.ownsRow w.heap.size 9 1 u5 rs.length (sv rs) := own_keep hown c1
        clear hown hbel c1
        go_wp2
        go_ret3
        refine ⟨u5, ?_, by rw [HE1.out]; exact Strs.own hown1, b1⟩
        rw [HE2.out, HE3.out]
        rfl
    · have hnil : (s.data.toList.drop u).length = 0 := by rw [List.length_drop, HLEN.out]; omega
      have hall := Fr.all_nil _ hnil
      rw [hall] at e1 e2 e3
      dsimp only at e1 e2 e3
      have HE1 := Lib.hid (show recs (Fr.all s.data.toList).1 = rs by rw [e1]; simp [recs])
      have HE2 := Lib.hid e2
      have HE3 := Lib.hid e3
      clear e1 e2 e3 hall hnil
      go_wp2
      go_ret3
      refine ⟨u5, ?_, by rw [HE1.out]; exact Strs.own hown, hbel⟩
      rw [HE2.out, HE3.out]
      rfl
theorem str_ne {x y : ByteArray} (h : x ≠ y) : (x.toList == y.toList) = false := by
  rw [beq_eq_false_iff_ne]
  intro e
  rw [ByteArray.toList_eq, ByteArray.toList_eq] at e
  exact h (ByteArray.ext (Array.toList_inj.mp e))
theorem below_drewN {n : Nat} {w w' : World} (h : Below n w w') (k : Nat) : Below n w (w'.drewN k) := by
  exact ⟨h.1, h.2, h.3, h.4, h.5⟩
theorem same_ne {l m : List ByteArray} (h : l.length ≠ m.length) : decide (l = m) = false := by
  simp only [decide_eq_false_iff_not]; rintro rfl; exact h rfl
theorem same_at {l m : List ByteArray} (k : Nat) (h1 : k < l.length) (h2 : k < m.length) (h : l[k] ≠ m[k]) : decide (l = m) = false := by
  simp only [decide_eq_false_iff_not]; rintro rfl; exact h rfl
theorem same_step {l m : List ByteArray} (k : Nat) (h1 : k < l.length) (h2 : k < m.length) (ht : l.take k = m.take k) (h : l[k] = m[k]) : l.take (k + 1) = m.take (k + 1) := by
  rw [List.take_succ_eq_append_getElem h1, List.take_succ_eq_append_getElem h2, ht, h]
theorem same_all {l m : List ByteArray} (k : Nat) (h1 : ¬ k < l.length) (hl : l.length = m.length) (ht : l.take k = m.take k) : decide (l = m) = true := by
  rw [List.take_of_length_le (by omega), List.take_of_length_le (by omega)] at ht
  simpa using ht
set_option maxHeartbeats 1000000 in
set_option maxRecDepth 100000 in
theorem same_any (v1 v2 : Value) (l m : List ByteArray) (w : World) (h1 : Strs w v1 l) (h2 : Strs w v2 m) :
    Calls Try.prog 39 #[v1, v2] w fun e w' => e = .returned (.bool (decide (l = m))) ∧ Below w.heap.size w w' := by
  obtain ⟨a, ca, rfl, ha1, ha2, hca⟩ := h1
  obtain ⟨b, cb, rfl, hb1, hb2, hcb⟩ := h2
  unfold maxLen at ha2 hb2
  have HCA := Lib.hid hca
  have HCB := Lib.hid hcb
  clear hca hcb
  by_cases hl : l.length = m.length
  · have HL := Lib.hid hl
    have hne : ((l.length : Int) != (m.length : Int)) = false := by simp [hl]
    clear hl
    go_enter Try.func39, Try.ntmps39
    go_wp2
    go_loopw [5] (fun i wr => ∃ k : Nat, k ≤ l.length ∧ i = .int .i64 k ∧ l.take k = m.take k ∧ Below w.heap.size w wr) (fun i _ => l.length - (intOf i).toNat)
    case atStart => exact ⟨0, Nat.zero_le _, rfl, rfl, Below.refl _ _⟩
    case round =>
      obtain ⟨k, hk, rfl, ht, hbel⟩ := hrel
      have HT := Lib.hid ht
      clear ht
      by_cases hlt : k < l.length
      · have hlt2 : k < m.length := by have := HL.out; omega
        obtain ⟨g, off, rfl, hg, hc⟩ := HCA.out (by omega)
        obtain ⟨g2, off2, rfl, hg2, hc2⟩ := HCB.out (by omega)
        have c1 := (hbel.cell (p := ⟨g, off + k, none⟩) hg).trans (hc k hlt)
        have c2 := (hbel.cell (p := ⟨g2, off2 + k, none⟩) hg2).trans (hc2 k hlt2)
        have HQ : Hid (l[k] = l[k]) := Lib.hid rfl
        clear hc hc2
        by_cases heq : l[k] = m[k]
        · have HS := Lib.hid (same_step k hlt hlt2 HT.out heq)
          rw [← heq] at c2
          generalize l[k] = x at *
          clear heq HQ
          have hi1 : (0 : Int) ≤ (k : Int) := by omega
          have hi2 : (k : Int) < (l.length : Int) := by omega
          have hi3 : (k : Int) < (m.length : Int) := by omega
          go_wp2
          go_quiet (fail)
          go_wp2
          go_roundw
          case rel => exact ⟨k + 1, by omega, by go_num, HS.out, below_drewN hbel _⟩
          case measure => simp [intOf]; omega
        · have HS := Lib.hid (same_at k hlt hlt2 heq)
          have hb0 : (l[k].toList == m[k].toList) = false := str_ne heq
          clear heq HQ
          generalize l[k] = x at *
          generalize m[k] = y at *
          have hi1 : (0 : Int) ≤ (k : Int) := by omega
          have hi2 : (k : Int) < (l.length : Int) := by omega
          have hi3 : (k : Int) < (m.length : Int) := by omega
          go_wp2
          go_quiet (fail)
          go_wp2
          go_ret
          exact ⟨by rw [HS.out]; rfl, below_drewN hbel _⟩
      · go_wp2
        go_ret
        exact ⟨by rw [same_all k hlt HL.out HT.out]; rfl, hbel⟩
  · have HS := Lib.hid (same_ne hl)
    have hne : ((l.length : Int) != (m.length : Int)) = true := by simp; omega
    clear hl
    go_enter Try.func39, Try.ntmps39
    go_wp2
    go_ret
    exact ⟨by rw [HS.out]; rfl, Below.refl _ _⟩
end Go.Proofs.Ytgffoepnkpkhaaa
