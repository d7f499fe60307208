/- The walk of the reference's Same over commands. -/
import Derived.Test.YtcdbnabbhlnigaaDoorAll
import Derived.BigQuiet
import Derived.Deep.QuietTactic
namespace Go.Proofs.YtcdbnabbhlnigaaDoor
open Go.RowKit

theorem below_drewN {n : Nat} {w w' : World} (h : Below n w w') (k : Nat) : Below n w (w'.drewN k) := by
  exact ⟨h.1, h.2, h.3, h.4, h.5⟩
theorem csame_ne {l m : List Cm} (h : l.length ≠ m.length) : decide (l = m) = false := by
  simp only [decide_eq_false_iff_not]; rintro rfl; exact h rfl
theorem csame_at {l m : List Cm} (k : Nat) (h1 : k < l.length) (h2 : k < m.length) (h : l[k] ≠ m[k]) : decide (l = m) = false := by
  simp only [decide_eq_false_iff_not]; rintro rfl; exact h rfl
theorem csame_step {l m : List Cm} (k : Nat) (h1 : k < l.length) (h2 : k < m.length) (ht : l.take k = m.take k) (h : l[k] = m[k]) : l.take (k + 1) = m.take (k + 1) := by
  rw [List.take_succ_eq_append_getElem h1, List.take_succ_eq_append_getElem h2, ht, h]
theorem csame_all {l m : List Cm} (k : Nat) (h1 : ¬ k < l.length) (hl : l.length = m.length) (ht : l.take k = m.take k) : decide (l = m) = true := by
  rw [List.take_of_length_le (by omega), List.take_of_length_le (by omega)] at ht
  simpa using ht
theorem csplit {c d : Cm} (h : c ≠ d) : c.kd ≠ d.kd ∨ (c.kd = d.kd ∧ c.id ≠ d.id) ∨ (c.kd = d.kd ∧ c.id = d.id ∧ c.mb ≠ d.mb) ∨ (c.kd = d.kd ∧ c.id = d.id ∧ c.mb = d.mb ∧ c.ot ≠ d.ot) ∨ (c.kd = d.kd ∧ c.id = d.id ∧ c.mb = d.mb ∧ c.ot = d.ot ∧ c.sc ≠ d.sc) ∨ (c.kd = d.kd ∧ c.id = d.id ∧ c.mb = d.mb ∧ c.ot = d.ot ∧ c.sc = d.sc ∧ c.qt ≠ d.qt) ∨ (c.kd = d.kd ∧ c.id = d.id ∧ c.mb = d.mb ∧ c.ot = d.ot ∧ c.sc = d.sc ∧ c.qt = d.qt ∧ c.pr ≠ d.pr) := by
  obtain ⟨a0, a1, a2, a3, a4, a5, a6⟩ := c
  obtain ⟨b0, b1, b2, b3, b4, b5, b6⟩ := d
  simp only [ne_eq, Cm.mk.injEq] at h ⊢
  omega
set_option maxHeartbeats 4000000 in
set_option maxRecDepth 100000 in
theorem csame_any (v1 v2 : Value) (l m : List Cm) (w : World) (h1 : Cms w v1 l) (h2 : Cms w v2 m) :
    Calls Tryd.prog 20 #[v1, v2] w fun e w' => e = .returned (.bool (decide (l = m))) ∧ Below w.heap.size w w' := by
  obtain ⟨a, ca, rfl, ha1, ha2, hca⟩ := h1
  obtain ⟨b, cb, rfl, hb1, hb2, hcb⟩ := h2
  unfold maxLen at ha2 hb2
  have HCA := Lib.hid hca
  have HCB := Lib.hid hcb
  clear hca hcb
  by_cases hl : l.length = m.length
  · have HL := Lib.hid hl
    have hne : ((l.length : Int) != (m.length : Int)) = false := by simp [hl]
    clear hl
    go_enter Tryd.func20, Tryd.ntmps20
    go_wp2
    go_loopw [5] (fun i wr => ∃ k : Nat, k ≤ l.length ∧ i = .int .i64 k ∧ l.take k = m.take k ∧ Below w.heap.size w wr) (fun i _ => l.length - (intOf i).toNat)
    case atStart => exact ⟨0, Nat.zero_le _, rfl, rfl, Below.refl _ _⟩
    case round =>
      obtain ⟨k, hk, rfl, ht, hbel⟩ := hrel
      have HT := Lib.hid ht
      clear ht
      by_cases hlt : k < l.length
      · have hlt2 : k < m.length := by have := HL.out; omega
        obtain ⟨g, off, rfl, hg, hc⟩ := HCA.out (by omega)
        obtain ⟨g2, off2, rfl, hg2, hc2⟩ := HCB.out (by omega)
        obtain ⟨p0, p1, p2, p3, p4, p5, p6⟩ := (hc k hlt).keep hbel hg
        have hq := (hc2 k hlt2).keep hbel hg2
        have hi1 : (0 : Int) ≤ (k : Int) := by omega
        have hi2 : (k : Int) < (l.length : Int) := by omega
        have hi3 : (k : Int) < (m.length : Int) := by omega
        clear hc hc2
        by_cases heq : l[k] = m[k]
        · have HS := Lib.hid (csame_step k hlt hlt2 HT.out heq)
          rw [← heq] at hq
          obtain ⟨q0, q1, q2, q3, q4, q5, q6⟩ := hq
          generalize l[k] = x at *
          clear heq
          go_wp2
          go_quiet (fail)
          go_wp2
          go_roundw
          case rel => exact ⟨k + 1, by omega, by go_num, HS.out, below_drewN hbel _⟩
          case measure => simp [intOf]; omega
        · have HS := Lib.hid (csame_at k hlt hlt2 heq)
          have HSP := Lib.hid (csplit heq)
          obtain ⟨q0, q1, q2, q3, q4, q5, q6⟩ := hq
          clear heq
          generalize l[k] = x at *
          generalize m[k] = y at *
          obtain ⟨a0, a1, a2, a3, a4, a5, a6⟩ := x
          obtain ⟨b0, b1, b2, b3, b4, b5, b6⟩ := y
          dsimp only at p0 p1 p2 p3 p4 p5 p6 q0 q1 q2 q3 q4 q5 q6
          rcases HSP.out with h | ⟨rfl, h⟩ | ⟨rfl, rfl, h⟩ | ⟨rfl, rfl, rfl, h⟩ | ⟨rfl, rfl, rfl, rfl, h⟩ | ⟨rfl, rfl, rfl, rfl, rfl, h⟩ | ⟨rfl, rfl, rfl, rfl, rfl, rfl, h⟩
          all_goals
            dsimp only at h
            have hb := beq_eq_false_iff_ne.2 h
            clear h HSP
            go_wp2
            go_quiet (fail)
            go_wp2
            go_ret
            exact ⟨by rw [HS.out]; rfl, below_drewN hbel _⟩
      · go_wp2
        go_ret
        exact ⟨by rw [csame_all k hlt HL.out HT.out]; rfl, hbel⟩
  · have HS := Lib.hid (csame_ne hl)
    have hne : ((l.length : Int) != (m.length : Int)) = true := by simp; omega
    clear hl
    go_enter Tryd.func20, Tryd.ntmps20
    go_wp2
    go_ret
    exact ⟨by rw [HS.out]; rfl, Below.refl _ _⟩
end Go.Proofs.YtcdbnabbhlnigaaDoor
