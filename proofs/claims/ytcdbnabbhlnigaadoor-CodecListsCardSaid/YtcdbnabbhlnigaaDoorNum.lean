/- The walks of num.Get, num.Put and of their references. -/
import Derived.Test.YtcdbnabbhlnigaaDoorProg
import Derived.Test.YtcdbnabbhlnigaaDoorVint
import Derived.WalkKit
import Derived.WalkSpells
import Derived.Outline
import Derived.Lib.Hide
import Derived.RegionTactic
import Derived.Deep.QuietTactic
import Derived.BigQuiet
namespace Go.Proofs.YtcdbnabbhlnigaaDoor
open Go.RowKit

/-- what num.Get answers -/
def gv (s : ByteArray) : Value := .tuple #[.int .i64 (Vint.get s.data.toList).1, .string (if (Vint.get s.data.toList).2.2 = 0 then s.extract (Vint.get s.data.toList).2.1 s.size else ⟨#[]⟩), .int .i64 (Vint.get s.data.toList).2.2]
theorem gv_err (s : ByteArray) (e : Int) (he : e ≠ 0) (h : Vint.get s.data.toList = (0, 0, e)) : gv s = .tuple #[.int .i64 0, .string ⟨#[]⟩, .int .i64 e] := by
  simp [gv, h, he]
theorem gv_ok (s : ByteArray) (n : Int) (m : Nat) (h : Vint.get s.data.toList = (n, m, 0)) : gv s = .tuple #[.int .i64 n, .string (s.extract m s.size), .int .i64 0] := by
  simp [gv, h]
theorem byte_at (s : ByteArray) (k : Nat) (h : k < s.size) : s.data.toList.getD k 0 = s[k] := by
  simp [List.getD, h]
  rfl
set_option maxHeartbeats 1000000 in
set_option maxRecDepth 100000 in
theorem get_any (s : ByteArray) (w : World) (hs : s.size ≤ 1000000000000) :
    Calls Tryd.prog 54 #[.string s] w fun e w' => e = .returned (gv s) ∧ ∃ n, w' = w.drewN n := by
  have hlen : s.data.toList.length = s.size := by simp
  have HLEN := Lib.hid hlen
  clear hlen
  go_enter Tryd.func54, Tryd.ntmps54
  go_wp2
  go_loop [5, 8] (fun z i => ∃ k : Nat, k ≤ 9 ∧ k ≤ s.size ∧ Vint.Marks k s.data.toList ∧ i = .int .i64 k ∧ z = .int .u64 (Vint.val k s.data.toList)) (fun _ i => 10 - (intOf i).toNat)
  case atStart => exact ⟨0, by omega, Nat.zero_le _, fun j hj => by omega, rfl, rfl⟩
  case round =>
    obtain ⟨k, hk, hks, HM, rfl, rfl⟩ := hrel
    by_cases hlt : k < s.size
    · have hb := byte_at s k hlt
      have hb2 := s[k].toNat_lt
      have hvl := Vint.val_lt k s.data.toList
      have hvs := Vint.val_succ k s.data.toList (by rw [HLEN.out]; exact hlt)
      rw [hb] at hvs
      by_cases hB : k = 9 ∧ 1 < s[k].toNat
      · have hg := Lib.hid (gv_err s 3 (by decide) (Vint.get_b HM hB.1 (by rw [HLEN.out]; exact hlt) (by rw [hb]; exact hB.2)))
        have h9 : ((k : Int) == 9) = true := by have := hB.1; simp; omega
        have h1 : (1 : Int) < (s[k].toNat : Int) := by omega
        clear hb hb2 hvl hvs hB
        go_wp2
        go_ret3
        rw [hg.out]
        exact ⟨rfl, 0, rfl⟩
      · have hos := Vint.or_step (Vint.val k s.data.toList) s[k].toNat k hk hvl hb2 (fun e => by omega)
        rw [← hvs] at hos
        by_cases hC : s[k].toNat < 128
        · have hC2 : (s[k].toNat : Int) < 128 := by omega
          have hD : ((k : Int) == 9) = false ∨ (((k : Int) == 9) = true ∧ ¬ (1 : Int) < (s[k].toNat : Int)) := by
            by_cases e : k = 9
            · right; refine ⟨by simp; omega, fun h => hB ⟨e, by omega⟩⟩
            · left; simp; omega
          by_cases hz : s[k].toNat = 0 ∧ 0 < k
          · have hg := Lib.hid (gv_err s 3 (by decide) (Vint.get_c HM hk (by rw [HLEN.out]; exact hlt) (by rw [hb]; exact hz.1) hz.2))
            have hz1 : ((s[k].toNat : Int) == 0) = true := by have := hz.1; simp; omega
            have hz2 := hz.2
            clear hb hb2 hvl hvs hB hz
            rcases hD with h9 | ⟨h9, h10⟩
            all_goals
              go_wp2
              go_ret3
              rw [hg.out]
              exact ⟨rfl, 0, rfl⟩
          · have hg := Lib.hid (gv_ok s _ _ (Vint.get_d HM hk (by rw [HLEN.out]; exact hlt) (by rw [hb]; omega) (fun e => by rw [hb]; omega) (fun e e2 => hz ⟨by rw [← hb]; exact e2, e⟩)))
            have hz1 : (((s[k].toNat : Int) == 0) = true ∧ ¬ 0 < k) ∨ ((s[k].toNat : Int) == 0) = false := by
              by_cases e : s[k].toNat = 0
              · left; exact ⟨by simp; omega, fun h => hz ⟨e, h⟩⟩
              · right; simp; omega
            have hzb := Lib.hid (Vint.zag_bits (Vint.val (k + 1) s.data.toList) (Vint.val_lt64 k s.data.toList hk (by rw [HLEN.out]; exact hlt) (fun e => by rw [hb]; omega)))
            clear hb hb2 hvl hvs hB hz
            rcases hD with h9 | ⟨h9, h10⟩ <;> rcases hz1 with ⟨hz1, hz2⟩ | hz1
            all_goals
              go_wp2
              go_quiet (fail)
              go_wp2
              go_ret3
              rw [hg.out, ← hzb.out]
              exact ⟨rfl, _, rfl⟩
        · have hm := Lib.hid (HM.next (by rw [hb]; omega))
          have hC2 : (128 : Int) ≤ (s[k].toNat : Int) := by omega
          have hk9 : k ≠ 9 := fun e => hB ⟨e, by omega⟩
          have h9 : ((k : Int) == 9) = false := by simp; omega
          clear hb hb2 hvl hvs hB
          go_wp2
          go_round
          case rel => exact ⟨k + 1, by omega, by omega, hm.out, by go_num, rfl⟩
          case measure => simp [intOf]; omega
    · have hg := Lib.hid (gv_err s 4 (by decide) (Vint.get_a HM hk (by rw [HLEN.out]; omega)))
      go_wp2
      go_ret3
      rw [hg.out]
      exact ⟨rfl, 0, rfl⟩
set_option maxHeartbeats 1000000 in
set_option maxRecDepth 100000 in
theorem refget_any (s : ByteArray) (w : World) (hs : s.size ≤ 1000000000000) :
    Calls Tryd.prog 53 #[.string s] w fun e w' => e = .returned (.tuple #[.int .i64 (Vint.get s.data.toList).1, .int .i64 (Vint.get s.data.toList).2.1, .int .i64 (Vint.get s.data.toList).2.2]) ∧ w = w' := by
  have hlen : s.data.toList.length = s.size := by simp
  have HLEN := Lib.hid hlen
  clear hlen
  obtain ⟨⟨gn, gm, ge⟩, hg⟩ : ∃ g, Vint.get s.data.toList = g := ⟨_, rfl⟩
  rw [hg]
  dsimp only
  have HG := Lib.hid hg
  clear hg
  go_enter Tryd.func53, Tryd.ntmps53
  go_wp2
  go_loop [5] (fun i => ∃ k : Nat, k ≤ 9 ∧ k ≤ s.size ∧ Vint.Marks k s.data.toList ∧ i = .int .i64 k) (fun i => 10 - (intOf i).toNat)
  case atStart => exact ⟨0, by omega, Nat.zero_le _, fun j hj => by omega, rfl⟩
  case round =>
    obtain ⟨k, hk, hks, HM, rfl⟩ := hrel
    by_cases hlt : k < s.size
    · have hb := byte_at s k hlt
      have hb2 := s[k].toNat_lt
      by_cases hE : k = 9 ∧ 1 < s[k].toNat
      · have e9 := HG.out.symm.trans (Vint.get_b HM hE.1 (by rw [HLEN.out]; exact hlt) (by rw [hb]; exact hE.2))
        simp only [Prod.mk.injEq] at e9
        obtain ⟨rfl, rfl, rfl⟩ := e9
        obtain ⟨hk9, hc9⟩ := hE
        have h9s : 9 < s.size := by omega
        have hsk : s[k].toNat = s[9].toNat := by simp only [hk9]
        have h1 : (1 : Int) < (s[9].toNat : Int) := by omega
        have h9b : ((k : Int) == 9) = true := by simp; omega
        have h9n : ¬ (k : Int) < 9 := by omega
        have hsz : ((k : Int) == (s.size : Int)) = false := by simp; omega
        clear hk9 hsk hc9 hb hb2 HM
        by_cases hC : (127 : Int) < (s[k].toNat : Int)
        all_goals
          go_wp2
          go_ret3
          exact ⟨rfl, rfl⟩
      · by_cases hC : 127 < s[k].toNat
        · have hC2 : (127 : Int) < (s[k].toNat : Int) := by omega
          have h9 : k < 9 := by
            rcases Nat.lt_or_ge k 9 with h | h
            · exact h
            · exact absurd ⟨by omega, by omega⟩ hE
          have hm := Lib.hid (HM.next (by rw [hb]; omega))
          clear hb hb2 hE
          go_wp2
          go_round
          case rel => exact ⟨k + 1, by omega, by omega, hm.out, by go_num⟩
          case measure => simp [intOf]; omega
        · have hC2 : (s[k].toNat : Int) ≤ 127 := by omega
          have hsz : ((k : Int) == (s.size : Int)) = false := by simp; omega
          by_cases hz : 0 < k ∧ s[k].toNat = 0
          · have e9 := HG.out.symm.trans (Vint.get_c HM hk (by rw [HLEN.out]; exact hlt) (by rw [hb]; exact hz.2) hz.1)
            simp only [Prod.mk.injEq] at e9
            obtain ⟨rfl, rfl, rfl⟩ := e9
            obtain ⟨hz1, hz2⟩ := hz
            have hz3 : ((s[k].toNat : Int) == 0) = true := by simp; omega
            by_cases h9 : k = 9
            · have h9s : 9 < s.size := by omega
              have hsk : s[k].toNat = s[9].toNat := by simp only [h9]
              have h1 : ¬ (1 : Int) < (s[9].toNat : Int) := by omega
              have hd1 : decide ((1 : Int) < (s[9].toNat : Int)) = false := by simpa using h1
              have h9b : ((k : Int) == 9) = true := by simp; omega
              clear h9 hsk hb hb2 HM hE hz2
              go_wp2
              go_ret3
              exact ⟨rfl, rfl⟩
            · have h9b : ((k : Int) == 9) = false := by simp; omega
              clear h9 hb hb2 HM hE hz2
              go_wp2
              go_ret3
              exact ⟨rfl, rfl⟩
          · have e9 := HG.out.symm.trans (Vint.get_d HM hk (by rw [HLEN.out]; exact hlt) (by rw [hb]; omega) (fun e => by rw [hb]; omega) (fun e e2 => hz ⟨e, by rw [← hb]; exact e2⟩))
            simp only [Prod.mk.injEq] at e9
            obtain ⟨rfl, rfl, rfl⟩ := e9
            have h64 := Vint.val_lt64 k s.data.toList hk (by rw [HLEN.out]; exact hlt) (fun e => by rw [hb]; omega)
            have HV := Lib.hid h64
            have hpre : ((0 : Int) < (k : Int) ∧ ((s[k].toNat : Int) == 0) = false) ∨ ¬ (0 : Int) < (k : Int) := by
              by_cases h0 : 0 < k
              · left; refine ⟨by omega, ?_⟩; simp; intro e; exact hz ⟨h0, e⟩
              · right; omega
            have hpre9 : (((k : Int) == 9) = true ∧ (∀ h : 9 < s.size, ¬ (1 : Int) < (s[9].toNat : Int)) ∧ 9 < s.size) ∨ ((k : Int) == 9) = false := by
              by_cases h9 : k = 9
              · left
                refine ⟨by simp; omega, fun h => ?_, by omega⟩
                have hsk : s[k].toNat = s[9].toNat := by simp only [h9]
                omega
              · right; simp; omega
            clear h64 hb hb2 hE hz
            rcases hpre with ⟨h0, h00⟩ | h0 <;> rcases hpre9 with ⟨h9, h99, h999⟩ | h9
            all_goals
              try have h98 := h99 h999
              try have hd1 : decide ((1 : Int) < (s[9].toNat : Int)) = false := by simpa using h98
              try clear h99
              go_wp2
              go_loop [6, 7] (fun z i => ∃ j : Nat, j ≤ k + 1 ∧ i = .int .i64 ((j : Int) - 1) ∧ z = .int .u64 (Vint.val (k + 1 - j) (s.data.toList.drop j))) (fun _ i => (intOf i + 1).toNat)
              case atStart => exact ⟨k + 1, by omega, congrArg _ (by omega), by rw [Nat.sub_self]; rfl⟩
              case round =>
                obtain ⟨j, hj, rfl, rfl⟩ := hrel
                by_cases hj0 : j = 0
                · subst hj0
                  rw [show ((0 : Nat) : Int) - 1 = -1 from rfl, Nat.sub_zero, List.drop_zero]
                  have hz64 := HV.out
                  generalize hzz : Vint.val (k + 1) s.data.toList = z at *
                  have HZZ := Lib.hid hzz
                  have hzb : (z : Int) / 2 ≤ 9223372036854775807 := by omega
                  clear hzz hz64
                  by_cases hev : z % 2 = 0
                  · have he : ((z : Int) % 2 == 0) = true := by simp; omega
                    have hzg := Lib.hid (show Vint.zag z = (z : Int) / 2 by unfold Vint.zag; rw [if_pos hev]; omega)
                    clear hev
                    go_wp2
                    go_ret3
                    rw [HZZ.out, hzg.out]
                    exact ⟨rfl, rfl⟩
                  · have he : ((z : Int) % 2 == 0) = false := by simp; omega
                    have hzg := Lib.hid (show Vint.zag z = -((z : Int) / 2) - 1 by unfold Vint.zag; rw [if_neg hev]; omega)
                    clear hev
                    go_wp2
                    go_ret3
                    rw [HZZ.out, hzg.out]
                    exact ⟨rfl, rfl⟩
                · obtain ⟨q, rfl⟩ : ∃ q, j = q + 1 := ⟨j - 1, by omega⟩
                  have hq : q < s.size := by omega
                  have ei : ((q + 1 : Nat) : Int) - 1 = (q : Int) := by omega
                  have hv := Vint.val_drop (k - q) q s.data.toList (by rw [HLEN.out]; exact hq)
                  rw [byte_at s q hq] at hv
                  have hle := Vint.val_part (k - q + 1) q s.data.toList
                  rw [show k - q + 1 + q = k + 1 by omega, hv] at hle
                  have hlt64 := HV.out
                  have hw1 := Vint.mul_u64 (Vint.val (k - q) (s.data.toList.drop (q + 1))) (by omega)
                  have hw2 := Vint.add_u64 (Vint.val (k - q) (s.data.toList.drop (q + 1)) * 128) (s[q].toNat % 128) (by omega)
                  have hw3 : IntKind.u64.wrap (IntKind.u64.wrap (((Vint.val (k - q) (s.data.toList.drop (q + 1)) : Nat) : Int) * 128) + (s[q].toNat : Int) % 128) = ((Vint.val (k + 1 - q) (s.data.toList.drop q) : Nat) : Int) := by
                    rw [hw1, show (s[q].toNat : Int) % 128 = ((s[q].toNat % 128 : Nat) : Int) by omega, hw2, show k + 1 - q = k - q + 1 by omega, hv]
                    congr 1; omega
                  have HW := Lib.hid hw3
                  clear hw1 hw2 hw3 hle hv hlt64
                  rw [ei]
                  clear ei
                  go_wp2
                  exact ⟨⟨q, by omega, rfl, by rw [HW.out]⟩, by simp [intOf]⟩
    · have hsz : ((k : Int) == (s.size : Int)) = true := by simp; omega
      have e9 := HG.out.symm.trans (Vint.get_a HM hk (by rw [HLEN.out]; omega))
      simp only [Prod.mk.injEq] at e9
      obtain ⟨rfl, rfl, rfl⟩ := e9
      go_wp2
      go_ret3
      exact ⟨rfl, rfl⟩
end Go.Proofs.YtcdbnabbhlnigaaDoor
