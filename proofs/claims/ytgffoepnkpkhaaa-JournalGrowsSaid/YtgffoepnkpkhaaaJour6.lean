/- journal.Trim of a journal that is whole; appending to one. -/
import Derived.Test.YtgffoepnkpkhaaaJour5
namespace Go.Proofs.Ytgffoepnkpkhaaa
open Go.RowKit

theorem Fr.off_le (l : List (List UInt8)) : ∀ j, Fr.off l j ≤ (Fr.cat l).length := by
  induction l with
  | nil => intro j; simp [Fr.off]
  | cons x l ih =>
    intro j
    cases j with
    | zero => simp [Fr.off]
    | succ j => have := ih j; simp only [Fr.off, Fr.cat, List.length_append, Fr.put_len]; omega
theorem offs_le (l : List ByteArray) (j : Nat) : offs l j ≤ (frames l).size := by
  have := Fr.off_le (lists l) j
  have e : (frames l).size = (Fr.cat (lists l)).length := by show (Fr.cat (lists l)).toArray.size = _; simp
  rw [e]; exact this
theorem leave_frames (l m : List ByteArray) (h : Short (l ++ m)) (hn : (l ++ m).length ≤ 24) :
    Dk.leave ⟨frames (l ++ m), ⟨#[]⟩, -1, false⟩ ((frames l).size : Nat) = (⟨frames l, ⟨#[]⟩, -1, false⟩, 0) := by
  have hsz := frames_small _ h hn
  have hcat : frames (l ++ m) = frames l ++ frames m := by
    apply ba_list
    rw [ba_cat, frames_list, frames_list, frames_list, lists_append]
    exact Fr.cat_append _ _
  have hle : (frames l).size ≤ (frames (l ++ m)).size := by rw [hcat, ByteArray.size_append]; omega
  have hex : (frames (l ++ m)).extract 0 (frames l).size = frames l := by
    rw [hcat, ba_pre _ _ _ (Nat.le_refl _), ba_whole]
  unfold Dk.leave
  dsimp only
  by_cases he : ((frames l).size : Int) = ((frames (l ++ m)).size : Int)
  · rw [if_pos he]
    have he2 : (frames l).size = (frames (l ++ m)).size := by omega
    have : frames (l ++ m) = frames l := by rw [← hex, he2, ba_whole]
    rw [this]
  · rw [if_neg he]
    have hz : (ByteArray.mk #[]).size = 0 := rfl
    unfold Dk.cut
    dsimp only
    rw [hz, if_neg (by omega), if_neg (by simp), if_neg (by omega), if_neg (by decide), Int.toNat_natCast, hex]
    rfl
theorem app_frames (l : List ByteArray) (r : ByteArray) (h : Short l) (hn : l.length ≤ 24) (hr : r.size ≤ 100) : Dk.app ⟨frames l, ⟨#[]⟩, -1, false⟩ r = (⟨frames (l ++ [r]), ⟨#[]⟩, -1, false⟩, 0) := by
  have hfs := frames_small l h hn
  have hfo := frameOf_size r
  have hz : (ByteArray.mk #[]).size = 0 := rfl
  have hnil : ∀ b : ByteArray, (ByteArray.mk #[]) ++ b = b := fun b => by apply ba_list; rw [ba_cat]; simp
  have hw : Dk.write ⟨frames l, ⟨#[]⟩, -1, false⟩ (frameOf r) = (⟨frames l, frameOf r, -1, false⟩, 0) := by
    unfold Dk.write
    dsimp only
    rw [hz, if_neg (by omega), if_neg (by simp), if_neg (by omega), if_neg (by decide), hnil]
    rfl
  unfold Dk.app
  rw [hw, if_pos rfl]
  unfold Dk.sync
  dsimp only
  rw [if_neg (by omega), if_neg (by simp), if_neg (by decide), frames_add]
  rfl
set_option maxHeartbeats 4000000 in
set_option maxRecDepth 100000 in
theorem trim_ok (l m : List ByteArray) (h : Short (l ++ m)) (hn : (l ++ m).length ≤ 24) (w : World) :
    Calls Try.prog 45 #[dval ⟨frames (l ++ m), ⟨#[]⟩, -1, false⟩, .int .i64 (l.length : Nat)] w fun e w' => e = .returned (.tuple #[dval ⟨frames l, ⟨#[]⟩, -1, false⟩, .int .i64 0]) ∧ Below w.heap.size w w' := by
  have hsz := frames_small _ h hn
  have HLV := Lib.hid (leave_frames l m h hn)
  have HWA := Lib.hid (whole_all (l ++ m) (short_big h))
  have HSH := Lib.hid h
  have HPRE := Lib.hid (offs_pre l m)
  have hll : l.length ≤ (l ++ m).length := by simp
  have hfl : (frames l).size ≤ 24768 := frames_small l (fun s hs => h s (by simp [hs])) (by omega)
  have hcm : Dk.Calm ⟨frames (l ++ m), ⟨#[]⟩, -1, false⟩ := ⟨by show (frames (l ++ m)).size ≤ _; omega, rfl, by simp, by simp, rfl⟩
  have HCM := Lib.hid hcm
  clear h hcm
  generalize hlm : l ++ m = lm at *
  have HLM := Lib.hid hlm
  clear hlm
  go_enter Try.func45, Try.ntmps45
  go_wp2_with fail
  refine (jready_ok _ HCM.out _).mono ?_
  rintro e w1 ⟨rfl, c1⟩
  have H0 := Lib.hid (show Held w1 w.heap.size ⟨frames lm, ⟨#[]⟩, -1, false⟩ from Held.keep (heap_alloc2_old w _ _) c1)
  have H1 := Lib.hid (show Held w1 (w.heap.size + 1) ⟨⟨#[]⟩, ⟨#[]⟩, 0, false⟩ from Held.keep (heap_alloc2_new w _ _) c1)
  have b1 : Below w.heap.size w w1 := (((Below.refl w.heap.size w).alloc (Nat.le_refl _) _).alloc (by simp) _).trans (c1.mono (by simp; omega))
  clear c1
  obtain ⟨p0, p1, p2, p3⟩ := H0.out.cells
  go_wp2_with fail
  refine (read_any ⟨frames lm, ⟨#[]⟩, -1, false⟩ HCM.out.s _).mono ?_
  rintro e w2 ⟨v, rfl, own2, c2⟩
  have hst := Strs.own own2
  dsimp only at hst ⊢
  rw [HWA.out.1] at hst
  have H02 := Lib.hid (H0.out.keep c2)
  have H12 := Lib.hid (H1.out.keep c2)
  have b2 := b1.trans (c2.mono b1.size)
  clear c2 b1 H0 H1 p0 p1 p2 p3 own2
  obtain ⟨a, cap, rfl, hc1, hc2, hcell⟩ := hst
  unfold maxLen at hc2
  have HCELL := Lib.hid hcell
  clear hcell
  generalize (Fr.all (frames lm).data.toList).2.1 = us at *
  have hd0 : decide (((l.length : Nat) : Int) < 0) = false := by simp
  have hd1 : decide (lm.length < l.length) = false := by simp; omega
  go_wp2_with fail
  go_loop [9, 36] (fun nv i => ∃ k : Nat, k ≤ l.length ∧ i = .int .i64 k ∧ nv = .int .i64 (offs lm k : Nat)) (fun _ i => l.length - (intOf i).toNat)
  case atStart => exact ⟨0, Nat.zero_le _, rfl, by rw [offs_zero]; rfl⟩
  case round =>
    obtain ⟨k, hk, rfl, rfl⟩ := hrel
    by_cases hlt : k < l.length
    · obtain ⟨b, off, rfl, hbl, hcl⟩ := HCELL.out (by omega)
      have hkm : k < lm.length := by omega
      have g0 := hcl k hkm
      have hx := HSH.out lm[k] (List.getElem_mem hkm)
      have HSU := Lib.hid (offs_succ lm k hkm)
      have hof : offs lm k ≤ (frames lm).size := offs_le lm k
      clear hcl
      generalize lm[k] = x at *
      generalize offs lm k = u at *
      go_wp2_with fail
      refine (size_any x (by unfold maxLen; omega) _).mono ?_
      rintro e w3 ⟨rfl, rfl⟩
      rw [if_pos (by omega)]
      go_wp2_with fail
      go_round
      case rel => exact ⟨k + 1, by omega, by go_num, by rw [HSU.out]; go_num⟩
      case measure => simp [intOf]; omega
    · obtain rfl : k = l.length := by omega
      obtain ⟨p0, p1, p2, p3⟩ := H02.out.cells
      rw [HPRE.out]
      go_wp2_with fail
      refine (leave_any ⟨frames lm, ⟨#[]⟩, -1, false⟩ HCM.out.ok _ _).mono ?_
      rintro e w3 ⟨rfl, c3⟩
      rw [HLV.out]
      dsimp only
      have H13 := Lib.hid (H12.out.keep c3)
      have b3 := b2.trans (c3.mono b2.size)
      clear c3 b2 H02 H12 p0 p1 p2 p3
      go_wp2_with (refine store_dk rfl _ _ rfl rfl w (w.heap.size + 1) ⟨frames l, ⟨#[]⟩, -1, false⟩ rfl rfl _ H13.out rfl b3 (by omega) ?_; intro W7 P7; obtain ⟨r0, r1, r2, r3⟩ := Held.cells (Put4.held P7))
      exact bodyPost_ret (v := .tuple #[dval ⟨frames l, ⟨#[]⟩, -1, false⟩, .int .i64 0]) (by simp [results, Try.results45, go_sem, r0, r1, r2, r3]) rfl ⟨rfl, P7.low⟩
end Go.Proofs.Ytgffoepnkpkhaaa
