/- The page's example of layer 12; the plain law of what is mended. -/
import Derived.Test.YtgffoepnkpkhaaaJour
namespace Go.Proofs.Ytgffoepnkpkhaaa
open Go.RowKit

theorem jw0 : frameOf ⟨#[97]⟩ = ⟨#[0, 0, 0, 1, 232, 183, 190, 67, 97]⟩ := by decide +kernel
theorem jw1 : Dk.app ⟨⟨#[]⟩, ⟨#[]⟩, -1, false⟩ ⟨#[97]⟩ = (⟨⟨#[0, 0, 0, 1, 232, 183, 190, 67, 97]⟩, ⟨#[]⟩, -1, false⟩, 0) := by
  unfold Dk.app
  rw [jw0]
  rfl
theorem jw2 : Fr.all [0, 0, 0, 1, 232, 183, 190, 67, 97] = ([[97]], 9, 0) := by decide +kernel
set_option maxHeartbeats 1000000 in
set_option maxRecDepth 100000 in
theorem awake12_any (w : World) : Calls Try.prog 40 #[] w fun e w' => e = .returned (.bool true) ∧ Below w.heap.size w w' := by
  go_enter Try.func40, Try.ntmps40
  go_wp2_with fail
  refine (append_ok ⟨⟨#[]⟩, ⟨#[]⟩, -1, false⟩ ⟨by decide, rfl, by decide, by decide, rfl⟩ rfl ⟨#[97]⟩ (by decide) _).mono ?_
  rintro e w1 ⟨rfl, b1⟩
  rw [jw1]
  unfold dval
  dsimp only
  go_wp2_with fail
  refine (read_any ⟨⟨#[0, 0, 0, 1, 232, 183, 190, 67, 97]⟩, ⟨#[]⟩, -1, false⟩ (by decide) _).mono ?_
  rintro e w2 ⟨v, rfl, hown, c2⟩
  have hst := Strs.own hown
  rw [show (Fr.all (ByteArray.mk #[0, 0, 0, 1, 232, 183, 190, 67, 97]).data.toList) = ([[97]], 9, 0) from jw2] at hst ⊢
  dsimp only at hst ⊢
  have HH := Lib.hid (Held.keep (Held.new w1 ⟨⟨#[0, 0, 0, 1, 232, 183, 190, 67, 97]⟩, ⟨#[]⟩, -1, false⟩) c2)
  have b2 := (b1.alloc b1.size (.cells (dcells ⟨⟨#[0, 0, 0, 1, 232, 183, 190, 67, 97]⟩, ⟨#[]⟩, -1, false⟩) 32)).trans (c2.mono (by have := b1.size; simp; omega))
  obtain ⟨a, cap, rfl, h1, h2, hc⟩ := hst
  obtain ⟨b, off, rfl, hlt, hcl⟩ := hc (by simp [recs])
  have hc0 := hcl 0 (by simp [recs])
  have hc1 : w2.cell? ⟨b, off, none⟩ = some (.string ⟨#[97]⟩) := hc0
  have hl : (recs [[97]]).length = 1 := rfl
  rw [hl]
  rw [hl] at h1
  obtain ⟨p0, p1, p2, p3⟩ := HH.out.cells
  clear hown c2 hc hcl hc0 hl b1
  go_wp2_with fail
  go_ret
  exact ⟨rfl, b2⟩
namespace Fr
theorem used_step (n : Nat) : ∀ l : List UInt8, l.length ≤ n → (all l).2.1 ≤ l.length ∧ all (l.take (all l).2.1) = ((all l).1, (all l).2.1, 0) := by
  induction n with
  | zero =>
    intro l h
    have h0 : l.length = 0 := by omega
    rw [all_nil l h0]
    exact ⟨by simp, all_nil _ (by simp)⟩
  | succ n ih =>
    intro l h
    by_cases h0 : l.length = 0
    · rw [all_nil l h0]
      exact ⟨by simp, all_nil _ (by simp)⟩
    · by_cases he : err l = 0
      · obtain ⟨h1, h2, h3⟩ := err_ok he
        have hd : (l.drop (8 + num l)).length = l.length - (8 + num l) := List.length_drop
        obtain ⟨i1, i2⟩ := ih (l.drop (8 + num l)) (by omega)
        have ha := all_ok l h0 he
        rw [hd] at i1
        generalize hu : (all (l.drop (8 + num l))).2.1 = u at *
        rw [ha]
        dsimp only
        have htl : (l.take (8 + num l + u)).length = 8 + num l + u := by rw [List.length_take]; omega
        have hnum : num (l.take (8 + num l + u)) = num l := num_take _ _ (by omega)
        have hrec : rec (l.take (8 + num l + u)) = rec l := by
          unfold rec
          rw [hnum, List.drop_take, List.take_take, Nat.min_eq_left (by omega)]
        have hn4 : num ((l.take (8 + num l + u)).drop 4) = num (l.drop 4) := by
          rw [List.drop_take]
          exact num_take _ _ (by omega)
        have herr : err (l.take (8 + num l + u)) = 0 := by
          unfold err
          rw [hnum, if_neg (by omega), htl, if_neg (by omega), hn4]
          have : ((l.take (8 + num l + u)).drop 8).take (num l) = rec l := by
            have := hrec
            unfold rec at this
            rw [hnum] at this
            exact this
          rw [this, if_neg (by simpa using h3)]
        have hrest : (l.take (8 + num l + u)).drop (8 + num l) = (l.drop (8 + num l)).take u := by
          rw [List.drop_take, Nat.add_sub_cancel_left]
        refine ⟨by omega, ?_⟩
        rw [all_ok _ (by omega) herr, hrec, hnum, hrest, i2]
      · rw [all_err l h0 he]
        exact ⟨by simp, all_nil _ (by simp)⟩
theorem used_le (l : List UInt8) : (all l).2.1 ≤ l.length := (used_step l.length l (Nat.le_refl _)).1
theorem used_all (l : List UInt8) : all (l.take (all l).2.1) = ((all l).1, (all l).2.1, 0) := (used_step l.length l (Nat.le_refl _)).2
end Fr
/-- how many bytes are whole -/
def used (s : ByteArray) : Nat := (Fr.all s.data.toList).2.1
theorem used_size (s : ByteArray) : used s ≤ s.size := by have := Fr.used_le s.data.toList; simpa [used] using this
theorem whole_part (s : ByteArray) : Fr.all (s.extract 0 (used s)).data.toList = ((Fr.all s.data.toList).1, used s, 0) := by
  rw [list_extract, List.drop_zero, Nat.sub_zero]
  exact Fr.used_all _
theorem part_size (s : ByteArray) : (s.extract 0 (used s)).size = used s := by
  have := used_size s
  rw [ByteArray.size_extract]; omega
theorem mend_same (x : Dk) (h : (Fr.all x.s.data.toList).2.1 = x.s.size) : x.mend = (x, 0) := by
  unfold Dk.mend Dk.leave
  rw [if_pos (by rw [h])]
theorem mend_cases (s : ByteArray) (f : Int) (hs : s.size ≤ 1000000) (h1 : -1 ≤ f) :
    (f = 0 ∧ Dk.mend ⟨s, ⟨#[]⟩, f, false⟩ = (⟨s, ⟨#[]⟩, 0, true⟩, 16)) ∨ (∃ f', (f' = f ∨ f' = Dk.less f) ∧ Dk.mend ⟨s, ⟨#[]⟩, f, false⟩ = (⟨s.extract 0 (used s), ⟨#[]⟩, f', false⟩, 0)) := by
  have hu := used_size s
  by_cases hw : used s = s.size
  · right
    refine ⟨f, Or.inl rfl, ?_⟩
    rw [mend_same ⟨s, ⟨#[]⟩, f, false⟩ (show (Fr.all s.data.toList).2.1 = s.size from hw), hw, ba_whole]
  · have hn : Dk.mend ⟨s, ⟨#[]⟩, f, false⟩ = Dk.cut ⟨s, ⟨#[]⟩, f, false⟩ (used s : Nat) := by
      show Dk.leave _ _ = _
      unfold Dk.leave
      rw [if_neg (by intro e; apply hw; exact Int.ofNat.inj e)]
      rfl
    rw [hn]
    have hz : (ByteArray.mk #[]).size = 0 := rfl
    unfold Dk.cut
    dsimp only
    rw [hz, if_neg (by omega), if_neg (by simp), if_neg (by omega)]
    by_cases hf : f = 0
    · left
      exact ⟨hf, by rw [if_pos hf]⟩
    · right
      exact ⟨Dk.less f, Or.inr rfl, by rw [if_neg hf, Int.toNat_natCast]⟩
end Go.Proofs.Ytgffoepnkpkhaaa
