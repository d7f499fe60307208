/- The plain law of a record that is appended while the power goes. -/
import Derived.Test.YtgffoepnkpkhaaaJour3
namespace Go.Proofs.Ytgffoepnkpkhaaa
open Go.RowKit

theorem Fr.off_pre (l m : List (List UInt8)) : Fr.off (l ++ m) l.length = (Fr.cat l).length := by
  induction l with
  | nil => simp [Fr.off_zero, Fr.cat]
  | cons x l ih => simp only [List.cons_append, List.length_cons, Fr.off, Fr.cat, List.length_append, Fr.put_len, ih]
theorem offs_pre (l m : List ByteArray) : offs (l ++ m) l.length = (frames l).size := by
  unfold offs
  rw [lists_append, ← lists_len l, Fr.off_pre]
  show _ = (Fr.cat (lists l)).toArray.size
  simp
theorem frames_add (l : List ByteArray) (r : ByteArray) : frames l ++ frameOf r = frames (l ++ [r]) := frames_snoc l r
theorem short_add {l : List ByteArray} {r : ByteArray} (h : Short l) (hr : r.size ≤ 100) : Short (l ++ [r]) := by
  intro s hs
  rw [List.mem_append, List.mem_singleton] at hs
  rcases hs with hs | rfl
  · exact h s hs
  · exact hr
/-- a part of the last frame -/
theorem part_torn (l : List ByteArray) (r : ByteArray) (h : Short l) (hr : r.size ≤ 100) (m : Nat) (hm : m ≤ (frameOf r).size) :
    recs (Fr.all (frames l ++ (frameOf r).extract 0 m).data.toList).1 = l ++ [r] ∨ recs (Fr.all (frames l ++ (frameOf r).extract 0 m).data.toList).1 = l := by
  have hsh := short_big (short_add h hr)
  have hex : frames l ++ (frameOf r).extract 0 m = (frames (l ++ [r])).extract 0 (frames l ++ (frameOf r).extract 0 m).size := by
    rw [← frames_add]
    exact (ba_cut _ _ _ hm).symm
  have hsz : (frames l ++ (frameOf r).extract 0 m).size = (frames l).size + m := by rw [ByteArray.size_append, ByteArray.size_extract]; omega
  have htot : (frames (l ++ [r])).size = (frames l).size + (frameOf r).size := by rw [← frames_add, ByteArray.size_append]
  have hpre := offs_pre l [r]
  have hlen : offs (l ++ [r]) (l.length + 1) = (frames (l ++ [r])).size := by
    have := offs_len (l ++ [r])
    rw [List.length_append, List.length_singleton] at this
    exact this
  rw [hex, hsz]
  by_cases hfull : m = (frameOf r).size
  · left
    have ht := torn_all (l ++ [r]) hsh (l.length + 1) ((frames l).size + m) (by simp) (by rw [hlen]; omega) (by omega) (Or.inl (by simp))
    rw [ht.1, List.take_of_length_le (by simp)]
  · right
    have ht := torn_all (l ++ [r]) hsh l.length ((frames l).size + m) (by simp) (by omega) (by omega) (Or.inr (by rw [hlen]; omega))
    rw [ht.1, List.take_left]
theorem frames_small (l : List ByteArray) (h : Short l) (hn : l.length ≤ 24) : (frames l).size ≤ 24768 := by
  have := frames_size l (short_big h)
  omega
theorem app_crash (l : List ByteArray) (r : ByteArray) (f keep : Int) (h : Short l) (hn : l.length ≤ 12) (hr : r.size ≤ 100) (hf1 : -1 ≤ f) (hf2 : f ≤ 9223372036854775807) :
    ∃ (d : Dk) (e : Int) (s : ByteArray), Dk.app ⟨frames l, ⟨#[]⟩, f, false⟩ r = (d, e) ∧ d.Ok ∧ d.crash keep = (⟨s, ⟨#[]⟩, -1, false⟩, 0) ∧ s.size ≤ 30000 ∧
      (recs (Fr.all s.data.toList).1 = l ++ [r] ∨ (recs (Fr.all s.data.toList).1 = l ∧ e ≠ 0)) := by
  have hfs := frames_small l h (by omega)
  have hfo := frameOf_size r
  have hz : (ByteArray.mk #[]).size = 0 := rfl
  have hnil : ∀ b : ByteArray, (ByteArray.mk #[]) ++ b = b := fun b => by apply ba_list; rw [ba_cat]; simp
  have hlost : ∀ g : Int, (-1 ≤ g ∧ g ≤ 9223372036854775807) → ∃ s, Dk.crash ⟨frames l, frameOf r, g, true⟩ keep = (⟨s, ⟨#[]⟩, -1, false⟩, 0) ∧ s.size ≤ 30000 ∧ (recs (Fr.all s.data.toList).1 = l ++ [r] ∨ recs (Fr.all s.data.toList).1 = l) := by
    intro g hg
    refine ⟨frames l ++ (frameOf r).extract 0 (min keep.toNat (frameOf r).size), ?_, ?_, part_torn l r h hr _ (by omega)⟩
    · unfold Dk.crash
      dsimp only
      rw [if_neg (by omega)]
      rfl
    · rw [ByteArray.size_append, ByteArray.size_extract]; omega
  have hw : Dk.write ⟨frames l, ⟨#[]⟩, f, false⟩ (frameOf r) = if f = 0 then (⟨frames l, frameOf r, 0, true⟩, 16) else (⟨frames l, frameOf r, Dk.less f, false⟩, 0) := by
    unfold Dk.write
    dsimp only
    rw [hz, if_neg (by omega), if_neg (by simp), if_neg (by omega), hnil]
  by_cases h0 : f = 0
  · obtain ⟨s, h1, h2, h3⟩ := hlost 0 (by omega)
    refine ⟨⟨frames l, frameOf r, 0, true⟩, 16, s, ?_, ⟨by show (frames l).size ≤ _; omega, by show (frameOf r).size ≤ _; omega, by simp, by simp⟩, h1, h2, ?_⟩
    · unfold Dk.app
      rw [hw, if_pos h0, if_neg (by simp)]
    · rcases h3 with h3 | h3
      · exact Or.inl h3
      · exact Or.inr ⟨h3, by decide⟩
  · have hless : -1 ≤ Dk.less f ∧ Dk.less f ≤ 9223372036854775807 := by unfold Dk.less; split <;> omega
    have happ : Dk.app ⟨frames l, ⟨#[]⟩, f, false⟩ r = Dk.sync ⟨frames l, frameOf r, Dk.less f, false⟩ := by
      unfold Dk.app
      rw [hw, if_neg h0, if_pos rfl]
    by_cases h1 : Dk.less f = 0
    · obtain ⟨s, g1, g2, g3⟩ := hlost 0 (by omega)
      refine ⟨⟨frames l, frameOf r, 0, true⟩, 16, s, ?_, ⟨by show (frames l).size ≤ _; omega, by show (frameOf r).size ≤ _; omega, by simp, by simp⟩, g1, g2, ?_⟩
      · rw [happ]
        unfold Dk.sync
        dsimp only
        rw [if_neg (by omega), if_neg (by simp), if_pos h1]
      · rcases g3 with g3 | g3
        · exact Or.inl g3
        · exact Or.inr ⟨g3, by decide⟩
    · have hl2 : -1 ≤ Dk.less (Dk.less f) ∧ Dk.less (Dk.less f) ≤ 9223372036854775807 := by
        generalize Dk.less f = g at hless
        unfold Dk.less; split <;> omega
      have hst : (frames (l ++ [r])).size ≤ 30000 := by rw [← frames_add, ByteArray.size_append]; omega
      refine ⟨⟨frames (l ++ [r]), ByteArray.empty, Dk.less (Dk.less f), false⟩, 0, frames (l ++ [r]), ?_, ⟨by show (frames (l ++ [r])).size ≤ _; omega, by show (0 : Nat) ≤ _; omega, by show _ ≤ Dk.less (Dk.less f); omega, hl2.2⟩, ?_, hst, Or.inl (whole_all _ (short_big (short_add h hr))).1⟩
      · rw [happ]
        unfold Dk.sync
        dsimp only
        rw [if_neg (by omega), if_neg (by simp), if_neg h1, frames_add]
      · unfold Dk.crash
        dsimp only
        have hz2 : ByteArray.empty.size = 0 := rfl
        rw [hz2, if_neg (by omega), Nat.min_zero]
        have : frames (l ++ [r]) ++ ByteArray.empty.extract 0 0 = frames (l ++ [r]) := by
          apply ba_list; rw [ba_cat, ba_extract]; simp
        rw [this]
        rfl
end Go.Proofs.Ytgffoepnkpkhaaa
