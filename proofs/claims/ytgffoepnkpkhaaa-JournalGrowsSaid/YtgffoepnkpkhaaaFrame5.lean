/- The page's example of layer 8; a frame, told next. -/
import Derived.Test.YtgffoepnkpkhaaaFrame4
namespace Go.Proofs.Ytgffoepnkpkhaaa
open Go.RowKit

theorem fa1 : fp ⟨#[97]⟩ = (⟨#[0, 0, 0, 1, 232, 183, 190, 67, 97]⟩, 0) := by decide +kernel
theorem fa2 : fn ((⟨#[0, 0, 0, 1, 232, 183, 190, 67, 97]⟩ : ByteArray) ++ ⟨#[122]⟩) = (⟨#[97]⟩, ⟨#[122]⟩, 0) := by decide +kernel
theorem fa2' : fn (⟨#[0, 0, 0, 1, 232, 183, 190, 67, 97, 122]⟩ : ByteArray) = (⟨#[97]⟩, ⟨#[122]⟩, 0) := by decide +kernel
set_option maxHeartbeats 1000000 in
set_option maxRecDepth 100000 in
theorem awake8_any (w : World) : Calls Try.prog 31 #[] w fun e w' => e = .returned (.bool true) ∧ Below w.heap.size w w' := by
  go_enter Try.func31, Try.ntmps31
  go_wp2_with fail
  refine (fput_any ⟨#[97]⟩ (by decide) _).mono ?_
  rintro e w1 ⟨rfl, b1⟩
  rw [fa1]
  dsimp only
  go_wp2_with fail
  refine (next_any _ (by decide) _).mono ?_
  rintro e w2 ⟨rfl, c2⟩
  have b2 := b1.trans (c2.mono b1.size)
  clear b1 c2
  first | rw [fa2] | rw [fa2']
  dsimp only
  go_wp2_with fail
  refine (size_any ⟨#[97]⟩ (by decide) _).mono ?_
  rintro e w3 ⟨rfl, rfl⟩
  rw [show (if (ByteArray.mk #[97]).size ≤ 1024 then 8 + ((ByteArray.mk #[97]).size : Int) else 0) = 9 from rfl]
  go_wp2_with fail
  go_ret
  exact ⟨rfl, b2⟩
theorem list_cat (a b : ByteArray) : (a ++ b).data.toList = a.data.toList ++ b.data.toList := by simp [ByteArray.data_append]
theorem of_list {a : ByteArray} {l : List UInt8} (h : a.data.toList = l) : a = ⟨l.toArray⟩ := by
  apply ByteArray.ext
  apply Array.ext'
  simpa using h
theorem fn_put (s m : ByteArray) (h : s.size ≤ 1024) : fn ((⟨(Fr.put s.data.toList).toArray⟩ : ByteArray) ++ m) = (s, m, 0) := by
  have hl : s.data.toList.length ≤ 1024 := by simpa using h
  have e : ((⟨(Fr.put s.data.toList).toArray⟩ : ByteArray) ++ m).data.toList = Fr.put s.data.toList ++ m.data.toList := by rw [list_cat]
  have he : Fr.err ((⟨(Fr.put s.data.toList).toArray⟩ : ByteArray) ++ m).data.toList = 0 := by rw [e]; exact Fr.put_err _ _ hl
  rw [fn_ok _ he]
  have h1 : ((⟨(Fr.put s.data.toList).toArray⟩ : ByteArray) ++ m).extract 8 (8 + Fr.num ((⟨(Fr.put s.data.toList).toArray⟩ : ByteArray) ++ m).data.toList) = s := by
    have : (((⟨(Fr.put s.data.toList).toArray⟩ : ByteArray) ++ m).extract 8 (8 + Fr.num ((⟨(Fr.put s.data.toList).toArray⟩ : ByteArray) ++ m).data.toList)).data.toList = s.data.toList := by
      rw [list_extract, e, Nat.add_sub_cancel_left]
      exact Fr.put_rec _ _ hl
    rw [of_list this]
  have h2 : ((⟨(Fr.put s.data.toList).toArray⟩ : ByteArray) ++ m).extract (8 + Fr.num ((⟨(Fr.put s.data.toList).toArray⟩ : ByteArray) ++ m).data.toList) ((⟨(Fr.put s.data.toList).toArray⟩ : ByteArray) ++ m).size = m := by
    have : (((⟨(Fr.put s.data.toList).toArray⟩ : ByteArray) ++ m).extract (8 + Fr.num ((⟨(Fr.put s.data.toList).toArray⟩ : ByteArray) ++ m).data.toList) ((⟨(Fr.put s.data.toList).toArray⟩ : ByteArray) ++ m).size).data.toList = m.data.toList := by
      rw [list_drop, e]
      exact Fr.put_rest _ _ hl
    rw [of_list this]
  rw [h1, h2]
end Go.Proofs.Ytgffoepnkpkhaaa
