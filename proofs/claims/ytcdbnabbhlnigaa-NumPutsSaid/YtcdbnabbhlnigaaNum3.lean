/- num.Text and the page's examples of layer 7. -/
import Derived.Test.YtcdbnabbhlnigaaNum2
namespace Go.Proofs.Ytcdbnabbhlnigaa
open Go.RowKit

set_option maxHeartbeats 400000 in
set_option maxRecDepth 100000 in
theorem text_any (s : ByteArray) (hs : s.size ≤ 1000000000000) (w : World) :
    Calls Try.prog 23 #[.string s] w fun e w' => e = .returned (.string (⟨(Vint.put s.size).toArray⟩ ++ s)) ∧ Below w.heap.size w w' := by
  have hl := Vint.enc_len 9 (Vint.zig s.size)
  have hsz : (ByteArray.mk (Vint.put s.size).toArray).size ≤ 10 := by
    show (Vint.put s.size).toArray.size ≤ 10
    rw [List.size_toArray]
    exact hl.2
  clear hl
  go_enter Try.func23, Try.ntmps23
  go_wp2_with fail
  refine (put_any _ (by omega) (by omega) _).mono ?_
  rintro e w1 ⟨rfl, b1⟩
  go_wp2
  go_ret
  exact ⟨rfl, b1⟩
theorem ex1 : (ByteArray.mk (Vint.put (-1)).toArray) = ⟨#[1]⟩ := by decide +kernel
theorem ex2 : (ByteArray.mk (Vint.put 64).toArray) = ⟨#[128, 1]⟩ := by decide +kernel
theorem ex3 : (ByteArray.mk (Vint.put ((ByteArray.mk #[97]).size : Int)).toArray) ++ ByteArray.mk #[97] = ⟨#[2, 97]⟩ := by decide +kernel
set_option maxHeartbeats 400000 in
set_option maxRecDepth 100000 in
theorem awake7_any (w : World) : Calls Try.prog 6 #[] w fun e w' => e = .returned (.bool true) ∧ Below w.heap.size w w' := by
  go_enter Try.func6, Try.ntmps6
  go_wp2_with fail
  refine (put_any _ (by omega) (by omega) _).mono ?_
  rintro e w1 ⟨rfl, b1⟩
  rw [ex1]
  go_wp2_with fail
  refine (put_any _ (by omega) (by omega) _).mono ?_
  rintro e w2 ⟨rfl, c2⟩
  have b2 := b1.trans (c2.mono b1.size)
  clear b1 c2
  rw [ex2]
  go_wp2_with fail
  refine (text_any _ (by decide) _).mono ?_
  rintro e w3 ⟨rfl, c3⟩
  have b3 := b2.trans (c3.mono b2.size)
  clear b2 c3
  rw [ex3]
  go_wp2_with fail
  go_ret
  exact ⟨rfl, b3⟩
end Go.Proofs.Ytcdbnabbhlnigaa
