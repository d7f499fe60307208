/- The walks of the reference's Has, value, with, Right, Put. -/
import Derived.Test.YtcdbnabbhlnigaaDoorCodec
import Derived.Test.YtcdbnabbhlnigaaDoorCm2
import Derived.Deep.RegionHeld3
import Derived.Deep.RegionLaw
import Derived.IntWalk
namespace Go.Proofs.YtcdbnabbhlnigaaDoor
open Go.RowKit

/-- what a kind has, as a text -/
def letB (k : Int) : ByteArray := ⟨(lettersOf k).toArray⟩
theorem letB_list (k : Int) : (letB k).data.toList = lettersOf k := rfl
set_option maxHeartbeats 2000000 in
set_option maxRecDepth 100000 in
theorem hasL_any (k : Int) (w : World) : Calls Tryd.prog 27 #[.int .i64 k] w fun e w' => e = .returned (.string (letB k)) ∧ Below w.heap.size w w' := by
  by_cases h : k = 2 ∨ k = 7 ∨ k = 5 ∨ k = 6 ∨ k = 4 ∨ k = 8 ∨ k = 9 ∨ k = 1 ∨ k = 10 ∨ k = 3
  · rcases h with rfl | rfl | rfl | rfl | rfl | rfl | rfl | rfl | rfl | rfl
    all_goals
      go_enter Tryd.func27, Tryd.ntmps27
      go_wp2
      go_ret
      exact ⟨rfl, (Below.refl _ _).alloc (Nat.le_refl _) _⟩
  · have HE : Hid (letB k = ⟨#[63]⟩) := Lib.hid (by unfold letB lettersOf; simp only [not_or] at h; simp [h])
    rw [HE.out]
    by_cases h1 : k < 1
    · go_enter Tryd.func27, Tryd.ntmps27
      go_wp2
      go_ret
      exact ⟨rfl, (Below.refl _ _).alloc (Nat.le_refl _) _⟩
    · have h2 : 10 < k := by omega
      go_enter Tryd.func27, Tryd.ntmps27
      go_wp2
      go_ret
      exact ⟨rfl, (Below.refl _ _).alloc (Nat.le_refl _) _⟩
set_option maxHeartbeats 2000000 in
set_option maxRecDepth 100000 in
theorem value_any (c : Cm) (l : UInt8) (hl : good l) (w : World) : Calls Tryd.prog 33 #[cval c, .int .u8 (l.toNat : Nat)] w fun e w' => e = .returned (.int .i64 (valL c l)) ∧ Below w.heap.size w w' := by
  obtain ⟨kd, id, mb, ot, sc, qt, pr⟩ := c
  rcases hl with rfl | rfl | rfl | rfl | rfl | rfl
  · show Calls Tryd.prog 33 #[_, .int .u8 105] w _
    go_enter Tryd.func33, Tryd.ntmps33
    go_wp2
    go_ret
    exact ⟨rfl, (Below.refl _ _).alloc (Nat.le_refl _) _⟩
  · show Calls Tryd.prog 33 #[_, .int .u8 109] w _
    go_enter Tryd.func33, Tryd.ntmps33
    go_wp2
    go_ret
    exact ⟨rfl, (Below.refl _ _).alloc (Nat.le_refl _) _⟩
  · show Calls Tryd.prog 33 #[_, .int .u8 111] w _
    go_enter Tryd.func33, Tryd.ntmps33
    go_wp2
    go_ret
    exact ⟨rfl, (Below.refl _ _).alloc (Nat.le_refl _) _⟩
  · show Calls Tryd.prog 33 #[_, .int .u8 115] w _
    go_enter Tryd.func33, Tryd.ntmps33
    go_wp2
    go_ret
    exact ⟨rfl, (Below.refl _ _).alloc (Nat.le_refl _) _⟩
  · show Calls Tryd.prog 33 #[_, .int .u8 113] w _
    go_enter Tryd.func33, Tryd.ntmps33
    go_wp2
    go_ret
    exact ⟨rfl, (Below.refl _ _).alloc (Nat.le_refl _) _⟩
  · show Calls Tryd.prog 33 #[_, .int .u8 112] w _
    go_enter Tryd.func33, Tryd.ntmps33
    go_wp2
    go_ret
    exact ⟨rfl, (Below.refl _ _).alloc (Nat.le_refl _) _⟩
set_option maxHeartbeats 4000000 in
set_option maxRecDepth 100000 in
theorem with_any (c : Cm) (l : UInt8) (hl : good l) (n : Int) (w : World) : Calls Tryd.prog 28 #[cval c, .int .u8 (l.toNat : Nat), .int .i64 n] w fun e w' => e = .returned (cval (setL c l n)) ∧ Below w.heap.size w w' := by
  obtain ⟨kd, id, mb, ot, sc, qt, pr⟩ := c
  rcases hl with rfl | rfl | rfl | rfl | rfl | rfl
  · show Calls Tryd.prog 28 #[_, .int .u8 105, _] w _
    go_enter Tryd.func28, Tryd.ntmps28
    go_wp2
    exact bodyPost_ret (v := cval ⟨kd, n, mb, ot, sc, qt, pr⟩) (by simp [results, Tryd.results28, go_sem]) rfl ⟨rfl, ((Below.refl _ _).alloc (Nat.le_refl _) _).alloc (by simp) _⟩
  · show Calls Tryd.prog 28 #[_, .int .u8 109, _] w _
    go_enter Tryd.func28, Tryd.ntmps28
    go_wp2
    exact bodyPost_ret (v := cval ⟨kd, id, n, ot, sc, qt, pr⟩) (by simp [results, Tryd.results28, go_sem]) rfl ⟨rfl, ((Below.refl _ _).alloc (Nat.le_refl _) _).alloc (by simp) _⟩
  · show Calls Tryd.prog 28 #[_, .int .u8 111, _] w _
    go_enter Tryd.func28, Tryd.ntmps28
    go_wp2
    exact bodyPost_ret (v := cval ⟨kd, id, mb, n, sc, qt, pr⟩) (by simp [results, Tryd.results28, go_sem]) rfl ⟨rfl, ((Below.refl _ _).alloc (Nat.le_refl _) _).alloc (by simp) _⟩
  · show Calls Tryd.prog 28 #[_, .int .u8 115, _] w _
    go_enter Tryd.func28, Tryd.ntmps28
    go_wp2
    exact bodyPost_ret (v := cval ⟨kd, id, mb, ot, n, qt, pr⟩) (by simp [results, Tryd.results28, go_sem]) rfl ⟨rfl, ((Below.refl _ _).alloc (Nat.le_refl _) _).alloc (by simp) _⟩
  · show Calls Tryd.prog 28 #[_, .int .u8 113, _] w _
    go_enter Tryd.func28, Tryd.ntmps28
    go_wp2
    exact bodyPost_ret (v := cval ⟨kd, id, mb, ot, sc, n, pr⟩) (by simp [results, Tryd.results28, go_sem]) rfl ⟨rfl, ((Below.refl _ _).alloc (Nat.le_refl _) _).alloc (by simp) _⟩
  · show Calls Tryd.prog 28 #[_, .int .u8 112, _] w _
    go_enter Tryd.func28, Tryd.ntmps28
    go_wp2
    exact bodyPost_ret (v := cval ⟨kd, id, mb, ot, sc, qt, n⟩) (by simp [results, Tryd.results28, go_sem]) rfl ⟨rfl, ((Below.refl _ _).alloc (Nat.le_refl _) _).alloc (by simp) _⟩
end Go.Proofs.YtcdbnabbhlnigaaDoor
