/- The walks of codec.Word, codec.Kind, and the page's examples of layer 11. -/
import Derived.Test.YtcdbnabbhlnigaaDoorCodec
namespace Go.Proofs.YtcdbnabbhlnigaaDoor
open Go.RowKit

/-- the words of kinds -/
def wd (i : Nat) : ByteArray := match i with
  | 1 => ⟨#[111, 112, 101, 110]⟩
  | 2 => ⟨#[116, 114, 97, 100, 101]⟩
  | 3 => ⟨#[99, 97, 110, 99, 101, 108]⟩
  | 4 => ⟨#[112, 97, 121]⟩
  | 5 => ⟨#[100, 101, 108, 105, 118, 101, 114]⟩
  | 6 => ⟨#[114, 101, 99, 97, 108, 108]⟩
  | 7 => ⟨#[98, 105, 100]⟩
  | 8 => ⟨#[116, 111, 112]⟩
  | 9 => ⟨#[100, 114, 97, 119]⟩
  | 10 => ⟨#[116, 105, 99, 107]⟩
  | _ => ⟨#[]⟩
/-- the variable codec.words -/
structure Words (W : World) : Prop where
  lt : 0 < W.heap.size
  cel : ∀ i, i < 11 → W.cell? ⟨0, i, none⟩ = some (.string (wd i))
theorem Words.keep {W W' : World} (h : Words W) (hb : Below W.heap.size W W') : Words W' :=
  ⟨Nat.lt_of_lt_of_le h.lt hb.size, fun i hi => (hb.cell (p := ⟨0, i, none⟩) h.lt).trans (h.cel i hi)⟩
def wordOf (k : Int) : ByteArray := if 0 ≤ k ∧ k < 11 then wd k.toNat else ⟨#[]⟩
/-- the place of a word among the first k -/
def place (s : ByteArray) (k : Nat) : Nat := match k with
  | 0 => 0
  | k + 1 => if 0 < k ∧ wd k = s then k else place s k
theorem place_at : ∀ i, i < 11 → 0 < i → place (wd i) 11 = i := by decide +kernel
theorem place_none (s : ByteArray) : ∀ k, (∀ j, 0 < j → j < k → wd j ≠ s) → place s k = 0 := by
  intro k
  induction k with
  | zero => intro _; rfl
  | succ k ih =>
    intro h
    rw [place, if_neg (fun ⟨h1, h2⟩ => h k h1 (by omega) h2)]
    exact ih fun j h1 h2 => h j h1 (by omega)
set_option maxHeartbeats 400000 in
theorem word_any (k : Int) (w : World) (hw : Words w) : Calls Tryd.prog 10 #[.int .i64 k] w fun e w' => e = .returned (.string (wordOf k)) ∧ w = w' := by
  by_cases h : 0 ≤ k ∧ k < 11
  · obtain ⟨h1, h2⟩ := h
    obtain ⟨j, rfl⟩ := Int.eq_ofNat_of_zero_le h1
    have hc := hw.cel j (by omega)
    have HE : Hid (wordOf (j : Int) = wd j) := Lib.hid (by unfold wordOf; rw [if_pos ⟨h1, h2⟩, Int.toNat_natCast])
    clear hw
    rw [HE.out]
    generalize wd j = s at *
    go_enter Tryd.func10, Tryd.ntmps10
    go_wp2
    go_ret
    exact ⟨rfl, rfl⟩
  · have HE : Hid (wordOf k = ⟨#[]⟩) := Lib.hid (by unfold wordOf; rw [if_neg h])
    rw [HE.out]
    clear hw
    by_cases h0 : k < 0
    · go_enter Tryd.func10, Tryd.ntmps10
      go_wp2
      go_ret
      exact ⟨rfl, rfl⟩
    · have h1 : 11 ≤ k := by omega
      go_enter Tryd.func10, Tryd.ntmps10
      go_wp2
      go_ret
      exact ⟨rfl, rfl⟩
theorem str_ne {x y : ByteArray} (h : x ≠ y) : (x.toList == y.toList) = false := by
  rw [beq_eq_false_iff_ne]
  intro e
  rw [ByteArray.toList_eq, ByteArray.toList_eq] at e
  exact h (ByteArray.ext (Array.toList_inj.mp e))
set_option maxHeartbeats 1000000 in
theorem kind_any (s : ByteArray) (w : World) (hw : Words w) : Calls Tryd.prog 9 #[.string s] w fun e w' => e = .returned (.tuple #[.int .i64 (place s 11 : Nat), .bool (decide (0 < place s 11))]) ∧ w = w' := by
  have HW := Lib.hid hw
  clear hw
  go_enter Tryd.func9, Tryd.ntmps9
  go_wp2
  go_loop [5] (fun i => ∃ k : Nat, k ≤ 11 ∧ i = .int .i64 k ∧ ∀ j, 0 < j → j < k → wd j ≠ s) (fun i => 11 - (intOf i).toNat)
  case atStart => exact ⟨0, Nat.zero_le _, rfl, fun j h1 h2 => by omega⟩
  case round =>
    obtain ⟨k, hk, rfl, hno⟩ := hrel
    have HNO := Lib.hid hno
    clear hno
    by_cases hlt : k < 11
    · have hc := HW.out.cel k hlt
      have hi2 : (k : Int) < 11 := by omega
      by_cases h0 : k = 0
      · subst h0
        go_wp2
        go_round
        case rel => exact ⟨1, by omega, rfl, fun j h1 h2 => by omega⟩
        case measure => simp [intOf]
      · have hpos : 0 < k := by omega
        have hpos2 : (0 : Int) < (k : Int) := by omega
        by_cases he : wd k = s
        · have HP : Hid (place s 11 = k) := Lib.hid (by rw [← he]; exact place_at k hlt hpos)
          rw [he] at hc
          clear he h0
          go_wp2
          go_ret2
          refine ⟨?_, rfl⟩
          rw [HP.out, show decide (0 < k) = true from by simpa using hpos]
          rfl
        · have hne := str_ne he
          have HN2 := Lib.hid (show ∀ j, 0 < j → j < k + 1 → wd j ≠ s from fun j h1 h2 => by
            by_cases e : j = k
            · subst e; exact he
            · exact HNO.out j h1 (by omega))
          clear he h0
          generalize wd k = x at *
          go_wp2
          go_round
          case rel => exact ⟨k + 1, by omega, by go_num, HN2.out⟩
          case measure => simp [intOf]; omega
    · obtain rfl : k = 11 := by omega
      have HP : Hid (place s 11 = 0) := Lib.hid (place_none s 11 HNO.out)
      go_wp2
      go_ret2
      exact ⟨by rw [HP.out]; rfl, rfl⟩
theorem aw1 : (Cm.mk 10 0 0 0 0 0 0).text = ⟨#[20]⟩ ∧ (Cm.mk 10 0 0 0 0 0 0).err = 0 := by decide +kernel
theorem aw2 : (Cm.mk 4 0 2 0 0 100 0).text = ⟨#[8, 4, 200, 1]⟩ ∧ (Cm.mk 4 0 2 0 0 100 0).err = 0 := by decide +kernel
theorem aw3 : wordOf 10 = ⟨#[116, 105, 99, 107]⟩ := by decide +kernel
theorem fit_small (a b c d e f g : Int) (h : In64 a ∧ In64 b ∧ In64 c ∧ In64 d ∧ In64 e ∧ In64 f ∧ In64 g) : (Cm.mk a b c d e f g).Fit :=
  ⟨h.1, h.2.1, h.2.2.1, h.2.2.2.1, h.2.2.2.2.1, h.2.2.2.2.2.1, h.2.2.2.2.2.2⟩
set_option maxHeartbeats 1000000 in
set_option maxRecDepth 100000 in
theorem awake11_any (w : World) (hw : Words w) : Calls Tryd.prog 8 #[] w fun e w' => e = .returned (.bool true) ∧ Below w.heap.size w w' := by
  have HW := Lib.hid hw
  clear hw
  go_enter Tryd.func8, Tryd.ntmps8
  go_wp2_with fail
  refine (cput_any ⟨10, 0, 0, 0, 0, 0, 0⟩ (fit_small _ _ _ _ _ _ _ (by unfold In64; decide)) _).mono ?_
  rintro e w1 ⟨rfl, b1⟩
  rw [aw1.1, aw1.2]
  go_wp2_with fail
  refine (low b1 (cput_any ⟨4, 0, 2, 0, 0, 100, 0⟩ (fit_small _ _ _ _ _ _ _ (by unfold In64; decide)) _)).mono ?_
  rintro e w2 ⟨rfl, b2⟩
  rw [aw2.1, aw2.2]
  go_wp2_with fail
  refine (word_any 10 _ (HW.out.keep b2)).mono ?_
  rintro e w3 ⟨rfl, rfl⟩
  rw [aw3]
  go_wp2_with fail
  go_ret
  exact ⟨rfl, b2⟩
end Go.Proofs.YtcdbnabbhlnigaaDoor
