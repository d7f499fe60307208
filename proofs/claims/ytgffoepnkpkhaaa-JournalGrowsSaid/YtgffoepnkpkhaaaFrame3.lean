/- The walk of frame.Next. -/
import Derived.Test.YtgffoepnkpkhaaaFrame2
namespace Go.Proofs.Ytgffoepnkpkhaaa
open Go.RowKit

theorem low {P : Program} {f : FuncId} {args : Array Value} {w0 W : World} {R : Ending} (hb : Below w0.heap.size w0 W) (h : Calls P f args W fun e w' => e = R ∧ Below W.heap.size W w') :
    Calls P f args W fun e w' => e = R ∧ Below w0.heap.size w0 w' := h.mono fun _ _ ⟨he, hc⟩ => ⟨he, hb.trans (hc.mono hb.size)⟩
/-- what Next answers -/
def fn (s : ByteArray) : ByteArray × ByteArray × Int :=
  if Fr.err s.data.toList = 0 then (s.extract 8 (8 + Fr.num s.data.toList), s.extract (8 + Fr.num s.data.toList) s.size, 0) else (⟨#[]⟩, ⟨#[]⟩, Fr.err s.data.toList)
theorem fn_err (s : ByteArray) (e : Int) (h : Fr.err s.data.toList = e) (he : e ≠ 0) : fn s = (⟨#[]⟩, ⟨#[]⟩, e) := by
  unfold fn; rw [h, if_neg he]
theorem fn_ok (s : ByteArray) (h : Fr.err s.data.toList = 0) : fn s = (s.extract 8 (8 + Fr.num s.data.toList), s.extract (8 + Fr.num s.data.toList) s.size, 0) := by
  unfold fn; rw [if_pos h]
theorem list_extract (s : ByteArray) (a b : Nat) : (s.extract a b).data.toList = (s.data.toList.drop a).take (b - a) := by
  rw [ByteArray.data_extract, Array.toList_extract, List.extract]
theorem list_drop (s : ByteArray) (a : Nat) : (s.extract a s.size).data.toList = s.data.toList.drop a := by
  rw [list_extract, List.take_of_length_le (by rw [List.length_drop]; simp)]
def NextPost (s : ByteArray) (w : World) (e : Ending) (w' : World) : Prop := e = .returned (.tuple #[.string (fn s).1, .string (fn s).2.1, .int .i64 (fn s).2.2]) ∧ Below w.heap.size w w'
set_option maxHeartbeats 1000000 in
set_option maxRecDepth 100000 in
theorem next_any (s : ByteArray) (hs : s.size ≤ 1000000000000) (w : World) : Calls Try.prog 34 #[.string s] w (NextPost s w) := by
  have hlen : s.data.toList.length = s.size := by simp
  have HLEN := Lib.hid hlen
  clear hlen
  obtain ⟨n, hn⟩ : ∃ n, Fr.num s.data.toList = n := ⟨_, rfl⟩
  have HN := Lib.hid hn
  by_cases ha : 1024 < n
  · have HF := Lib.hid (fn_err s 3 (by unfold Fr.err; rw [hn, if_pos ha]) (by decide))
    have HA : Hid (decide (1024 < Fr.num s.data.toList) = true) := by rw [hn]; exact decide_eq_true ha
    clear hn
    go_enter Try.func34, Try.ntmps34
    go_wp2_with fail
    refine (above_any s (by unfold maxLen; omega) _).mono ?_
    rintro e w1 ⟨rfl, b1⟩
    rw [HA.out]
    go_wp2
    go_ret3
    unfold NextPost
    rw [HF.out]
    exact ⟨rfl, b1⟩
  · have HA : Hid (decide (1024 < Fr.num s.data.toList) = false) := by rw [hn]; exact decide_eq_false ha
    by_cases h8 : s.size < 8
    · have HF := Lib.hid (fn_err s 4 (by unfold Fr.err; rw [hn, if_neg ha, if_pos (Or.inl (by rw [HLEN.out]; exact h8))]) (by decide))
      clear hn
      go_enter Try.func34, Try.ntmps34
      go_wp2_with fail
      refine (above_any s (by unfold maxLen; omega) _).mono ?_
      rintro e w1 ⟨rfl, b1⟩
      rw [HA.out]
      go_wp2
      go_ret3
      unfold NextPost
      rw [HF.out]
      exact ⟨rfl, b1⟩
    · by_cases hl : s.size < 8 + n
      · have HF := Lib.hid (fn_err s 4 (by unfold Fr.err; rw [hn, if_neg ha, if_pos (Or.inr (by rw [HLEN.out]; exact hl))]) (by decide))
        clear hn
        go_enter Try.func34, Try.ntmps34
        go_wp2_with fail
        refine (above_any s (by unfold maxLen; omega) _).mono ?_
        rintro e w1 ⟨rfl, b1⟩
        rw [HA.out]
        go_wp2_with fail
        refine (get4_any s (by omega) _).mono ?_
        rintro e w2 ⟨rfl, rfl⟩
        rw [HN.out]
        go_wp2
        go_ret3
        unfold NextPost
        rw [HF.out]
        exact ⟨rfl, b1⟩
      · have hq1 : (4 : Int) ≤ (s.size : Int) := by omega
        have hl8 : ¬ (s.data.toList.length < 8 ∨ s.data.toList.length < 8 + n) := by rw [HLEN.out]; omega
        have hsz1 : (s.extract 8 (8 + n)).size ≤ maxLen := by rw [ByteArray.size_extract]; unfold maxLen; omega
        have hsz2 : 4 ≤ (s.extract 4 s.size).size := by rw [ByteArray.size_extract]; omega
        have hw1 : wrap64 (8 + (n : Int)) = ((8 + n : Nat) : Int) := by rw [IntWalk.wrap64_in _ (by omega)]; omega
        have hw2 : ((8 + n : Nat) : Int) ≤ (s.size : Int) := by omega
        have hsum := show Crc.on 0 (s.extract 8 (8 + n)).data.toList = Crc.on 0 ((s.data.toList.drop 8).take n) by rw [list_extract, show 8 + n - 8 = n by omega]
        have hnum := show Fr.num (s.extract 4 s.size).data.toList = Fr.num (s.data.toList.drop 4) by rw [list_drop]
        obtain ⟨x, hx⟩ : ∃ x, Crc.on 0 ((s.data.toList.drop 8).take n) = x := ⟨_, rfl⟩
        obtain ⟨y, hy⟩ : ∃ y, Fr.num (s.data.toList.drop 4) = y := ⟨_, rfl⟩
        have HX := Lib.hid (hsum.trans hx)
        have HY := Lib.hid (hnum.trans hy)
        by_cases hxy : x = y
        · have he : Fr.err s.data.toList = 0 := by
            unfold Fr.err
            rw [hn, if_neg ha, if_neg hl8, if_neg (by rw [hx, hy]; exact fun h => h hxy)]
          have HF := Lib.hid (fn_ok s he)
          have hne : ((x : Int) != (y : Int)) = false := by rw [hxy]; simp
          clear hn hsum hnum hx hy hxy he
          go_enter Try.func34, Try.ntmps34
          go_wp2_with fail
          refine (above_any s (by unfold maxLen; omega) _).mono ?_
          rintro e w1 ⟨rfl, b1⟩
          rw [HA.out]
          go_wp2_with fail
          refine (get4_any s (by omega) _).mono ?_
          rintro e w2 ⟨rfl, rfl⟩
          rw [HN.out]
          go_wp2_with fail
          go_region_held3 (fun W => Below w.heap.size w W) (first | assumption | exact Below.drew b1) (first | (go_at_call 15; refine (low (by assumption) (of_any _ _ hsz1)).mono ?_; rintro e w3 ⟨rfl, b3⟩; rw [HX.out]) | (go_at_call 57; refine (get4_any _ hsz2 _).mono ?_; rintro e w4 ⟨rfl, rfl⟩; rw [HY.out]))
          go_wp2
          go_quiet (fail)
          go_wp2
          go_ret3
          unfold NextPost
          rw [HF.out, HN.out]
          exact ⟨rfl, b3.os, b3.tape, b3.output, b3.size, b3.block⟩
        · have he : Fr.err s.data.toList = 5 := by
            unfold Fr.err
            rw [hn, if_neg ha, if_neg hl8, if_pos (by rw [hx, hy]; exact hxy)]
          have HF := Lib.hid (fn_err s 5 he (by decide))
          have hne : ((x : Int) != (y : Int)) = true := by simp only [bne_iff_ne, ne_eq]; intro e; exact hxy (Int.ofNat_inj.1 e)
          clear hn hsum hnum hx hy hxy he
          go_enter Try.func34, Try.ntmps34
          go_wp2_with fail
          refine (above_any s (by unfold maxLen; omega) _).mono ?_
          rintro e w1 ⟨rfl, b1⟩
          rw [HA.out]
          go_wp2_with fail
          refine (get4_any s (by omega) _).mono ?_
          rintro e w2 ⟨rfl, rfl⟩
          rw [HN.out]
          go_wp2_with fail
          go_region_held3 (fun W => Below w.heap.size w W) (first | assumption | exact Below.drew b1) (first | (go_at_call 15; refine (low (by assumption) (of_any _ _ hsz1)).mono ?_; rintro e w3 ⟨rfl, b3⟩; rw [HX.out]) | (go_at_call 57; refine (get4_any _ hsz2 _).mono ?_; rintro e w4 ⟨rfl, rfl⟩; rw [HY.out]))
          go_wp2
          go_ret3
          unfold NextPost
          rw [HF.out]
          exact ⟨rfl, b3⟩
end Go.Proofs.Ytgffoepnkpkhaaa
