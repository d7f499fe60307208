/- The walks of the reference of layer 8: U32, number, Put, Next. -/
import Derived.Test.YtgffoepnkpkhaaaFrame3
namespace Go.Proofs.Ytgffoepnkpkhaaa
open Go.RowKit

theorem bt0 (n : Nat) (h : n < 4294967296) : (n : Int) / 16777216 = ((Fr.bt n 0 : Nat) : Int) := by unfold Fr.bt; rw [show (2 : Nat) ^ (8 * (3 - 0)) = 16777216 from rfl]; omega
theorem bt1 (n : Nat) : (n : Int) / 65536 % 256 = ((Fr.bt n 1 : Nat) : Int) := by unfold Fr.bt; rw [show (2 : Nat) ^ (8 * (3 - 1)) = 65536 from rfl]; omega
theorem bt2 (n : Nat) : (n : Int) / 256 % 256 = ((Fr.bt n 2 : Nat) : Int) := by unfold Fr.bt; rw [show (2 : Nat) ^ (8 * (3 - 2)) = 256 from rfl]; omega
theorem bt3 (n : Nat) : (n : Int) % 256 = ((Fr.bt n 3 : Nat) : Int) := by unfold Fr.bt; rw [show (2 : Nat) ^ (8 * (3 - 3)) = 1 from rfl]; omega
theorem four_string (w : World) (n : Nat) : (convert 24 9 (.slice (some ⟨w.heap.size, 0, none⟩) 4 4)).run Try.prog (w.alloc (.cells #[.int .u8 (Fr.bt n 0 : Nat), .int .u8 (Fr.bt n 1 : Nat), .int .u8 (Fr.bt n 2 : Nat), .int .u8 (Fr.bt n 3 : Nat)] 5)) = .ok (.string ⟨(Fr.be n).toArray⟩) (w.alloc (.cells #[.int .u8 (Fr.bt n 0 : Nat), .int .u8 (Fr.bt n 1 : Nat), .int .u8 (Fr.bt n 2 : Nat), .int .u8 (Fr.bt n 3 : Nat)] 5)) := by
  refine run_convert_bytes_back (P := Try.prog) _ 24 9 5 ⟨w.heap.size, 0, none⟩ 4 (Fr.be n) Try.underlying24 Try.underlying5 Try.underlying9 (fun j hj => ?_)
  have hj4 : j < 4 := hj
  match j, hj4 with
  | 0, _ => simp [Addr.add, Fr.be, Nat.mod_eq_of_lt (Fr.bt_lt _ _)]
  | 1, _ => simp [Addr.add, Fr.be, Nat.mod_eq_of_lt (Fr.bt_lt _ _)]
  | 2, _ => simp [Addr.add, Fr.be, Nat.mod_eq_of_lt (Fr.bt_lt _ _)]
  | 3, _ => simp [Addr.add, Fr.be, Nat.mod_eq_of_lt (Fr.bt_lt _ _)]
set_option maxHeartbeats 4000000 in
set_option maxRecDepth 100000 in
theorem u32_any (n : Nat) (h : n < 4294967296) (w : World) : Calls Try.prog 58 #[.int .u32 n] w fun e w' => e = .returned (.string ⟨(Fr.be n).toArray⟩) ∧ Below w.heap.size w w' := by
  have e0 := bt0 n h
  have e1 := bt1 n
  have e2 := bt2 n
  have e3 := bt3 n
  have hfs := four_string w n
  have l0 := Fr.bt_lt n 0
  have HB : Hid (Below w.heap.size w (w.alloc (.cells #[.int .u8 (Fr.bt n 0 : Nat), .int .u8 (Fr.bt n 1 : Nat), .int .u8 (Fr.bt n 2 : Nat), .int .u8 (Fr.bt n 3 : Nat)] 5))) := (Below.refl _ _).alloc (Nat.le_refl _) _
  go_enter Try.func58, Try.ntmps58
  go_wp2
  go_ret
  exact ⟨rfl, HB.out⟩
theorem num_add (a b c d : Nat) : (((a : Int) * 16777216 + (b : Int) * 65536) + (c : Int) * 256) + (d : Int) = ((a * 16777216 + b * 65536 + c * 256 + d : Nat) : Int) := by omega
set_option maxHeartbeats 4000000 in
set_option maxRecDepth 100000 in
theorem number_any (s : ByteArray) (hs : 4 ≤ s.size) (w : World) : Calls Try.prog 59 #[.string s] w fun e w' => e = .returned (.int .u32 (Fr.num s.data.toList)) ∧ ∃ k, w' = w.drewN k := by
  have HN : Hid (Fr.num s.data.toList = s[0].toNat * 16777216 + s[1].toNat * 65536 + s[2].toNat * 256 + s[3].toNat) := by
    unfold Fr.num
    rw [byte_at s 0 (by omega), byte_at s 1 (by omega), byte_at s 2 (by omega), byte_at s 3 (by omega)]
    rw [Nat.mul_comm 16777216, Nat.mul_comm 65536, Nat.mul_comm 256]
    rfl
  have b0 := s[0].toNat_lt
  have b1 := s[1].toNat_lt
  have b2 := s[2].toNat_lt
  have b3 := s[3].toNat_lt
  have i0 : (0 : Int) < (s.size : Int) := by omega
  have i1 : (1 : Int) < (s.size : Int) := by omega
  have i2 : (2 : Int) < (s.size : Int) := by omega
  have i3 : (3 : Int) < (s.size : Int) := by omega
  have j0 : 0 < s.size := by omega
  have j1 : 1 < s.size := by omega
  have j2 : 2 < s.size := by omega
  have j3 : 3 < s.size := by omega
  go_enter Try.func59, Try.ntmps59
  go_wp2
  go_quiet (fail)
  go_wp2
  go_ret
  rw [HN.out, ← num_add]
  exact ⟨rfl, _, rfl⟩
theorem put_cat (s : ByteArray) : ((⟨(Fr.be s.size).toArray⟩ : ByteArray) ++ ⟨(Fr.be (Crc.on 0 s.data.toList)).toArray⟩) ++ s = ⟨(Fr.put s.data.toList).toArray⟩ := by
  apply ByteArray.ext
  apply Array.ext'
  simp [Fr.put, ByteArray.data_append]
set_option maxHeartbeats 4000000 in
set_option maxRecDepth 100000 in
theorem refput_any (s : ByteArray) (hs : s.size ≤ 4000000000) (w : World) : Calls Try.prog 35 #[.string s] w fun e w' => e = .returned (.string ⟨(Fr.put s.data.toList).toArray⟩) ∧ Below w.heap.size w w' := by
  have HC := Lib.hid (put_cat s)
  have hz1 : ∀ n, (ByteArray.mk (Fr.be n).toArray).size ≤ 4 := fun n => by show (Fr.be n).toArray.size ≤ 4; simp [Fr.be]
  have k1 := hz1 s.size
  have k2 := hz1 (Crc.on 0 s.data.toList)
  clear hz1
  have k3 : (Fr.be s.size).length ≤ 4 := by simp [Fr.be]
  have k4 : (Fr.be (Crc.on 0 s.data.toList)).length ≤ 4 := by simp [Fr.be]
  go_enter Try.func35, Try.ntmps35
  go_wp2_with fail
  refine (u32_any s.size (by omega) _).mono ?_
  rintro e w1 ⟨rfl, b1⟩
  go_wp2_with fail
  refine (refon_any 0 (by omega) s _ (by unfold maxLen; omega)).mono ?_
  rintro e w2 ⟨rfl, rfl⟩
  go_wp2_with fail
  refine (low b1 (u32_any _ (Crc.on_lt _ _) _)).mono ?_
  rintro e w3 ⟨rfl, b3⟩
  go_wp2
  go_ret
  exact ⟨by rw [← HC.out]; rfl, b3⟩
theorem num_pad (l : List UInt8) (j : Nat) : Fr.num (l ++ List.replicate j 0) = Fr.num l := by
  have h : ∀ i, (l ++ List.replicate j (0 : UInt8)).getD i 0 = l.getD i 0 := fun i => by
    simp only [List.getD, List.getElem?_append]
    split
    · rfl
    · rename_i hi
      rw [List.getElem?_eq_none (by omega : l.length ≤ i), List.getElem?_replicate]
      split <;> rfl
  unfold Fr.num
  rw [h, h, h, h]
def zs (j : Nat) : ByteArray := ⟨(List.replicate j 0).toArray⟩
theorem zs_size (j : Nat) : (zs j).size = j := by show (List.replicate j 0).toArray.size = j; simp
theorem zs_succ (s : ByteArray) (j : Nat) : (s ++ zs j) ++ ⟨#[0]⟩ = s ++ zs (j + 1) := by
  apply ByteArray.ext
  apply Array.ext'
  simp [zs, ByteArray.data_append, List.replicate_succ']
theorem zs_zero (s : ByteArray) : s ++ zs 0 = s := by
  apply ByteArray.ext
  simp [zs]
theorem zs_num (s : ByteArray) (j : Nat) : Fr.num (s ++ zs j).data.toList = Fr.num s.data.toList := by
  rw [show (s ++ zs j).data.toList = s.data.toList ++ List.replicate j 0 by simp [zs, ByteArray.data_append], num_pad]
set_option maxHeartbeats 4000000 in
set_option maxRecDepth 100000 in
theorem refnext_small (s : ByteArray) (h4 : s.size < 4) (w : World) : Calls Try.prog 36 #[.string s] w (NextPost s w) := by
  have hlen : s.data.toList.length = s.size := by simp
  have HF1 : Hid (1024 < Fr.num s.data.toList → fn s = (⟨#[]⟩, ⟨#[]⟩, 3)) := fun ha => fn_err s 3 (by unfold Fr.err; rw [if_pos ha]) (by decide)
  have HF2 : Hid (¬ 1024 < Fr.num s.data.toList → fn s = (⟨#[]⟩, ⟨#[]⟩, 4)) := fun ha => fn_err s 4 (by unfold Fr.err; rw [if_neg ha, if_pos (Or.inl (by omega))]) (by decide)
  have HZ := Lib.hid (zs_zero s)
  clear hlen
  go_enter Try.func36, Try.ntmps36
  go_wp2
  go_loop [5] (fun t => ∃ j : Nat, s.size + j ≤ 4 ∧ t = .string (s ++ zs j)) (fun t => match t with | .string b => 4 - b.size | _ => 0)
  case atStart => exact ⟨0, by omega, by rw [HZ.out]⟩
  case round =>
    obtain ⟨j, hj, rfl⟩ := hrel
    have hsz : (s ++ zs j).size = s.size + j := by rw [ByteArray.size_append, zs_size]
    by_cases hlt : s.size + j < 4
    · have hs1 : (s ++ zs j).size < 4 := by omega
      have HS := Lib.hid (zs_succ s j)
      have HN := Lib.hid (show (s ++ zs (j + 1)).size = s.size + (j + 1) by rw [ByteArray.size_append, zs_size])
      have HSZ := Lib.hid hsz
      clear hsz
      generalize hg : s ++ zs j = t at *
      have HG := Lib.hid hg
      clear hg
      go_wp2
      refine ⟨⟨j + 1, by omega, by rw [HS.out]⟩, ?_⟩
      rw [HS.out]
      show 4 - (s ++ zs (j + 1)).size < 4 - t.size
      rw [HN.out, HSZ.out]
      omega
    · have hs1 : 4 ≤ (s ++ zs j).size := by omega
      have HNUM := Lib.hid (zs_num s j)
      have HSZ := Lib.hid hsz
      clear hsz
      generalize hg : s ++ zs j = t at *
      clear hg HSZ
      by_cases ha : 1024 < Fr.num s.data.toList
      · have HF := Lib.hid (HF1.out ha)
        have HA := Lib.hid ha
        generalize Fr.num s.data.toList = n at *
        clear HF1 HF2
        go_wp2_with fail
        refine (number_any t hs1 _).mono ?_
        rintro e w1 ⟨rfl, nq, rfl⟩
        rw [HNUM.out]
        go_wp2
        go_ret3
        unfold NextPost
        rw [HF.out]
        exact ⟨rfl, rfl, rfl, rfl, Nat.le_refl _, fun _ _ => rfl⟩
      · have HF := Lib.hid (HF2.out ha)
        generalize Fr.num s.data.toList = n at *
        clear HF1 HF2
        go_wp2_with fail
        refine (number_any t hs1 _).mono ?_
        rintro e w1 ⟨rfl, nq, rfl⟩
        rw [HNUM.out]
        go_wp2
        go_ret3
        unfold NextPost
        rw [HF.out]
        exact ⟨rfl, rfl, rfl, rfl, Nat.le_refl _, fun _ _ => rfl⟩
theorem number_low (s : ByteArray) (hs : 4 ≤ s.size) (w : World) : Calls Try.prog 59 #[.string s] w fun e w' => e = .returned (.int .u32 (Fr.num s.data.toList)) ∧ Below w.heap.size w w' :=
  (number_any s hs w).mono fun _ _ ⟨he, k, hw⟩ => ⟨he, by rw [hw]; exact ⟨rfl, rfl, rfl, Nat.le_refl _, fun _ _ => rfl⟩⟩
theorem on_low (n : Nat) (hn : n < 4294967296) (s : ByteArray) (w : World) (hs : s.size ≤ maxLen) : Calls Try.prog 16 #[.int .u32 n, .string s] w fun e w' => e = .returned (.int .u32 (Crc.on n s.data.toList)) ∧ Below w.heap.size w w' :=
  (refon_any n hn s w hs).mono fun _ _ ⟨he, hw⟩ => ⟨he, by rw [← hw]; exact Below.refl _ _⟩
set_option maxHeartbeats 4000000 in
set_option maxRecDepth 100000 in
theorem refnext_big (s : ByteArray) (h4 : 4 ≤ s.size) (hs : s.size ≤ 1000000000000) (w : World) : Calls Try.prog 36 #[.string s] w (NextPost s w) := by
  have hlen : s.data.toList.length = s.size := by simp
  have HLEN := Lib.hid hlen
  clear hlen
  obtain ⟨n, hn⟩ : ∃ n, Fr.num s.data.toList = n := ⟨_, rfl⟩
  have HN := Lib.hid hn
  go_enter Try.func36, Try.ntmps36
  go_wp2
  go_loop [5] (fun t => t = .string s) (fun _ => 0)
  case atStart => rfl
  case round =>
    subst hrel
    by_cases ha : 1024 < n
    · have HF := Lib.hid (fn_err s 3 (by unfold Fr.err; rw [hn, if_pos ha]) (by decide))
      clear hn
      go_wp2_with fail
      refine (number_low s h4 _).mono ?_
      rintro e w1 ⟨rfl, b1⟩
      rw [HN.out]
      go_wp2
      go_ret3
      unfold NextPost
      rw [HF.out]
      exact ⟨rfl, b1⟩
    · by_cases h8 : s.size < 8
      · have HF := Lib.hid (fn_err s 4 (by unfold Fr.err; rw [hn, if_neg ha, if_pos (Or.inl (by rw [HLEN.out]; exact h8))]) (by decide))
        clear hn
        go_wp2_with fail
        refine (number_low s h4 _).mono ?_
        rintro e w1 ⟨rfl, b1⟩
        rw [HN.out]
        go_wp2
        go_ret3
        unfold NextPost
        rw [HF.out]
        exact ⟨rfl, b1⟩
      · have hd8 : decide ((s.size : Int) < 8) = false := by simp; omega
        by_cases hl : s.size < 8 + n
        · have HF := Lib.hid (fn_err s 4 (by unfold Fr.err; rw [hn, if_neg ha, if_pos (Or.inr (by rw [HLEN.out]; exact hl))]) (by decide))
          clear hn
          go_wp2_with fail
          refine (number_low s h4 _).mono ?_
          rintro e w1 ⟨rfl, b1⟩
          rw [HN.out]
          go_wp2_with fail
          refine (low b1 (number_low s h4 _)).mono ?_
          rintro e w2 ⟨rfl, b2⟩
          rw [HN.out]
          go_wp2
          go_ret3
          unfold NextPost
          rw [HF.out]
          exact ⟨rfl, b2⟩
        · have hl8 : ¬ (s.data.toList.length < 8 ∨ s.data.toList.length < 8 + n) := by rw [HLEN.out]; omega
          have hq1 : (4 : Int) ≤ (s.size : Int) := by omega
          obtain ⟨q, hq⟩ : ∃ q, 8 + n = q := ⟨_, rfl⟩
          have HQ := Lib.hid hq
          have hsz1 : (s.extract 8 q).size ≤ maxLen := by rw [ByteArray.size_extract]; unfold maxLen; omega
          have hsz2 : 4 ≤ (s.extract 4 s.size).size := by rw [ByteArray.size_extract]; omega
          have hw1 : wrap64 (8 + (n : Int)) = (q : Int) := by rw [IntWalk.wrap64_in _ (by omega)]; omega
          have hw2 : (q : Int) ≤ (s.size : Int) := by omega
          have hw4 : (0 : Int) ≤ (q : Int) := by omega
          have hw3 : (8 : Int) ≤ (q : Int) := by omega
          have hw5 : IntKind.i64.wrap (8 + (n : Int)) = (q : Int) := by rw [IntWalk.i64_in _ (by omega)]; omega
          have hsl1 : ∀ W, (Instr.slice 9 (.string s) (some (.int .i64 8)) (some (.int .i64 (q : Int))) none).run Try.prog W = .ok (.string (s.extract 8 q)) W := fun W => by
            have := run_slice_string (P := Try.prog) W 9 s .i64 .i64 8 (q : Int) Try.underlying9 (by omega) hw3 hw2
            simpa using this
          have hsl2 : ∀ W, (Instr.slice 9 (.string s) (some (.int .i64 8)) (some (.int .i64 (8 + (n : Int)))) none).run Try.prog W = .ok (.string (s.extract 8 q)) W := fun W => by
            rw [show (8 : Int) + (n : Int) = (q : Int) by omega]; exact hsl1 W
          have hsum := show Crc.on 0 (s.extract 8 q).data.toList = Crc.on 0 ((s.data.toList.drop 8).take n) by rw [list_extract, show q - 8 = n by omega]
          have hnum := show Fr.num (s.extract 4 s.size).data.toList = Fr.num (s.data.toList.drop 4) by rw [list_drop]
          obtain ⟨x, hx⟩ : ∃ x, Crc.on 0 ((s.data.toList.drop 8).take n) = x := ⟨_, rfl⟩
          obtain ⟨y, hy⟩ : ∃ y, Fr.num (s.data.toList.drop 4) = y := ⟨_, rfl⟩
          have HX := Lib.hid (hsum.trans hx)
          have HY := Lib.hid (hnum.trans hy)
          by_cases hxy : x = y
          · have he : Fr.err s.data.toList = 0 := by
              unfold Fr.err
              rw [hn, if_neg ha, if_neg hl8, if_neg (by rw [hx, hy]; exact fun h => h hxy)]
            have HF := Lib.hid (fn_ok s he)
            have hne : ((x : Int) != (y : Int)) = false := by rw [hxy]; simp
            clear hn hsum hnum hx hy hxy he hl8 hq
            go_wp2_with fail
            refine (number_low s h4 _).mono ?_
            rintro e w1 ⟨rfl, b1⟩
            rw [HN.out]
            go_wp2_with fail
            refine (low b1 (number_low s h4 _)).mono ?_
            rintro e w2 ⟨rfl, b2⟩
            rw [HN.out]
            go_wp2_with fail
            refine (low b2 (number_low s h4 _)).mono ?_
            rintro e w3 ⟨rfl, b3⟩
            rw [HN.out]
            go_wp2_with fail
            go_region_held3 (fun W => Below w.heap.size w W) (first | assumption | exact Below.drew b3) (first | (go_at_call 16; refine (low (by assumption) (on_low 0 (by omega) _ _ hsz1)).mono ?_; rintro e w4 ⟨rfl, b4⟩; rw [HX.out]) | (go_at_call 59; refine (low (by assumption) (number_low _ hsz2 _)).mono ?_; rintro e w5 ⟨rfl, b5⟩; rw [HY.out]))
            go_wp2
            go_quiet (fail)
            go_wp2
            go_ret3
            unfold NextPost
            rw [HF.out, HN.out, HQ.out]
            exact ⟨rfl, b5.os, b5.tape, b5.output, b5.size, b5.block⟩
          · have he : Fr.err s.data.toList = 5 := by
              unfold Fr.err
              rw [hn, if_neg ha, if_neg hl8, if_pos (by rw [hx, hy]; exact hxy)]
            have HF := Lib.hid (fn_err s 5 he (by decide))
            have hne : ((x : Int) != (y : Int)) = true := by simp only [bne_iff_ne, ne_eq]; intro e; exact hxy (Int.ofNat_inj.1 e)
            clear hn hsum hnum hx hy hxy he hl8 hq
            go_wp2_with fail
            refine (number_low s h4 _).mono ?_
            rintro e w1 ⟨rfl, b1⟩
            rw [HN.out]
            go_wp2_with fail
            refine (low b1 (number_low s h4 _)).mono ?_
            rintro e w2 ⟨rfl, b2⟩
            rw [HN.out]
            go_wp2_with fail
            refine (low b2 (number_low s h4 _)).mono ?_
            rintro e w3 ⟨rfl, b3⟩
            rw [HN.out]
            go_wp2_with fail
            go_region_held3 (fun W => Below w.heap.size w W) (first | assumption | exact Below.drew b3) (first | (go_at_call 16; refine (low (by assumption) (on_low 0 (by omega) _ _ hsz1)).mono ?_; rintro e w4 ⟨rfl, b4⟩; rw [HX.out]) | (go_at_call 59; refine (low (by assumption) (number_low _ hsz2 _)).mono ?_; rintro e w5 ⟨rfl, b5⟩; rw [HY.out]))
            go_wp2
            go_ret3
            unfold NextPost
            rw [HF.out]
            exact ⟨rfl, b5⟩
theorem refnext_any (s : ByteArray) (hs : s.size ≤ 1000000000000) (w : World) : Calls Try.prog 36 #[.string s] w (NextPost s w) := by
  by_cases h4 : s.size < 4
  · exact refnext_small s h4 w
  · exact refnext_big s (by omega) hs w
end Go.Proofs.Ytgffoepnkpkhaaa
