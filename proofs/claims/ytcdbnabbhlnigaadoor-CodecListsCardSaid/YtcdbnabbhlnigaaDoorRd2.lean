/- codec.read: the walk. -/
import Derived.Test.YtcdbnabbhlnigaaDoorRd
namespace Go.Proofs.YtcdbnabbhlnigaaDoor
open Go.RowKit

def RdPost (T : TypeId) (br : Nat) (s : ByteArray) (e0 : Int) (w : World) (e : Ending) (w' : World) : Prop :=
  e = .returned (.tuple #[cval (rdC s e0).1, .int .i64 (rdC s e0).2.1]) ∧ Rdr T w' br (rdC s e0).2.2.1 (rdC s e0).2.2.2 ∧ Only br w w'
theorem Only.drew {b : Nat} {u v : World} (h : Only b u v) : Only b u v.drew := ⟨h.os, h.tape, h.output, h.size, h.far⟩
theorem tk_sz (p : Int → Bool) (s : ByteArray) (e : Int) : (tk p s e).2.2.1.size ≤ s.size := by
  unfold tk
  split
  · exact Nat.le_refl _
  · split
    · exact Nat.le_refl _
    · split
      · simp only [ByteArray.size_extract]; omega
      · exact Nat.le_refl _
/-- the loop of read -/
structure RdRel (b : Nat) (st0 : Cm × ByteArray × Int) (c0 : Cm) (w wr : World) (br rs bc g k : Nat) (N : Nat) : Prop where
  only : Only br w wr
  rdr : Rdr 78 wr br (readV b st0 k).2.1 (readV b st0 k).2.2
  box : Boxed wr bc (readV b st0 k).1
  res : Boxed wr rs zeroC
  row : Vals wr g c0
  sz : (readV b st0 k).2.1.size ≤ N
theorem readV_succ_yes (b : Nat) (st : Cm × ByteArray × Int) (k : Nat) (h : hasF b k = true) : readV b st (k + 1) = stepJ k (readV b st k) := by rw [readV, if_pos h]
theorem readV_succ_no (b : Nat) (st : Cm × ByteArray × Int) (k : Nat) (h : hasF b k = false) : readV b st (k + 1) = readV b st k := by rw [readV, if_neg (by simp [h])]
set_option maxHeartbeats 8000000 in
set_option maxRecDepth 100000 in
theorem rd_some (br : Nat) (s : ByteArray) (e0 n : Int) (q : Bool) (s1 : ByteArray) (ht : tk (fun _ => true) s e0 = (n, q, s1, 0)) (hk : (hasOf n).2 = true) (hs : s.size ≤ 1000000000) (hs1 : s1.size ≤ 1000000000) (w : World) (hr : Rdr 78 w br s e0) :
    Calls Tryd.prog 30 #[.pointer (some ⟨br, 0, none⟩)] w (RdPost 78 br s e0 w) := by
  obtain ⟨⟨c2, s2, e2⟩, hv⟩ : ∃ r, readV (hasOf n).1 (⟨n, 0, 0, 0, 0, 0, 0⟩, s1, 0) 6 = r := ⟨_, rfl⟩
  have HRD := Lib.hid (rd_vals s e0 n q s1 ht hk c2 s2 e2 hv)
  have HV := Lib.hid hv
  have HT := Lib.hid ht
  have HK := Lib.hid hk
  have hlt := hasOf_lt n
  have hbr := hr.lt
  have HR0 := Lib.hid (Rdr.alloc hr (.cells (ccells zeroC) 29))
  have hbr2 : br ≠ w.heap.size := by omega
  clear ht hk hv hr
  go_enter Tryd.func30, Tryd.ntmps30
  go_wp2_with fail
  refine (num_any br s e0 (by omega) _ HR0.out).mono ?_
  rintro e w1 ⟨rfl, hr1, ho1⟩
  rw [HT.out] at hr1 ⊢
  dsimp only at hr1 ⊢
  have HRS := Lib.hid (Boxed.far (Boxed.new w zeroC) ho1 (by omega))
  have o1 : Only br w w1 := (Only.alloc (Only.refl br w) _).trans ho1
  clear ho1 HR0
  go_wp2_with fail
  refine (err_any br s1 0 _ hr1).mono ?_
  rintro e w2 ⟨rfl, rfl⟩
  go_wp2_with fail
  refine (has_any n _).mono ?_
  rintro e w2 ⟨rfl, rfl⟩
  rw [HK.out]
  have HRS2 := Lib.hid (Boxed.alloc HRS.out (.cells #[.int .i64 n, .int .i64 0, .int .i64 0, .int .i64 0, .int .i64 0, .int .i64 0, .int .i64 0] 29))
  have HR2 := Lib.hid (Rdr.alloc hr1 (.cells #[.int .i64 n, .int .i64 0, .int .i64 0, .int .i64 0, .int .i64 0, .int .i64 0, .int .i64 0] 29))
  have o2 := Only.alloc o1 (.cells #[.int .i64 n, .int .i64 0, .int .i64 0, .int .i64 0, .int .i64 0, .int .i64 0, .int .i64 0] 29)
  have HB2 := Lib.hid (Boxed.new w1 ⟨n, 0, 0, 0, 0, 0, 0⟩)
  have hl1 := HRS.out.lt
  have hl2 := hr1.lt
  dsimp only [ccells] at HB2
  have hl3 := HB2.out.lt
  clear HRS hr1 o1
  generalize (w1.alloc (.cells #[.int .i64 n, .int .i64 0, .int .i64 0, .int .i64 0, .int .i64 0, .int .i64 0, .int .i64 0] 29)) = W2 at *
  generalize w1.heap.size = bc at *
  obtain ⟨p0, p1, p2, p3, p4, p5, p6⟩ := HB2.out.cells
  dsimp only at p0 p1 p2 p3 p4 p5 p6
  go_wp2_with fail
  refine (values_any ⟨n, 0, 0, 0, 0, 0, 0⟩ _).mono ?_
  rintro e w3 ⟨g, rfl, hvs, hg, c3⟩
  have h0 : RdRel (hasOf n).1 (⟨n, 0, 0, 0, 0, 0, 0⟩, s1, 0) ⟨n, 0, 0, 0, 0, 0, 0⟩ w w3 br w.heap.size bc g 0 1000000000 :=
    ⟨o2.trans (Only.below c3), HR2.out.keep c3, HB2.out.keep c3, HRS2.out.keep c3, hvs, hs1⟩
  have hgb : g ≠ bc := by omega
  have hgr : g ≠ br := by omega
  have hgw : g ≠ w.heap.size := by omega
  have hcb : bc ≠ br := by omega
  have hcw : bc ≠ w.heap.size := by omega
  have hwb : w.heap.size ≤ bc := by omega
  have hwg : w.heap.size ≤ g := by omega
  clear c3 hvs hg o2 HR2 HB2 HRS2 p0 p1 p2 p3 p4 p5 p6 hl1 hl2 hl3
  generalize hbb : (hasOf n).1 = bb at *
  clear hbb
  go_wp2_with fail
  go_loopw [34] (fun i wr => ∃ k : Nat, k ≤ 6 ∧ i = .int .i64 k ∧ RdRel bb (⟨n, 0, 0, 0, 0, 0, 0⟩, s1, 0) ⟨n, 0, 0, 0, 0, 0, 0⟩ w wr br w.heap.size bc g k 1000000000) (fun i _ => 6 - (intOf i).toNat)
  case atStart => exact ⟨0, Nat.zero_le _, rfl, h0⟩
  case round =>
    obtain ⟨k, hk, rfl, ho, hrd, hbx, hrs, hvals, hsz⟩ := hrel
    have hgl := hvals.lt
    by_cases hlt6 : k < 6
    · obtain ⟨q0, q1, q2⟩ := hvals.cel k hlt6
      unfold setF at q2
      have hs6 : (k : Int) < 6 := by omega
      have HVA := Lib.hid hvals
      have HRDR := Lib.hid hrd
      have HBX := Lib.hid hbx
      have HRES := Lib.hid hrs
      have HO := Lib.hid ho
      have hl1 := hrd.lt
      have hl2 := hbx.lt
      have hl3 := hrs.lt
      clear hvals hrd hbx hrs ho
      generalize hat : (⟨n, 0, 0, 0, 0, 0, 0⟩ : Cm).at k = ak at *
      clear hat
      cases hh : hasF bb k
      · obtain ⟨t1, t2⟩ := bits_no bb k hlt hlt6 hh
        have HSU := Lib.hid (readV_succ_no bb (⟨n, 0, 0, 0, 0, 0, 0⟩, s1, 0) k hh)
        clear hh
        go_wp2_with fail
        go_roundw
        case rel => exact ⟨k + 1, by omega, by go_num, ⟨Only.alloc HO.out _, by rw [HSU.out]; exact Rdr.alloc HRDR.out _, by rw [HSU.out]; exact Boxed.alloc HBX.out _, Boxed.alloc HRES.out _, Vals.alloc HVA.out _, by rw [HSU.out]; exact hsz⟩⟩
        case measure => simp [intOf]; omega
      · obtain ⟨t1, t2⟩ := bits_yes bb k hlt hlt6 hh
        have HSU := Lib.hid (readV_succ_yes bb (⟨n, 0, 0, 0, 0, 0, 0⟩, s1, 0) k hh)
        obtain ⟨⟨c', s', e'⟩, hst⟩ : ∃ st, readV bb (⟨n, 0, 0, 0, 0, 0, 0⟩, s1, 0) k = st := ⟨_, rfl⟩
        rw [hst] at HRDR HBX hsz HSU
        dsimp only at HRDR HBX hsz
        have hes := enters_set k hlt6
        clear hh hst
        go_wp2_with fail
        have HVA6 := Lib.hid (Vals.alloc HVA.out (.cells #[.int .i64 (bitOf k : Nat), .int .i64 ak, .func (Fn.func (40 + k)) #[] #[]] 60))
        have HRD6 := Lib.hid (Rdr.alloc HRDR.out (.cells #[.int .i64 (bitOf k : Nat), .int .i64 ak, .func (Fn.func (40 + k)) #[] #[]] 60))
        have HBX6 := Lib.hid (Boxed.alloc HBX.out (.cells #[.int .i64 (bitOf k : Nat), .int .i64 ak, .func (Fn.func (40 + k)) #[] #[]] 60))
        have HRE6 := Lib.hid (Boxed.alloc HRES.out (.cells #[.int .i64 (bitOf k : Nat), .int .i64 ak, .func (Fn.func (40 + k)) #[] #[]] 60))
        have HO6 := Lib.hid (Only.alloc HO.out (.cells #[.int .i64 (bitOf k : Nat), .int .i64 ak, .func (Fn.func (40 + k)) #[] #[]] 60))
        have HVB := Lib.hid (heap_alloc_new wr (.cells #[.int .i64 (bitOf k : Nat), .int .i64 ak, .func (Fn.func (40 + k)) #[] #[]] 60))
        have hvr : wr.heap.size ≠ br := by omega
        have hvc : wr.heap.size ≠ bc := by omega
        have hvl : wr.heap.size < (wr.alloc (.cells #[.int .i64 (bitOf k : Nat), .int .i64 ak, .func (Fn.func (40 + k)) #[] #[]] 60)).heap.size := by simp
        have y1 : (wr.alloc (.cells #[.int .i64 (bitOf k : Nat), .int .i64 ak, .func (Fn.func (40 + k)) #[] #[]] 60)).cell? ⟨wr.heap.size, 2, none⟩ = some (.func (Fn.func (40 + k)) #[] #[]) := by rw [Lib.cell_of_heap HVB.out]; rfl
        clear HVA HRDR HBX HRES HO q0 q1 q2 hgl hl1 hl2 hl3
        generalize (wr.alloc (.cells #[.int .i64 (bitOf k : Nat), .int .i64 ak, .func (Fn.func (40 + k)) #[] #[]] 60)) = W4 at *
        generalize wr.heap.size = vb at *
        go_region_held3 (fun W => W.cell? ⟨vb, 2, none⟩ = some (.func (Fn.func (40 + k)) #[] #[])) (first | assumption | exact y1)
          (first | (go_at_call 46; refine (num_any br s' e' (by omega) _ (by exact HRD6.out)).mono ?_; rintro e x1 ⟨rfl, hr1, ho1⟩; have HVB1 := Lib.hid ((ho1.far vb hvl hvr).trans HVB.out); have y2 : x1.cell? ⟨vb, 2, none⟩ = some (.func (Fn.func (40 + k)) #[] #[]) := by rw [Lib.cell_of_heap HVB1.out]; rfl) | (refine (set_any k hlt6 bc c' _ _ (Boxed.far (u := W4.drew) HBX6.out ho1 hcb)).mono ?_; rintro e x2 ⟨rfl, hb2, ho2⟩; have y3 : x2.cell? ⟨vb, 2, none⟩ = some (.func (Fn.func (40 + k)) #[] #[]) := by rw [Lib.cell_of_heap ((ho2.far vb (lt_of_block HVB1.out) hvc).trans HVB1.out)]; rfl))
        have r1 : Only br w x2 := Only.new ((HO6.out.drew).trans ho1) ho2 hwb
        have r2 : Rdr 78 x2 br (tk (fun _ => true) s' e').2.2.1 (tk (fun _ => true) s' e').2.2.2 := hr1.far ho2 (Ne.symm hcb)
        have r3 : Boxed x2 w.heap.size zeroC := (Boxed.far (u := W4.drew) HRE6.out ho1 (Ne.symm hbr2)).far ho2 (Ne.symm hcw)
        have r4 : Vals x2 g ⟨n, 0, 0, 0, 0, 0, 0⟩ := (Vals.far (u := W4.drew) HVA6.out ho1 hgr).far ho2 hgb
        have r5 := Nat.le_trans (tk_sz (fun _ => true) s' e') hsz
        have R1 := Lib.hid r1
        have R2 := Lib.hid r2
        have R3 := Lib.hid r3
        have R4 := Lib.hid r4
        have R5 := Lib.hid hb2
        clear r1 r2 r3 r4 hb2 ho1 ho2 hr1 y1 y2 y3 HVB HVB1 HO6 HRE6 HBX6 HRD6 HVA6
        go_wp2_with fail
        go_roundw
        case rel =>
          refine ⟨k + 1, by omega, by go_num, R1.out, ?_, ?_, R3.out, R4.out, ?_⟩
          · rw [HSU.out]; exact R2.out
          · rw [HSU.out]; exact R5.out
          · rw [HSU.out]; exact r5
        case measure => simp [intOf]; omega
    · obtain rfl : k = 6 := by omega
      rw [HV.out] at hrd hbx
      dsimp only at hrd hbx
      have HRES := Lib.hid hrs
      have HBX := Lib.hid hbx
      obtain ⟨p0, p1, p2, p3, p4, p5, p6⟩ := hbx.cells
      clear hvals hbx hrs
      go_wp2_with fail
      refine (err_any br s2 e2 _ hrd).mono ?_
      rintro e w5 ⟨rfl, rfl⟩
      by_cases h2 : e2 = 0
      · subst h2
        rw [if_neg (by simp)] at HRD
        go_wp2_with (refine store_cm rfl _ _ rfl rfl w.heap.size c2 rfl rfl zeroC HRES.out ?_; intro W3 P3; obtain ⟨r0, r1, r2, r3, r4, r5, r6⟩ := P3.row.cells)
        refine bodyPost_ret (v := .tuple #[cval c2, .int .i64 0]) (by simp [results, Tryd.results30, go_sem, r0, r1, r2, r3, r4, r5, r6]) rfl ⟨?_, ?_, ?_⟩
        · rw [HRD.out]
        · rw [HRD.out]; exact hrd.far P3.only hbr2
        · exact Only.new ho P3.only (Nat.le_refl _)
      · rw [if_pos h2] at HRD
        have hne : (e2 != 0) = true := by simpa using h2
        clear h2
        go_wp2_with (refine store_cm rfl _ _ rfl rfl w.heap.size zeroC rfl rfl zeroC HRES.out ?_; intro W3 P3; obtain ⟨r0, r1, r2, r3, r4, r5, r6⟩ := P3.row.cells)
        refine bodyPost_ret (v := .tuple #[cval zeroC, .int .i64 e2]) (by simp [results, Tryd.results30, go_sem, r0, r1, r2, r3, r4, r5, r6]) rfl ⟨?_, ?_, ?_⟩
        · rw [HRD.out]
        · rw [HRD.out]; exact hrd.far P3.only hbr2
        · exact Only.new ho P3.only (Nat.le_refl _)
set_option maxHeartbeats 8000000 in
set_option maxRecDepth 100000 in
theorem rd_any (br : Nat) (s : ByteArray) (e0 : Int) (hs : s.size ≤ 1000000000) (w : World) (hr : Rdr 78 w br s e0) : Calls Tryd.prog 30 #[.pointer (some ⟨br, 0, none⟩)] w (RdPost 78 br s e0 w) := by
  obtain ⟨⟨n, q, s1, e1⟩, ht⟩ : ∃ t, tk (fun _ => true) s e0 = t := ⟨_, rfl⟩
  have hsz := tk_sz (fun _ => true) s e0
  rw [ht] at hsz
  dsimp only at hsz
  have HT := Lib.hid ht
  have hbr := hr.lt
  have HR0 := Lib.hid (Rdr.alloc hr (.cells (ccells zeroC) 29))
  have hbr2 : br ≠ w.heap.size := by omega
  clear ht
  by_cases h1 : e1 = 0
  · subst h1
    cases hk : (hasOf n).2
    · have HRD := Lib.hid (rd_kind s e0 n q s1 HT.out hk)
      have HK := Lib.hid hk
      clear hk hr
      go_enter Tryd.func30, Tryd.ntmps30
      go_wp2_with fail
      refine (num_any br s e0 (by omega) _ HR0.out).mono ?_
      rintro e w1 ⟨rfl, hr1, ho1⟩
      rw [HT.out] at hr1 ⊢
      dsimp only at hr1 ⊢
      have HRS := Lib.hid (Boxed.far (Boxed.new w zeroC) ho1 (by omega))
      have o1 : Only br w w1 := (Only.alloc (Only.refl br w) _).trans ho1
      clear ho1
      go_wp2_with fail
      refine (err_any br s1 0 _ hr1).mono ?_
      rintro e w2 ⟨rfl, rfl⟩
      go_wp2_with fail
      refine (has_any n _).mono ?_
      rintro e w2 ⟨rfl, rfl⟩
      rw [HK.out]
      have HRS2 := Lib.hid (Boxed.alloc HRS.out (.cells #[.int .i64 n, .int .i64 0, .int .i64 0, .int .i64 0, .int .i64 0, .int .i64 0, .int .i64 0] 29))
      have hr2 := Rdr.alloc hr1 (.cells #[.int .i64 n, .int .i64 0, .int .i64 0, .int .i64 0, .int .i64 0, .int .i64 0, .int .i64 0] 29)
      have o2 := Only.alloc o1 (.cells #[.int .i64 n, .int .i64 0, .int .i64 0, .int .i64 0, .int .i64 0, .int .i64 0, .int .i64 0] 29)
      clear HRS hr1 o1
      generalize (w1.alloc (.cells #[.int .i64 n, .int .i64 0, .int .i64 0, .int .i64 0, .int .i64 0, .int .i64 0, .int .i64 0] 29)) = W2 at *
      go_wp2_with (refine store_cm rfl _ _ rfl rfl w.heap.size zeroC rfl rfl zeroC HRS2.out ?_; intro W3 P3; obtain ⟨p0, p1, p2, p3, p4, p5, p6⟩ := P3.row.cells)
      refine bodyPost_ret (v := .tuple #[cval zeroC, .int .i64 3]) (by simp [results, Tryd.results30, go_sem, p0, p1, p2, p3, p4, p5, p6]) rfl ⟨?_, ?_, ?_⟩
      · rw [HRD.out]
      · rw [HRD.out]; exact hr2.far P3.only hbr2
      · exact Only.new o2 P3.only (Nat.le_refl _)
    · exact rd_some br s e0 n q s1 HT.out hk hs (by omega) w hr
  · have HRD := Lib.hid (rd_bad s e0 n q s1 e1 HT.out h1)
    have hne : (e1 != 0) = true := by simpa using h1
    clear h1 hr
    go_enter Tryd.func30, Tryd.ntmps30
    go_wp2_with fail
    refine (num_any br s e0 (by omega) _ HR0.out).mono ?_
    rintro e w1 ⟨rfl, hr1, ho1⟩
    rw [HT.out] at hr1 ⊢
    dsimp only at hr1 ⊢
    have HRS := Lib.hid (Boxed.far (Boxed.new w zeroC) ho1 (by omega))
    have o1 : Only br w w1 := (Only.alloc (Only.refl br w) _).trans ho1
    clear ho1
    go_wp2_with fail
    refine (err_any br s1 e1 _ hr1).mono ?_
    rintro e w2 ⟨rfl, rfl⟩
    go_wp2_with (refine store_cm rfl _ _ rfl rfl w.heap.size zeroC rfl rfl zeroC HRS.out ?_; intro W3 P3; obtain ⟨p0, p1, p2, p3, p4, p5, p6⟩ := P3.row.cells)
    refine bodyPost_ret (v := .tuple #[cval zeroC, .int .i64 e1]) (by simp [results, Tryd.results30, go_sem, p0, p1, p2, p3, p4, p5, p6]) rfl ⟨?_, ?_, ?_⟩
    · rw [HRD.out]
    · rw [HRD.out]; exact hr1.far P3.only hbr2
    · exact Only.new o1 P3.only (Nat.le_refl _)
end Go.Proofs.YtcdbnabbhlnigaaDoor
