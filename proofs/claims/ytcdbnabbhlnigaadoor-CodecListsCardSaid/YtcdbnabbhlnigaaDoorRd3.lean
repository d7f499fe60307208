/- The reference's Read: the walk. -/
import Derived.Test.YtcdbnabbhlnigaaDoorRd2
namespace Go.Proofs.YtcdbnabbhlnigaaDoor
open Go.RowKit

def RRdPost (br : Nat) (s : ByteArray) (e0 : Int) (w : World) (e : Ending) (w' : World) : Prop :=
  e = .returned (cval (rdC s e0).1) ∧ Rdr 70 w' br (rdC s e0).2.2.1 (rdC s e0).2.1 ∧ Only br w w'
def foldS (n : Int) (s1 : ByteArray) (L : List UInt8) : Cm × ByteArray × Int := L.foldl stepL (⟨n, 0, 0, 0, 0, 0, 0⟩, s1, 0)
theorem foldS_snoc (n : Int) (s1 : ByteArray) (L : List UInt8) (l : UInt8) : foldS n s1 (L ++ [l]) = stepL (foldS n s1 L) l := by unfold foldS; rw [List.foldl_append]; rfl
structure RRdRel (n : Int) (s1 : ByteArray) (L : ByteArray) (w wr : World) (br rs bc k : Nat) (N : Nat) : Prop where
  only : Only br w wr
  rdr : Rdr 70 wr br (foldS n s1 (L.data.toList.take k)).2.1 (foldS n s1 (L.data.toList.take k)).2.2
  box : Boxed wr bc (foldS n s1 (L.data.toList.take k)).1
  res : Boxed wr rs zeroC
  sz : (foldS n s1 (L.data.toList.take k)).2.1.size ≤ N
theorem only_set7 {br g : Nat} {w x : World} {k : Cm} (h : Only br w x) (hg : w.heap.size ≤ g) :
    Only br w (((((((x.setCell ⟨g, 0, none⟩ (.int .i64 k.kd)).setCell ⟨g, 1, none⟩ (.int .i64 k.id)).setCell ⟨g, 2, none⟩ (.int .i64 k.mb)).setCell ⟨g, 3, none⟩ (.int .i64 k.ot)).setCell ⟨g, 4, none⟩ (.int .i64 k.sc)).setCell ⟨g, 5, none⟩ (.int .i64 k.qt)).setCell ⟨g, 6, none⟩ (.int .i64 k.pr)) :=
  Only.new h (((((((((Only.refl g x).set 0 _)).set 1 _).set 2 _).set 3 _).set 4 _).set 5 _).set 6 _) hg
theorem far_set7 {g : Nat} {x : World} {k : Cm} :
    Only g x (((((((x.setCell ⟨g, 0, none⟩ (.int .i64 k.kd)).setCell ⟨g, 1, none⟩ (.int .i64 k.id)).setCell ⟨g, 2, none⟩ (.int .i64 k.mb)).setCell ⟨g, 3, none⟩ (.int .i64 k.ot)).setCell ⟨g, 4, none⟩ (.int .i64 k.sc)).setCell ⟨g, 5, none⟩ (.int .i64 k.qt)).setCell ⟨g, 6, none⟩ (.int .i64 k.pr)) :=
  ((((((((Only.refl g x).set 0 _)).set 1 _).set 2 _).set 3 _).set 4 _).set 5 _).set 6 _
set_option maxHeartbeats 8000000 in
set_option maxRecDepth 100000 in
theorem rrd_some (br : Nat) (s : ByteArray) (e0 n : Int) (q : Bool) (s1 : ByteArray) (ht : tk (fun _ => true) s e0 = (n, q, s1, 0)) (hk : (hasOf n).2 = true) (hs : s.size ≤ 1000000000) (hs1 : s1.size ≤ 1000000000) (w : World) (hr : Rdr 70 w br s e0) :
    Calls Tryd.prog 34 #[.pointer (some ⟨br, 0, none⟩)] w (RRdPost br s e0 w) := by
  obtain ⟨⟨c2, s2, e2⟩, hv⟩ : ∃ r, readV (hasOf n).1 (⟨n, 0, 0, 0, 0, 0, 0⟩, s1, 0) 6 = r := ⟨_, rfl⟩
  have HRD := Lib.hid (rd_vals s e0 n q s1 ht hk c2 s2 e2 hv)
  have HV : Hid (foldS n s1 (letB n).data.toList = (c2, s2, e2)) := Lib.hid (by rw [← hv, read_letters n hk]; rfl)
  have hlet : letB n ≠ ⟨#[63]⟩ := by
    intro e
    have : lettersOf n = [63] := by rw [← letB_list, e]
    exact letters_some n hk this
  have hne := strNe hlet
  have hne2 : ((letB n).toList == [63]) = false := by rw [show (ByteArray.mk #[63]).toList = [63] from by rw [ByteArray.toList_eq]] at hne; exact hne
  have HG : Hid (∀ l ∈ (letB n).data.toList, good l) := Lib.hid (letters_good n hk).1
  have hlz : (letB n).size ≤ 6 := by
    rcases kinds n hk with h | h | h | h | h | h | h | h | h | h <;> (rw [h]; decide)
  have HT := Lib.hid ht
  have hbr := hr.lt
  have HR0 := Lib.hid (Rdr.alloc hr (.cells (ccells zeroC) 29))
  have hbr2 : br ≠ w.heap.size := by omega
  clear ht hk hv hr hlet
  go_enter Tryd.func34, Tryd.ntmps34
  go_wp2_with fail
  refine (refnum_any br s e0 (by omega) _ HR0.out).mono ?_
  rintro e w1 ⟨rfl, hr1, ho1⟩
  rw [HT.out] at hr1 ⊢
  dsimp only at hr1 ⊢
  have HRS := Lib.hid (Boxed.far (Boxed.new w zeroC) ho1 (by omega))
  have o1 : Only br w w1 := (Only.alloc (Only.refl br w) _).trans ho1
  clear ho1 HR0
  have hl1 := HRS.out.lt
  have hl2 := hr1.lt
  obtain ⟨k0, k1, _, _⟩ := hr1.cells
  go_wp2_with fail
  refine (hasL_any n _).mono ?_
  rintro e w3 ⟨rfl, c3⟩
  have h0 : RRdRel n s1 (letB n) w w3 br w.heap.size w1.heap.size 0 1000000000 :=
    ⟨(Only.alloc o1 _).trans (Only.below c3), (Rdr.alloc hr1 _).keep c3, Boxed.keep (Boxed.new w1 ⟨n, 0, 0, 0, 0, 0, 0⟩) c3, (Boxed.alloc HRS.out _).keep c3, hs1⟩
  clear c3 o1 hr1 HRS k0 k1
  generalize w1.heap.size = bc at *
  generalize letB n = L at *
  have hcb : bc ≠ br := by omega
  have hcw : bc ≠ w.heap.size := by omega
  have hwb : w.heap.size ≤ bc := by omega
  clear hl1 hl2
  go_wp2_with fail
  go_loopw [5] (fun i wr => ∃ k : Nat, k ≤ L.size ∧ i = .int .i64 k ∧ RRdRel n s1 L w wr br w.heap.size bc k 1000000000) (fun i _ => L.size - (intOf i).toNat)
  case atStart => exact ⟨0, Nat.zero_le _, rfl, h0⟩
  case round =>
    obtain ⟨k, hk, rfl, ho, hrd, hbx, hrs, hsz⟩ := hrel
    by_cases hlt : k < L.size
    · have hgl : good L[k] := HG.out _ (mem_at L k hlt)
      have HGL := Lib.hid hgl
      have HSU : Hid (foldS n s1 (L.data.toList.take (k + 1)) = stepL (foldS n s1 (L.data.toList.take k)) L[k]) := Lib.hid (by rw [take_snoc L k hlt, foldS_snoc])
      clear hgl
      obtain ⟨⟨c', s', e'⟩, hst⟩ : ∃ st, foldS n s1 (L.data.toList.take k) = st := ⟨_, rfl⟩
      rw [hst] at hrd hbx hsz HSU
      dsimp only at hrd hbx hsz
      clear hst
      have HBX := Lib.hid hbx
      have HRDR := Lib.hid hrd
      have HRES := Lib.hid hrs
      have HO := Lib.hid ho
      obtain ⟨p0, p1, p2, p3, p4, p5, p6⟩ := hbx.cells
      clear hbx hrd hrs ho
      have hi1 : (0 : Int) ≤ (k : Int) := by omega
      have hi2 : (k : Int) < (L.size : Int) := by omega
      go_wp2_with fail
      go_region_with ((first | (go_at_call 48; refine (refnum_any br s' e' (by omega) _ (by exact HRDR.out)).mono ?_; rintro e x1 ⟨rfl, hr1, ho1⟩; have HB1 := Lib.hid (Boxed.far (u := wr.drew) HBX.out ho1 hcb); obtain ⟨a0, a1, a2, a3, a4, a5, a6⟩ := HB1.out.cells) | (go_at_call 28; refine (with_any c' L[k] HGL.out _ _).mono ?_; rintro e x2 ⟨rfl, c2⟩; have HH := Lib.hid (Boxed.keep HB1.out c2); obtain ⟨e0, e1, e2, e3, e4, e5, e6⟩ := HH.out.cells; have f0 := HH.out.free 0; have f1 := HH.out.free 1; have f2 := HH.out.free 2; have f3 := HH.out.free 3; have f4 := HH.out.free 4; have f5 := HH.out.free 5; have f6 := HH.out.free 6)))
      all_goals
        have R1 := Lib.hid (only_set7 (k := setL c' L[k] (tk (fun _ => true) s' e').1) (((HO.out.drew).trans ho1).trans (Only.below c2)) hwb)
        have R2 := Lib.hid (Rdr.far (hr1.keep c2) (far_set7 (g := bc) (k := setL c' L[k] (tk (fun _ => true) s' e').1)) (Ne.symm hcb))
        have R3 := Lib.hid (Boxed.far ((Boxed.far (u := wr.drew) HRES.out ho1 (Ne.symm hbr2)).keep c2) (far_set7 (g := bc) (k := setL c' L[k] (tk (fun _ => true) s' e').1)) (Ne.symm hcw))
        have R5 := Lib.hid (boxed_set (k := setL c' L[k] (tk (fun _ => true) s' e').1) HH.out)
        have r5 := Nat.le_trans (tk_sz (fun _ => true) s' e') hsz
        clear c2 ho1 hr1 HH HB1 a0 a1 a2 a3 a4 a5 a6 e0 e1 e2 e3 e4 e5 e6 f0 f1 f2 f3 f4 f5 f6 p0 p1 p2 p3 p4 p5 p6 HBX HRDR HRES HO
        generalize hd2 : setL c' L[k] (tk (fun _ => true) s' e').1 = d2 at *
        have HD2 := Lib.hid hd2
        clear hd2
        generalize (((((((x2.setCell ⟨bc, 0, none⟩ (.int .i64 d2.kd)).setCell ⟨bc, 1, none⟩ (.int .i64 d2.id)).setCell ⟨bc, 2, none⟩ (.int .i64 d2.mb)).setCell ⟨bc, 3, none⟩ (.int .i64 d2.ot)).setCell ⟨bc, 4, none⟩ (.int .i64 d2.sc)).setCell ⟨bc, 5, none⟩ (.int .i64 d2.qt)).setCell ⟨bc, 6, none⟩ (.int .i64 d2.pr)) = W3 at *
        go_wp2_with fail
        go_roundw
        case rel =>
          refine ⟨k + 1, by omega, by go_num, R1.out, ?_, ?_, R3.out, ?_⟩
          · rw [HSU.out]; exact R2.out
          · rw [HSU.out]; unfold stepL; dsimp only; rw [HD2.out]; exact R5.out
          · rw [HSU.out]; exact r5
        case measure => simp [intOf]; omega
    · rw [List.take_of_length_le (by rw [ba_len]; omega), HV.out] at hrd hbx
      dsimp only at hrd hbx
      have HRES := Lib.hid hrs
      have HRDR := Lib.hid hrd
      obtain ⟨p0, p1, p2, p3, p4, p5, p6⟩ := hbx.cells
      obtain ⟨k0, k1, _, _⟩ := hrd.cells
      clear hbx hrs hrd
      by_cases h2 : e2 = 0
      · subst h2
        rw [if_neg (by simp)] at HRD
        go_wp2_with (refine store_cm rfl _ _ rfl rfl w.heap.size c2 rfl rfl zeroC HRES.out ?_; intro W3 P3; obtain ⟨r0, r1, r2, r3, r4, r5, r6⟩ := P3.row.cells)
        refine bodyPost_ret (v := cval c2) (by simp [results, Tryd.results34, go_sem, r0, r1, r2, r3, r4, r5, r6]) rfl ⟨?_, ?_, ?_⟩
        · rw [HRD.out]
        · rw [HRD.out]; exact HRDR.out.far P3.only hbr2
        · exact Only.new ho P3.only (Nat.le_refl _)
      · rw [if_pos h2] at HRD
        have hne3 : (e2 != 0) = true := by simpa using h2
        clear h2
        go_wp2_with (refine store_cm rfl _ _ rfl rfl w.heap.size zeroC rfl rfl zeroC HRES.out ?_; intro W3 P3; obtain ⟨r0, r1, r2, r3, r4, r5, r6⟩ := P3.row.cells)
        refine bodyPost_ret (v := cval zeroC) (by simp [results, Tryd.results34, go_sem, r0, r1, r2, r3, r4, r5, r6]) rfl ⟨?_, ?_, ?_⟩
        · rw [HRD.out]
        · rw [HRD.out]; exact HRDR.out.far P3.only hbr2
        · exact Only.new ho P3.only (Nat.le_refl _)
set_option maxHeartbeats 8000000 in
set_option maxRecDepth 100000 in
theorem rrd_any (br : Nat) (s : ByteArray) (e0 : Int) (hs : s.size ≤ 1000000000) (w : World) (hr : Rdr 70 w br s e0) : Calls Tryd.prog 34 #[.pointer (some ⟨br, 0, none⟩)] w (RRdPost br s e0 w) := by
  obtain ⟨⟨n, q, s1, e1⟩, ht⟩ : ∃ t, tk (fun _ => true) s e0 = t := ⟨_, rfl⟩
  have hsz := tk_sz (fun _ => true) s e0
  rw [ht] at hsz
  dsimp only at hsz
  have HT := Lib.hid ht
  have hbr := hr.lt
  have HR0 := Lib.hid (Rdr.alloc hr (.cells (ccells zeroC) 29))
  have hbr2 : br ≠ w.heap.size := by omega
  clear ht
  by_cases h1 : e1 = 0
  · subst h1
    cases hk : (hasOf n).2
    · have HRD := Lib.hid (rd_kind s e0 n q s1 HT.out hk)
      have HL : Hid (letB n = ⟨#[63]⟩) := Lib.hid (by unfold letB; rw [letters_none n hk])
      clear hk hr
      go_enter Tryd.func34, Tryd.ntmps34
      go_wp2_with fail
      refine (refnum_any br s e0 (by omega) _ HR0.out).mono ?_
      rintro e w1 ⟨rfl, hr1, ho1⟩
      rw [HT.out] at hr1 ⊢
      dsimp only at hr1 ⊢
      have HRS := Lib.hid (Boxed.far (Boxed.new w zeroC) ho1 (by omega))
      have o1 : Only br w w1 := (Only.alloc (Only.refl br w) _).trans ho1
      clear ho1 HR0
      have hl1 := HRS.out.lt
      have hl2 := hr1.lt
      obtain ⟨k0, k1, _, _⟩ := hr1.cells
      go_wp2_with fail
      refine (hasL_any n _).mono ?_
      rintro e w3 ⟨rfl, c3⟩
      rw [HL.out]
      have o3 := (Only.alloc o1 (.cells (ccells ⟨n, 0, 0, 0, 0, 0, 0⟩) 29)).trans (Only.below c3)
      have r3 := (Rdr.alloc hr1 (.cells (ccells ⟨n, 0, 0, 0, 0, 0, 0⟩) 29)).keep c3
      have HRS3 := Lib.hid ((Boxed.alloc HRS.out (.cells (ccells ⟨n, 0, 0, 0, 0, 0, 0⟩) 29)).keep c3)
      clear c3 o1 hr1 HRS k0 k1
      obtain ⟨k0, k1, k2, k3⟩ := r3.cells
      have HR4 := Lib.hid (Rdr.set1 r3 3)
      have HO4 := Lib.hid (Only.trans o3 ((Only.refl br w3).set 1 (.int .i64 3)))
      have HRS4 := Lib.hid (Boxed.far HRS3.out ((Only.refl br w3).set 1 (.int .i64 3)) (Ne.symm hbr2))
      go_wp2_with (refine store_cm rfl _ _ rfl rfl w.heap.size zeroC rfl rfl zeroC HRS4.out ?_; intro W5 P5; obtain ⟨p0, p1, p2, p3, p4, p5, p6⟩ := P5.row.cells)
      refine bodyPost_ret (v := cval zeroC) (by simp [results, Tryd.results34, go_sem, p0, p1, p2, p3, p4, p5, p6]) rfl ⟨?_, ?_, ?_⟩
      · rw [HRD.out]
      · rw [HRD.out]; exact HR4.out.far P5.only hbr2
      · exact Only.new HO4.out P5.only (Nat.le_refl _)
    · exact rrd_some br s e0 n q s1 HT.out hk hs (by omega) w hr
  · have HRD := Lib.hid (rd_bad s e0 n q s1 e1 HT.out h1)
    have hne : (e1 != 0) = true := by simpa using h1
    clear h1 hr
    go_enter Tryd.func34, Tryd.ntmps34
    go_wp2_with fail
    refine (refnum_any br s e0 (by omega) _ HR0.out).mono ?_
    rintro e w1 ⟨rfl, hr1, ho1⟩
    rw [HT.out] at hr1 ⊢
    dsimp only at hr1 ⊢
    have HRS := Lib.hid (Boxed.alloc (Boxed.far (Boxed.new w zeroC) ho1 (by omega)) (.cells #[.int .i64 n, .int .i64 0, .int .i64 0, .int .i64 0, .int .i64 0, .int .i64 0, .int .i64 0] 29))
    have o1 : Only br w w1 := (Only.alloc (Only.refl br w) _).trans ho1
    have o2 := Only.alloc o1 (.cells #[.int .i64 n, .int .i64 0, .int .i64 0, .int .i64 0, .int .i64 0, .int .i64 0, .int .i64 0] 29)
    have HR2 := Lib.hid (Rdr.alloc hr1 (.cells #[.int .i64 n, .int .i64 0, .int .i64 0, .int .i64 0, .int .i64 0, .int .i64 0, .int .i64 0] 29))
    have hl2 := hr1.lt
    obtain ⟨k0, k1, _, _⟩ := hr1.cells
    clear ho1 hr1 o1
    go_wp2_with (refine store_cm rfl _ _ rfl rfl w.heap.size zeroC rfl rfl zeroC HRS.out ?_; intro W3 P3; obtain ⟨p0, p1, p2, p3, p4, p5, p6⟩ := P3.row.cells)
    refine bodyPost_ret (v := cval zeroC) (by simp [results, Tryd.results34, go_sem, p0, p1, p2, p3, p4, p5, p6]) rfl ⟨?_, ?_, ?_⟩
    · rw [HRD.out]
    · rw [HRD.out]; exact HR2.out.far P3.only hbr2
    · exact Only.new o2 P3.only (Nat.le_refl _)
end Go.Proofs.YtcdbnabbhlnigaaDoor
