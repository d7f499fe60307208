/- The walk of the reference's Some. -/
import Derived.Test.YtcdbnabbhlnigaaDoorSome
namespace Go.Proofs.YtcdbnabbhlnigaaDoor
open Go.RowKit

theorem tk_zero (s : ByteArray) (h : (tk (upto 1024) s 0).2.2.2 ≠ 0) : (tk (upto 1024) s 0).1 = 0 := by
  obtain ⟨⟨n, m, e1⟩, hg⟩ : ∃ g, Vint.get s.data.toList = g := ⟨_, rfl⟩
  by_cases h1 : e1 = 0
  · subst h1
    by_cases hp : upto 1024 n = true
    · rw [tk_yes _ s n m hg hp] at h; simp at h
    · rw [tk_no _ s n m hg (by simpa using hp)]
  · rw [tk_get _ s n m e1 hg h1]
structure RSomeRel (s1 : ByteArray) (w wr : World) (k : Nat) (v : Value) : Prop where
  rdr : Rdr 70 wr w.heap.size (rdN k s1).2.1 (rdN k s1).2.2
  own : ∃ xs, wr.ownsRow (w.heap.size + 1) 29 7 v k xs ∧ ((rdN k s1).2.2 = 0 → xs = cs7 (rdN k s1).1)
  low : Below w.heap.size w wr
theorem rsome_step {s1 : ByteArray} {w X x2 : World} {k : Nat} {u v' : Value} {cs : List Cm} {c : Cm} {s' s2 : ByteArray} {er e2 : Int} {o : Obj} (hst : rdN k s1 = (cs, s', 0)) (hrc : rdC s' 0 = (c, er, s2, e2)) (hr : Rdr 70 X w.heap.size s2 er) (hb : Below w.heap.size w X) (hown : X.ownsRow (w.heap.size + 1) 29 7 u k (cs7 cs))
    (hown' : x2.ownsRow (w.heap.size + 1) 29 7 v' (k + 1) (cs7 cs ++ c7 c)) (hgrow : (X.alloc o).grownBy x2 u.ownBlock) : RSomeRel s1 w x2 (k + 1) v' ∧ w.heap.size + 1 ≤ x2.heap.size := by
  have hlt := hr.lt
  have hrow : ∀ i, u.ownBlock = some i → w.heap.size ≤ i := fun i hi => by have := own_base hown i hi; omega
  have hR := rdr_grown hr hown (by omega) o hgrow
  have hs : w.heap.size + 1 ≤ x2.heap.size := by have := hgrow.size; simp at this; omega
  have hL := (hb.alloc hb.size _).grown hgrow (by have := hb.size; simp; omega) hrow
  by_cases he : er = 0
  · subst he
    have hgd := rdN_good hst hrc
    exact ⟨⟨by rw [hgd]; exact hR, ⟨_, hown', fun _ => by rw [hgd]; dsimp only; rw [cs7_snoc]⟩, hL⟩, hs⟩
  · have hbd := rdN_bad hst hrc he
    exact ⟨⟨by rw [hbd]; exact hR, ⟨_, hown', fun h => by rw [hbd] at h; exact absurd h he⟩, hL⟩, hs⟩
set_option maxHeartbeats 8000000 in
set_option maxRecDepth 100000 in
theorem refsome_any (s : ByteArray) (hs : s.size ≤ 1000000000) (w : World) : Calls Tryd.prog 21 #[.string s] w (SomePost s w) := by
  obtain ⟨⟨n, q, s1, e1⟩, htk⟩ : ∃ r, tk (upto 1024) s 0 = r := ⟨_, rfl⟩
  have hsz : s1.size ≤ 1000000000 := by have := tk_sz (upto 1024) s 0; rw [htk] at this; exact Nat.le_trans this hs
  have HT := Lib.hid htk
  have hn : (e1 ≠ 0 ∧ n = 0) ∨ (e1 = 0 ∧ ∃ m : Nat, n = m ∧ m ≤ 1024) := by
    by_cases h : e1 = 0
    · obtain ⟨m, h1, h2, _⟩ := tku_back (s := s) (by rw [htk]; exact h)
      rw [htk] at h1
      exact Or.inr ⟨h, m, h1, h2⟩
    · exact Or.inl ⟨h, by have := tk_zero s (by rw [htk]; exact h); rw [htk] at this; exact this⟩
  clear htk
  obtain ⟨i0, hi, hz0, hz1, hz2⟩ := info_parts infoC
  have hr0 : Rdr 70 (w.alloc (.cells #[.string s, .int .i64 0] 70)) w.heap.size s 0 := heap_alloc_new _ _
  have hb0 : Below w.heap.size w (w.alloc (.cells #[.string s, .int .i64 0] 70)) := (Below.refl _ _).alloc (Nat.le_refl _) _
  have HZ9 := Lib.hid (show (w.alloc (.cells #[.string s, .int .i64 0] 70)).heap.size = w.heap.size + 1 from by simp)
  go_enter Tryd.func21, Tryd.ntmps21
  go_wp2_with fail
  generalize (w.alloc (.cells #[.string s, .int .i64 0] 70)) = W1 at *
  refine (refupto_any w.heap.size s 0 1024 (by omega) _ hr0).mono ?_
  rintro e w2 ⟨rfl, hr2, ho2⟩
  rw [HT.out] at hr2 ⊢
  dsimp only at hr2 ⊢
  have b2 := ho2.low hb0 (Nat.le_refl _)
  have hs2 : w.heap.size + 1 ≤ w2.heap.size := by have := ho2.size; have := HZ9.out; omega
  clear ho2 hr0 hb0 HZ9
  rcases hn with ⟨he, rfl⟩ | ⟨rfl, m, rfl, hm⟩
  · have hne : (e1 != 0) = true := by simpa using he
    have HS := Lib.hid (some_tk HT.out he)
    have HE : Hid (endOf s1 e1 = e1) := Lib.hid (by unfold endOf; rw [if_pos (Or.inl he)])
    clear he
    obtain ⟨k0, k1, _, _⟩ := hr2.cells
    go_wp2_with fail
    go_loopw [7] (fun i wr => i = .int .i64 0 ∧ wr = w2) (fun _ _ => 0)
    case atStart => exact ⟨rfl, rfl⟩
    case round =>
      obtain ⟨rfl, rfl⟩ := hrel
      go_wp2_with fail
      refine (refend_any w.heap.size s1 e1 _ hr2).mono ?_
      rintro e w4 ⟨rfl, rfl⟩
      rw [HE.out]
      go_wp2_with fail
      go_ret2
      refine ⟨.slice none 0 0, by rw [HS.out]; rfl, ?_, b2⟩
      rw [HS.out]; exact Cms.nil _
  · have h0 : RSomeRel s1 w w2 0 (.slice none 0 0) := ⟨hr2, ⟨[], ⟨rfl, Or.inl ⟨rfl, rfl⟩⟩, fun _ => rfl⟩, b2⟩
    clear hr2 b2
    go_wp2_with fail
    go_loopw [6, 7] (fun va i wr => ∃ k : Nat, k ≤ m ∧ i = .int .i64 k ∧ RSomeRel s1 w wr k va ∧ w.heap.size + 1 ≤ wr.heap.size) (fun _ i _ => m - (intOf i).toNat)
    case atStart => exact ⟨0, Nat.zero_le _, rfl, h0, hs2⟩
    case round =>
      obtain ⟨k, hk, rfl, ⟨hrd, ⟨xs, hown, hxs⟩, hbel⟩, hsw⟩ := hrel
      have hsk := rdN_sz s1 k
      obtain ⟨⟨cs, s', e'⟩, hst⟩ : ∃ st, rdN k s1 = st := ⟨_, rfl⟩
      have HST := Lib.hid hst
      rw [hst] at hrd hxs hsk
      dsimp only at hrd hxs hsk
      clear hst
      obtain ⟨k0, k1, _, _⟩ := hrd.cells
      by_cases he : e' = 0
      · subst he
        obtain rfl := hxs rfl
        have hsk2 := hsk rfl
        have HOWN := Lib.hid hown
        clear hown hxs hsk
        by_cases hlt : k < m
        · obtain ⟨⟨c, er, s2, e2⟩, hrc⟩ : ∃ r, rdC s' 0 = r := ⟨_, rfl⟩
          have HRC := Lib.hid hrc
          clear hrc
          go_wp2_with fail
          refine (rrd_any w.heap.size s' 0 (by omega) _ hrd).mono ?_
          rintro e x1 ⟨rfl, hr1, ho1⟩
          rw [HRC.out] at hr1 ⊢
          dsimp only at hr1 ⊢
          have OW1 := Lib.hid (own_only HOWN.out ho1 (by omega))
          have b1 := ho1.low hbel (Nat.le_refl _)
          have hs1 : w.heap.size + 1 ≤ x1.heap.size := Nat.le_trans hsw ho1.size
          have R1 := Lib.hid hr1
          clear ho1 hbel hrd HOWN k0 k1 hr1
          go_wp2_with (at_builtin; refine wpList_append_own _ rfl _ _ 39 rfl (w.heap.size + 1) 29 i0 (cval zeroC) 7 56 Tryd.underlying39 hi hz0 hz1 hz2 rfl (by decide) _ _ _ rfl (OW1.out.alloc _) ⟨x1.heap.size, 0, none⟩ 1 1 (c7 c) rfl rfl ?c1 ?c2 ?c3 ?c4 ?c5 ?_)
          case c1 => exact new7 _ c _ (by simp)
          case c2 => intro u hu; simp [c7] at hu; rcases hu with rfl | rfl | rfl | rfl | rfl | rfl | rfl <;> rfl
          case c3 => unfold maxLen; omega
          case c4 => omega
          case c5 => simp; omega
          intro v' x2 hown' hgrow _
          have hrel2 := Lib.hid (rsome_step HST.out HRC.out R1.out b1 OW1.out hown' hgrow)
          clear hown' hgrow OW1 R1 b1 hs1
          go_wp2
          go_roundw
          case rel => exact ⟨k + 1, by omega, by go_num, hrel2.out.1, hrel2.out.2⟩
          case measure => simp [intOf]; omega
        · obtain rfl : k = m := by omega
          by_cases hz : s'.size = 0
          · have HE : Hid (endOf s' 0 = 0) := Lib.hid (by unfold endOf; rw [if_pos (Or.inr hz)])
            have HS : Hid (someOf s = (cs, 0)) := Lib.hid (by have := some_good HT.out (by rw [HST.out]) (by rw [HST.out]; exact hz); rw [HST.out] at this; exact this)
            have HL : Hid (k = cs.length) := Lib.hid (by have := (rdN_back k s1 (by rw [HST.out])).1; rw [HST.out] at this; exact this.symm)
            clear hz
            go_wp2_with fail
            refine (refend_any w.heap.size s' 0 _ hrd).mono ?_
            rintro e w4 ⟨rfl, rfl⟩
            rw [HE.out]
            go_wp2_with fail
            go_ret2
            refine ⟨_, by rw [HS.out]; rfl, ?_, hbel⟩
            rw [HS.out]
            have := HOWN.out
            rw [HL.out] at this
            exact Cms.own this
          · have HE : Hid (endOf s' 0 = 3) := Lib.hid (by unfold endOf; rw [if_neg (by simp [hz])])
            have HS : Hid (someOf s = ([], 3)) := Lib.hid (some_more HT.out (by rw [HST.out]) (by rw [HST.out]; exact hz))
            clear hz
            go_wp2_with fail
            refine (refend_any w.heap.size s' 0 _ hrd).mono ?_
            rintro e w4 ⟨rfl, rfl⟩
            rw [HE.out]
            go_wp2_with fail
            go_ret2
            refine ⟨.slice none 0 0, by rw [HS.out]; rfl, ?_, hbel⟩
            rw [HS.out]; exact Cms.nil _
      · have HN : Hid ((rdN m s1).2.2 = e') := Lib.hid (rdN_err k s1 _ _ _ HST.out he m hk)
        have HS : Hid (someOf s = ([], e')) := Lib.hid (by have := some_rd HT.out (by rw [HN.out]; exact he); rw [HN.out] at this; exact this)
        have HE : Hid (endOf s' e' = e') := Lib.hid (by unfold endOf; rw [if_pos (Or.inl he)])
        have hne : (e' != 0) = true := by simpa using he
        have hne2 : (e' == 0) = false := by simpa using he
        clear he hxs hown hsk
        by_cases hlt : k < m
        all_goals
          go_wp2_with fail
          refine (refend_any w.heap.size s' e' _ hrd).mono ?_
          rintro e w4 ⟨rfl, rfl⟩
          rw [HE.out]
          go_wp2_with fail
          go_ret2
          refine ⟨.slice none 0 0, by rw [HS.out]; rfl, ?_, hbel⟩
          rw [HS.out]; exact Cms.nil _
end Go.Proofs.YtcdbnabbhlnigaaDoor
