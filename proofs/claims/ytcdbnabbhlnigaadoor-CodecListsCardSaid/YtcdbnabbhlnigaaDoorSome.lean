/- The walks of codec.Some and of the reference's Some. -/
import Derived.Test.YtcdbnabbhlnigaaDoorSome0
namespace Go.Proofs.YtcdbnabbhlnigaaDoor
open Go.RowKit

theorem infoC : (Tryd.prog.info? 29).map (fun i => (i.zero, i.size, i.bytes)) = some (some (cval zeroC), 7, 56) := by kernel_rfl
theorem csame_self (v v' : Value) (l : List Cm) (w : World) (h1 : Cms w v l) (h2 : Cms w v' l) : Calls Tryd.prog 20 #[v, v'] w fun e w' => e = .returned (.bool true) ∧ Below w.heap.size w w' := by
  have h := csame_any v v' l l w h1 h2
  rw [show decide (l = l) = true from by simp] at h
  exact h
theorem all_size (l : List Cm) : (allOf l).1.size ≤ 10 + 70 * l.length := by
  unfold allOf
  split
  · exact Nat.zero_le _
  · split
    · show (Vint.put (l.length : Nat) ++ catC l).toArray.size ≤ _
      rw [List.size_toArray, List.length_append]
      have := put_len (l.length : Nat)
      have := catC_len l
      omega
    · exact Nat.zero_le _
theorem some_all' (l : List Cm) (hf : FitAll l) (hn : l.length ≤ 1024) (h : (allOf l).2 = 0) : someOf (allOf l).1 = (l, 0) := by
  refine some_all l hf ?_ hn
  unfold allOf at h
  rw [if_neg (by omega)] at h
  by_cases hr : rightAll l = true
  · exact hr
  · rw [if_neg hr] at h; simp at h
set_option maxHeartbeats 400000 in
theorem all_over (a : Option Addr) (n cap : Nat) (hn : 1024 < n) (hn2 : n ≤ 100000) (w : World) : Calls Tryd.prog 17 #[.slice a n cap] w fun e w' => e = .returned (.tuple #[.string ⟨#[]⟩, .int .i64 6]) ∧ Below w.heap.size w w' := by
  go_enter Tryd.func17, Tryd.ntmps17
  go_wp2_with fail
  go_ret2
  exact ⟨rfl, by first | exact Below.refl _ _ | exact (Below.refl _ _).alloc (Nat.le_refl _) _⟩
set_option maxHeartbeats 400000 in
theorem refall_over (a : Option Addr) (n cap : Nat) (hn : 1024 < n) (hn2 : n ≤ 100000) (w : World) : Calls Tryd.prog 18 #[.slice a n cap] w fun e w' => e = .returned (.tuple #[.string ⟨#[]⟩, .int .i64 6]) ∧ Below w.heap.size w w' := by
  go_enter Tryd.func18, Tryd.ntmps18
  go_wp2_with fail
  go_ret2
  exact ⟨rfl, by first | exact Below.refl _ _ | exact (Below.refl _ _).alloc (Nat.le_refl _) _⟩
theorem rdC_sz (s : ByteArray) (h : (rdC s 0).2.1 = 0) : (rdC s 0).2.2.1.size ≤ s.size := by
  rcases rd_cases s 0 with ⟨er, s', e', h1, h2⟩ | ⟨c, s', h1, _, _, _, h5⟩
  · rw [h1] at h; exact absurd h h2
  · rw [h1]
    dsimp only
    have := congrArg List.length h5
    rw [List.length_append, ba_len, ba_len] at this
    omega
theorem rdN_sz (s : ByteArray) : ∀ k, (rdN k s).2.2 = 0 → (rdN k s).2.1.size ≤ s.size := by
  intro k
  intro h
  obtain ⟨_, _, _, h4⟩ := rdN_back k s h
  have := congrArg List.length h4
  rw [List.length_append, ba_len, ba_len] at this
  omega
theorem rdN_pre (s : ByteArray) (k : Nat) (h : (rdN (k + 1) s).2.2 = 0) : (rdN k s).2.2 = 0 := by
  by_cases h1 : (rdN k s).2.2 = 0
  · exact h1
  · have := rdN_err k s _ _ _ (show rdN k s = ((rdN k s).1, (rdN k s).2.1, (rdN k s).2.2) from rfl) h1 (k + 1) (by omega)
    rw [this] at h
    exact h
/-- what Some leaves -/
def SomePost (s : ByteArray) (w : World) (e : Ending) (w' : World) : Prop :=
  ∃ v, e = .returned (.tuple #[v, .int .i64 (someOf s).2]) ∧ Cms w' v (someOf s).1 ∧ Below w.heap.size w w'
theorem some_tk {s : ByteArray} {n : Int} {q : Bool} {s1 : ByteArray} {e1 : Int} (h : tk (upto 1024) s 0 = (n, q, s1, e1)) (he : e1 ≠ 0) : someOf s = ([], e1) := by
  unfold someOf; rw [h]; dsimp only; rw [if_pos he]
theorem some_rd {s : ByteArray} {n : Nat} {q : Bool} {s1 : ByteArray} (h : tk (upto 1024) s 0 = ((n : Int), q, s1, 0)) (he : (rdN n s1).2.2 ≠ 0) : someOf s = ([], (rdN n s1).2.2) := by
  unfold someOf; rw [h]; dsimp only; rw [if_neg (by simp), Int.toNat_natCast, if_pos he]
theorem some_more {s : ByteArray} {n : Nat} {q : Bool} {s1 : ByteArray} (h : tk (upto 1024) s 0 = ((n : Int), q, s1, 0)) (he : (rdN n s1).2.2 = 0) (hz : (rdN n s1).2.1.size ≠ 0) : someOf s = ([], 3) := by
  unfold someOf; rw [h]; dsimp only; rw [if_neg (by simp), Int.toNat_natCast, if_neg (by simp [he]), if_pos hz]
theorem some_good {s : ByteArray} {n : Nat} {q : Bool} {s1 : ByteArray} (h : tk (upto 1024) s 0 = ((n : Int), q, s1, 0)) (he : (rdN n s1).2.2 = 0) (hz : (rdN n s1).2.1.size = 0) : someOf s = ((rdN n s1).1, 0) := by
  unfold someOf; rw [h]; dsimp only; rw [if_neg (by simp), Int.toNat_natCast, if_neg (by simp [he]), if_neg (by simp [hz])]
structure SomeRel (s1 : ByteArray) (w wr : World) (k : Nat) (v : Value) : Prop where
  e : (rdN k s1).2.2 = 0
  rdr : Rdr 78 wr w.heap.size (rdN k s1).2.1 0
  own : wr.ownsRow (w.heap.size + 1) 29 7 v k (cs7 (rdN k s1).1)
  low : Below w.heap.size w wr
theorem new7 (W : World) (c : Cm) (b : Nat) (hb : W.heap.size = b) : ∀ j u, (c7 c)[j]? = some u → (W.alloc (.cells #[.int .i64 c.kd, .int .i64 c.id, .int .i64 c.mb, .int .i64 c.ot, .int .i64 c.sc, .int .i64 c.qt, .int .i64 c.pr] 29)).cell? ((⟨b, 0, none⟩ : Addr).add j) = some u := by
  subst hb
  intro j u hu
  have h := heap_alloc_new W (.cells #[.int .i64 c.kd, .int .i64 c.id, .int .i64 c.mb, .int .i64 c.ot, .int .i64 c.sc, .int .i64 c.qt, .int .i64 c.pr] 29)
  rw [Go.WideShapes.add_plain]
  simp only [World.cell?, h]
  rw [Nat.zero_add, if_neg (by simp)]
  simpa [c7] using hu
theorem rdr_grown {T : TypeId} {X x2 : World} {b : Nat} {s : ByteArray} {e : Int} {u : Value} {base n : Nat} {xs : List Value} (hr : Rdr T X b s e) (hown : X.ownsRow base 29 7 u n xs) (hbb : b < base) (o : Obj) (hgrow : (X.alloc o).grownBy x2 u.ownBlock) : Rdr T x2 b s e := by
  have h1 := Rdr.alloc hr o
  exact (hgrow.block b h1.lt (fun e => by have := own_base hown b e.symm; omega)).trans h1
theorem some_step {s1 : ByteArray} {w X x2 : World} {k : Nat} {u v' : Value} {cs : List Cm} {c : Cm} {s2 : ByteArray} {o : Obj} (hgd : rdN (k + 1) s1 = (cs ++ [c], s2, 0)) (hr : Rdr 78 X w.heap.size s2 0) (hb : Below w.heap.size w X) (hown : X.ownsRow (w.heap.size + 1) 29 7 u k (cs7 cs))
    (hown' : x2.ownsRow (w.heap.size + 1) 29 7 v' (k + 1) (cs7 cs ++ c7 c)) (hgrow : (X.alloc o).grownBy x2 u.ownBlock) : SomeRel s1 w x2 (k + 1) v' ∧ w.heap.size + 1 ≤ x2.heap.size := by
  have hlt := hr.lt
  refine ⟨⟨by rw [hgd], ?_, ?_, (hb.alloc hb.size _).grown hgrow (by have := hb.size; simp; omega) (fun i hi => by have := own_base hown i hi; omega)⟩, ?_⟩
  · rw [hgd]; exact rdr_grown hr hown (by omega) o hgrow
  · rw [hgd]; dsimp only; rw [cs7_snoc]; exact hown'
  · have := hgrow.size; simp at this; omega
set_option maxHeartbeats 8000000 in
set_option maxRecDepth 100000 in
theorem some_any (s : ByteArray) (hs : s.size ≤ 1000000000) (w : World) : Calls Tryd.prog 19 #[.string s] w (SomePost s w) := by
  obtain ⟨⟨n, q, s1, e1⟩, htk⟩ : ∃ r, tk (upto 1024) s 0 = r := ⟨_, rfl⟩
  have hsz : s1.size ≤ 1000000000 := by have := tk_sz (upto 1024) s 0; rw [htk] at this; exact Nat.le_trans this hs
  have HT := Lib.hid htk
  have hn : e1 ≠ 0 ∨ (e1 = 0 ∧ ∃ m : Nat, n = m ∧ m ≤ 1024) := by
    by_cases h : e1 = 0
    · obtain ⟨m, h1, h2, _⟩ := tku_back (s := s) (by rw [htk]; exact h)
      rw [htk] at h1
      exact Or.inr ⟨h, m, h1, h2⟩
    · exact Or.inl h
  clear htk
  obtain ⟨i0, hi, hz0, hz1, hz2⟩ := info_parts infoC
  have hr0 : Rdr 78 (w.alloc (.cells #[.string s, .int .i64 0] 78)) w.heap.size s 0 := heap_alloc_new _ _
  have hb0 : Below w.heap.size w (w.alloc (.cells #[.string s, .int .i64 0] 78)) := (Below.refl _ _).alloc (Nat.le_refl _) _
  have hz9 : (w.alloc (.cells #[.string s, .int .i64 0] 78)).heap.size = w.heap.size + 1 := by simp
  have HZ9 := Lib.hid hz9
  clear hz9
  go_enter Tryd.func19, Tryd.ntmps19
  go_wp2_with fail
  refine (new_any s _).mono ?_
  rintro e w1 ⟨rfl, rfl⟩
  generalize (w.alloc (.cells #[.string s, .int .i64 0] 78)) = W1 at *
  go_wp2_with fail
  refine (upto_any w.heap.size s 0 1024 (by omega) _ hr0).mono ?_
  rintro e w2 ⟨rfl, hr2, ho2⟩
  rw [HT.out] at hr2 ⊢
  dsimp only at hr2 ⊢
  have b2 := ho2.low hb0 (Nat.le_refl _)
  have hs2 : w.heap.size + 1 ≤ w2.heap.size := by have := ho2.size; have := HZ9.out; omega
  clear ho2 hr0 hb0 HZ9
  go_wp2_with fail
  refine (err_any w.heap.size s1 e1 _ hr2).mono ?_
  rintro e w3 ⟨rfl, rfl⟩
  rcases hn with he | ⟨rfl, m, rfl, hm⟩
  · have hne : (e1 != 0) = true := by simpa using he
    have HS := Lib.hid (some_tk HT.out he)
    clear he
    go_wp2_with fail
    go_ret2
    refine ⟨.slice none 0 0, ?_, ?_, b2⟩
    · rw [HS.out]; rfl
    · rw [HS.out]; exact Cms.nil _
  · have h0 : SomeRel s1 w w2 0 (.slice none 0 0) := ⟨rfl, hr2, ⟨rfl, Or.inl ⟨rfl, rfl⟩⟩, b2⟩
    clear hr2 b2
    go_wp2_with fail
    go_loopw [7, 21] (fun va i wr => ∃ k : Nat, k ≤ m ∧ i = .int .i64 k ∧ SomeRel s1 w wr k va ∧ w.heap.size + 1 ≤ wr.heap.size) (fun _ i _ => m - (intOf i).toNat)
    case atStart => exact ⟨0, Nat.zero_le _, rfl, h0, hs2⟩
    case round =>
      obtain ⟨k, hk, rfl, ⟨hz, hrd, hown, hbel⟩, hsw⟩ := hrel
      have HOWN := Lib.hid hown
      have hsk := rdN_sz s1 k hz
      clear hown
      obtain ⟨⟨cs, s', e'⟩, hst⟩ : ∃ st, rdN k s1 = st := ⟨_, rfl⟩
      have HST := Lib.hid hst
      rw [hst] at HOWN hrd hz hsk
      dsimp only at HOWN hrd hz hsk
      obtain rfl : e' = 0 := hz
      clear hst
      by_cases hlt : k < m
      · obtain ⟨⟨c, er, s2, e2⟩, hrc⟩ : ∃ r, rdC s' 0 = r := ⟨_, rfl⟩
        have HRC := Lib.hid hrc
        have hcase : er ≠ 0 ∨ (er = 0 ∧ e2 = 0) := by
          rcases rd_cases s' 0 with ⟨a, b, d, h1, h2⟩ | ⟨a, b, h1, _⟩
          · rw [hrc] at h1; simp at h1; left; rw [h1.2.1]; exact h2
          · rw [hrc] at h1; simp at h1; exact Or.inr ⟨h1.2.1, h1.2.2.2⟩
        clear hrc
        go_wp2_with fail
        refine (rd_any w.heap.size s' 0 (by omega) _ hrd).mono ?_
        rintro e x1 ⟨rfl, hr1, ho1⟩
        rw [HRC.out] at hr1 ⊢
        dsimp only at hr1 ⊢
        have OW1 := Lib.hid (own_only HOWN.out ho1 (by omega))
        have b1 := ho1.low hbel (Nat.le_refl _)
        have hs1 : w.heap.size + 1 ≤ x1.heap.size := Nat.le_trans hsw ho1.size
        clear ho1 hbel hrd HOWN
        rcases hcase with he | ⟨rfl, rfl⟩
        · have hne : (er != 0) = true := by simpa using he
          have HER := Lib.hid (rdN_bad HST.out HRC.out he)
          have HN : Hid ((rdN m s1).2.2 = er) := Lib.hid (rdN_err (k + 1) s1 _ _ _ HER.out he m (by omega))
          have HS : Hid (someOf s = ([], er)) := Lib.hid (by have := some_rd HT.out (by rw [HN.out]; exact he); rw [HN.out] at this; exact this)
          have b1a := b1.alloc b1.size (.cells (ccells c) 29)
          clear he
          go_wp2_with fail
          go_ret2
          refine ⟨.slice none 0 0, ?_, ?_, b1a⟩
          · rw [HS.out]; rfl
          · rw [HS.out]; exact Cms.nil _
        · have HGD := Lib.hid (rdN_good HST.out HRC.out)
          have OW2 := Lib.hid (OW1.out.alloc (.cells (ccells c) 29))
          have R2 := Lib.hid (Rdr.alloc hr1 (.cells (ccells c) 29))
          have b1a := b1.alloc b1.size (.cells (ccells c) 29)
          have hs1a : w.heap.size + 1 ≤ (x1.alloc (.cells (ccells c) 29)).heap.size := by simp; omega
          have BX := (Boxed.new x1 c).cells
          dsimp only [ccells] at OW2 R2 b1a hs1a BX
          obtain ⟨p0, p1, p2, p3, p4, p5, p6⟩ := BX
          clear OW1 hr1 b1
          go_wp2_with (at_builtin; refine wpList_append_own _ rfl _ _ 39 rfl (w.heap.size + 1) 29 i0 (cval zeroC) 7 56 Tryd.underlying39 hi hz0 hz1 hz2 rfl (by decide) _ _ _ rfl (OW2.out.alloc _) ⟨x1.heap.size + 1, 0, none⟩ 1 1 (c7 c) rfl rfl ?c1 ?c2 ?c3 ?c4 ?c5 ?_)
          case c1 => exact new7 _ c _ (by simp)
          case c2 => intro u hu; simp [c7] at hu; rcases hu with rfl | rfl | rfl | rfl | rfl | rfl | rfl <;> rfl
          case c3 => unfold maxLen; omega
          case c4 => omega
          case c5 => simp; omega
          intro v' x2 hown' hgrow _
          have hrel2 := Lib.hid (some_step HGD.out R2.out b1a OW2.out hown' hgrow)
          clear hown' hgrow OW2 R2 p0 p1 p2 p3 p4 p5 p6 b1a hs1a
          go_wp2
          go_roundw
          case rel => exact ⟨k + 1, by omega, by go_num, hrel2.out.1, hrel2.out.2⟩
          case measure => simp [intOf]; omega
      · obtain rfl : k = m := by omega
        by_cases hz : s'.size = 0
        · have HE : Hid (endOf s' 0 = 0) := Lib.hid (by unfold endOf; rw [if_pos (Or.inr hz)])
          have HS : Hid (someOf s = (cs, 0)) := Lib.hid (by have := some_good HT.out (by rw [HST.out]) (by rw [HST.out]; exact hz); rw [HST.out] at this; exact this)
          have HL : Hid (k = cs.length) := Lib.hid (by have := (rdN_back k s1 (by rw [HST.out])).1; rw [HST.out] at this; exact this.symm)
          clear hz
          go_wp2_with fail
          refine (end_any w.heap.size s' 0 _ hrd).mono ?_
          rintro e w4 ⟨rfl, rfl⟩
          rw [HE.out]
          go_wp2_with fail
          go_ret2
          refine ⟨_, by rw [HS.out]; rfl, ?_, hbel⟩
          rw [HS.out]
          have := HOWN.out
          rw [HL.out] at this
          exact Cms.own this
        · have HE : Hid (endOf s' 0 = 3) := Lib.hid (by unfold endOf; rw [if_neg (by simp [hz])])
          have HS : Hid (someOf s = ([], 3)) := Lib.hid (some_more HT.out (by rw [HST.out]) (by rw [HST.out]; exact hz))
          clear hz
          go_wp2_with fail
          refine (end_any w.heap.size s' 0 _ hrd).mono ?_
          rintro e w4 ⟨rfl, rfl⟩
          rw [HE.out]
          go_wp2_with fail
          go_ret2
          refine ⟨.slice none 0 0, by rw [HS.out]; rfl, ?_, hbel⟩
          rw [HS.out]; exact Cms.nil _
end Go.Proofs.YtcdbnabbhlnigaaDoor
