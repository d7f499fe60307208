/- JournalGrows holds for every input: records that are appended are read, in order, behind any that were there; trimmed to those that were there, it is the journal that it was; no condition. -/
import Derived.Test.YtgffoepnkpkhaaaBase
import Derived.Test.YtgffoepnkpkhaaaJour7
import Derived.Deep.SlicePairs
import Derived.Deep.RegionHeld3
import Derived.IntWalk
import Derived.OpenShut
import Derived.BigQuiet
import Derived.Carry
namespace Go.Proofs.Ytgffoepnkpkhaaa.journalGrows
open Go.ChangeShapes Go.WideShapes Go.ChangeAt Go.RowKit Go.Deep
open Go.ChangeMaps (open_string shut_string)

set_option maxHeartbeats 8000000 in
set_option maxRecDepth 100000 in
theorem good (a : Option Addr) (cap : Nat) (l : List ByteArray) (a2 : Option Addr) (cap2 : Nat) (m : List ByteArray) (w : World) (hS : Strs w (.slice a l.length cap) l) (hms : ∀ s ∈ l, s.size ≤ maxLen) (hS2 : Strs w (.slice a2 m.length cap2) m) (hms2 : ∀ s ∈ m, s.size ≤ maxLen)
    (hn : l.length ≤ 12) (hn2 : m.length ≤ 12) (hsh : Short l) (hsh2 : Short m) :
    Calls Try.prog 13 #[.slice a l.length cap, .slice a2 m.length cap2] w fun e w' => e = .returned (.bool true) ∧ Below w.heap.size w w' := by
  have HSH := Lib.hid hsh
  have HSH2 := Lib.hid hsh2
  have HMS := Lib.hid hms
  have HMS2 := Lib.hid hms2
  have HS := Lib.hid hS
  have HS2 := Lib.hid hS2
  obtain ⟨a', cap', hv, hc1, hc2, hcell⟩ := hS
  obtain ⟨rfl, _, rfl⟩ : a = a' ∧ l.length = l.length ∧ cap = cap' := by simpa using hv
  obtain ⟨a2', cap2', hv2, hc3, hc4, hcell2⟩ := hS2
  obtain ⟨rfl, _, rfl⟩ : a2 = a2' ∧ m.length = m.length ∧ cap2 = cap2' := by simpa using hv2
  unfold maxLen at hc2 hc4
  have HCELL := Lib.hid hcell
  have HCELL2 := Lib.hid hcell2
  clear hcell hcell2 hv hv2 hsh hsh2 hms hms2
  obtain ⟨i0, hi, hz0, hz1, hz2⟩ := info_parts infoS
  go_enter Try.func13, Try.ntmps13
  go_wp2_with fail
  refine (made_any _ l hn HMS.out _ HS.out).mono ?_
  rintro e w1 ⟨hok, _, b1⟩
  obtain rfl := hok HSH.out
  clear hok
  have b1a := b1.alloc b1.size (.cells (dcells ⟨frames l, ⟨#[]⟩, -1, false⟩) 32)
  go_wp2_with fail
  refine (made_any _ m hn2 HMS2.out _ (HS2.out.keep b1a)).mono ?_
  rintro e w2 ⟨hok, _, c2⟩
  obtain rfl := hok HSH2.out
  clear hok
  have HD2 := Lib.hid (Held.keep (Held.new w1 ⟨frames l, ⟨#[]⟩, -1, false⟩) c2)
  have b2 := b1a.trans (c2.mono (by have := b1.size; simp; omega))
  have hgd := HD2.out.lt
  have hgw : w.heap.size ≤ w1.heap.size := b1.size
  clear c2 b1 b1a
  generalize w1.heap.size = gd at *
  obtain ⟨p0, p1, p2, p3⟩ := HD2.out.cells
  go_wp2_with fail
  have HDW := Lib.hid (Held.alloc (Held.alloc HD2.out (.cells (dcells ⟨frames m, ⟨#[]⟩, -1, false⟩) 32)) (.cells (dcells ⟨frames l, ⟨#[]⟩, -1, false⟩) 32))
  have HWW := Lib.hid (show Held ((w2.alloc (.cells (dcells ⟨frames m, ⟨#[]⟩, -1, false⟩) 32)).alloc (.cells (dcells ⟨frames l, ⟨#[]⟩, -1, false⟩) 32)) (w2.heap.size + 1) ⟨frames l, ⟨#[]⟩, -1, false⟩ from heap_alloc2_new _ _ _)
  have bW := (b2.alloc b2.size (.cells (dcells ⟨frames m, ⟨#[]⟩, -1, false⟩) 32)).alloc (by have := b2.size; simp; omega) (.cells (dcells ⟨frames l, ⟨#[]⟩, -1, false⟩) 32)
  dsimp only [dcells] at HDW HWW bW
  generalize ((w2.alloc (.cells #[.string (frames m), .string ⟨#[]⟩, .int .i64 (-1), .bool false] 32)).alloc (.cells #[.string (frames l), .string ⟨#[]⟩, .int .i64 (-1), .bool false] 32)) = W at *
  have hgn : gd ≠ w2.heap.size + 1 := by omega
  generalize w2.heap.size + 1 = gw at *
  clear p0 p1 p2 p3 HD2 b2 hgd
  have hl1 := HDW.out.lt
  have hl2 := HWW.out.lt
  have h0 : Rel1 l w W W 0 (.slice none 0 0) := ⟨⟨rfl, Or.inl ⟨rfl, rfl⟩⟩, Below.refl _ _⟩
  go_loopw [10, 11] (fun va i wr => ∃ k : Nat, k ≤ l.length ∧ i = .int .i64 k ∧ Rel1 l w W wr k va) (fun _ i _ => l.length - (intOf i).toNat)
  case atStart => exact ⟨0, Nat.zero_le _, rfl, h0⟩
  case round =>
    obtain ⟨k, hk, rfl, hown, hbel⟩ := hrel
    have htk : (l.take k).length ≤ 12 := by rw [List.length_take]; omega
    by_cases hlt : k < l.length
    · obtain ⟨b, off, rfl, hbl, hcl⟩ := HCELL.out (by omega)
      have hc0 := hcl k hlt
      have g0 := ((bW.trans (hbel.mono bW.size)).cell (p := ⟨b, off + k, none⟩) hbl).trans hc0
      obtain ⟨x, hx⟩ : ∃ x, l[k] = x := ⟨_, rfl⟩
      rw [hx] at g0
      have HXX := Lib.hid hx
      clear hcl hc0 hx
      have HOWN := Lib.hid hown
      go_wp2_with (at_builtin; refine wpList_append_own _ rfl _ _ 54 rfl W.heap.size 9 i0 (.string ⟨#[]⟩) 1 16 Try.underlying54 hi hz0 hz1 hz2 rfl (by decide) _ _ _ rfl (HOWN.out.alloc _) ⟨wr.heap.size, 0, none⟩ 1 1 [.string x] rfl rfl ?c1 ?c2 ?c3 ?c4 ?c5 ?_)
      case c1 => exact one_new wr _ _
      case c2 => intro u hu; simp at hu; subst hu; rfl
      case c3 => unfold maxLen; omega
      case c4 => omega
      case c5 => have := hbel.size; simp; omega
      intro v' w2 hown' hgrow _
      have hrel2 := Lib.hid (step_one (w := w) hlt HXX.out HOWN.out hbel hown' hgrow)
      clear hown' hgrow hown
      go_wp2
      go_roundw
      case rel => exact ⟨k + 1, by omega, by go_num, hrel2.out⟩
      case measure => simp [intOf]; omega
    · rw [List.take_of_length_le (by omega)] at hown htk
      have hr2 := Lib.hid (start2 (m := m) hown hbel HDW.out HWW.out bW)
      have hwB := bW.size
      clear hown hbel HDW HWW h0
      generalize hB : W.heap.size = B at *
      clear hB bW
      go_wp2
      go_loopw [10, 12] (fun va i wr => ∃ k : Nat, k ≤ m.length ∧ i = .int .i64 k ∧ Rel2 l m w B gd gw wr k va) (fun _ i _ => m.length - (intOf i).toNat)
      case atStart => exact ⟨0, Nat.zero_le _, rfl, hr2.out⟩
      case round =>
        obtain ⟨j, hj, rfl, hown, hd, hwas, hbel, htop⟩ := hrel
        have HOWN := Lib.hid hown
        have HD := Lib.hid hd
        have HWAS := Lib.hid hwas
        obtain ⟨p0, p1, p2, p3⟩ := hd.cells
        have hlD := hd.lt
        clear hown hd hwas
        by_cases hlt2 : j < m.length
        · obtain ⟨b, off, rfl, hbl, hcl⟩ := HCELL2.out (by omega)
          have hc0 := hcl j hlt2
          have g0 := (hbel.cell (p := ⟨b, off + j, none⟩) hbl).trans hc0
          have hxs := HSH2.out m[j] (List.getElem_mem hlt2)
          have HLN : Hid (l ++ m.take (j + 1) = (l ++ m.take j) ++ [m[j]]) := Lib.hid (by rw [List.take_succ_eq_append_getElem hlt2, List.append_assoc])
          have hshk := short_app HSH.out (short_take HSH2.out j)
          have hlk : (l ++ m.take j).length ≤ 24 := by rw [List.length_append, List.length_take]; omega
          have hfk := frames_small _ hshk hlk
          have hi1 : (0 : Int) ≤ (j : Int) := by omega
          have hi2 : (j : Int) < (m.length : Int) := by omega
          have hbw := hbel.size
          have hbwr : b < wr.heap.size := by omega
          have HSL := Lib.hid hshk
          clear hcl hshk
          generalize m[j] = x at *
          generalize l ++ m.take j = L at *
          have HC0 := Lib.hid hc0
          clear hc0
          go_wp2_with fail
          go_region_held3 (fun W' => W'.cell? ⟨gd, 0, none⟩ = some (.string (frames L)) ∧ W'.cell? ⟨gd, 1, none⟩ = some (.string ⟨#[]⟩) ∧ W'.cell? ⟨gd, 2, none⟩ = some (.int .i64 (-1)) ∧ W'.cell? ⟨gd, 3, none⟩ = some (.bool false) ∧ W'.cell? ⟨b, off + j, none⟩ = some (.string x)) (first | exact ⟨p0, p1, p2, p3, g0⟩ | assumption | (with_reducible exact keep4 K1.out.1 hlD hbwr) | go_keep)
            (first | (go_at_call 44; refine (app_in L x HSL.out hlk hxs _).mono ?_; rintro e x1 ⟨rfl, c1⟩; have K1 := Lib.hid (arm_facts HD.out hbel hbl HC0.out c1); have hS1 := K1.out.1; try (have HN : Held x1 wr.heap.size ⟨⟨#[]⟩, ⟨#[]⟩, 0, false⟩ := (by with_reducible exact held_n c1); obtain ⟨n0, n1, n2, n3⟩ := HN.cells; obtain ⟨m0, m1, m2, m3⟩ := hfree HN)))
          all_goals
            first
              | (have HM := Lib.hid (mid1 (x := x) hbel HD.out HWAS.out HOWN.out htop c1))
              | (have HM := Lib.hid (mid2 (x := x) hbel HD.out HWAS.out HOWN.out htop c1))
            clear c1 K1 hS1 p0 p1 p2 p3 g0 HD HWAS HOWN hbel htop
            first
              | clear HN n0 n1 n2 n3 m0 m1 m2 m3
              | skip
            rename_i hHeldX
            clear hHeldX
            first
              | (generalize hX : x1.alloc (.cells #[.string (frames (L ++ [x])), .string ⟨#[]⟩, .int .i64 (-1), .bool false] 32) = X at *; generalize hgx : x1.heap.size = gx at *; clear hX hgx)
              | (generalize hX : ((((x1.setCell ⟨wr.heap.size, 0, none⟩ (.string (frames (L ++ [x])))).setCell ⟨wr.heap.size, 1, none⟩ (.string ⟨#[]⟩)).setCell ⟨wr.heap.size, 2, none⟩ (.int .i64 (-1))).setCell ⟨wr.heap.size, 3, none⟩ (.bool false)) = X at *; generalize hgx : wr.heap.size = gx at *; clear hX hgx)
            have HDX := Lib.hid HM.out.d
            obtain ⟨r0, r1, r2, r3⟩ := HM.out.new.cells
            have bX := HM.out.low
            have g1 := (bX.cell (p := ⟨b, off + j, none⟩) hbl).trans HC0.out
            go_wp2_with (first
              | (refine store_dk rfl _ _ rfl rfl w gd ⟨frames (L ++ [x]), ⟨#[]⟩, -1, false⟩ rfl rfl _ HDX.out rfl bX hgw ?_; intro W3 P3; have PP3 := Lib.hid P3; have OW3 := Lib.hid (own_far HM.out.own P3 hl1); have b3 := P3.low; have g3 := (b3.cell (p := ⟨b, off + j, none⟩) hbl).trans HC0.out; have ht3 : B ≤ W3.heap.size := (by have := P3.size; have := HM.out.top; omega); clear P3 g1)
              | (at_builtin; refine wpList_append_own _ rfl _ _ 54 rfl B 9 i0 (.string ⟨#[]⟩) 1 16 Try.underlying54 hi hz0 hz1 hz2 rfl (by decide) _ _ _ rfl (OW3.out.alloc _) ⟨W3.heap.size, 0, none⟩ 1 1 [.string x] rfl rfl (one_new W3 _ _) (by intro u hu; simp at hu; subst hu; rfl) (by unfold maxLen; omega) (by omega) (by simp; omega) ?_; intro v' w9 hown' hgrow _; have HREL := Lib.hid (step_two (m := m) HLN.out HM.out.was HM.out.own HM.out.top PP3.out hgn hl1 hl2 hwB hown' hgrow); clear hown' hgrow))
            go_roundw
            case rel => exact ⟨j + 1, by omega, by go_num, HREL.out⟩
            case measure => simp [intOf]; omega
        · obtain rfl : j = m.length := by omega
          rw [List.take_of_length_le (Nat.le_refl _)] at HOWN HD p0
          have HSL := Lib.hid (short_app HSH.out HSH2.out)
          have hlk : (l ++ m).length ≤ 24 := by rw [List.length_append]; omega
          have hfk := frames_small _ HSL.out hlk
          have HWA := Lib.hid (whole_all (l ++ m) (short_big HSL.out))
          go_wp2_with fail
          refine (read_any ⟨frames (l ++ m), ⟨#[]⟩, -1, false⟩ (by show (frames (l ++ m)).size ≤ _; omega) _).mono ?_
          rintro e w3 ⟨v, rfl, own3, c3⟩
          have hst := Strs.own own3
          dsimp only at hst ⊢
          rw [HWA.out.1] at hst
          rw [HWA.out.2.1]
          have SV3 := Lib.hid hst
          have HD3 := Lib.hid (HD.out.keep c3)
          have HW3 := Lib.hid (HWAS.out.keep c3)
          have SA3 := Lib.hid (Strs.own (own_keep HOWN.out c3))
          have b3 := hbel.trans (c3.mono hbel.size)
          clear hst own3 c3 p0 p1 p2 p3 HD HWAS HOWN hbel
          obtain ⟨p0, p1, p2, p3⟩ := HD3.out.cells
          go_wp2_with fail
          refine (trim_ok l m HSL.out hlk _).mono ?_
          rintro e w4 ⟨rfl, c4⟩
          have HD4 := Lib.hid (HD3.out.keep c4)
          have HW4 := Lib.hid (HW3.out.keep c4)
          have SV4 := Lib.hid (SV3.out.keep c4)
          have SA4 := Lib.hid (SA3.out.keep c4)
          have b4 := b3.trans (c4.mono b3.size)
          clear c4 p0 p1 p2 p3 HD3 HW3 SV3 SA3 b3
          go_wp2_with fail
          refine (awake12_any _).mono ?_
          rintro e w5 ⟨rfl, c5⟩
          have HB5 := Lib.hid (Held.keep (Held.new w4 ⟨frames l, ⟨#[]⟩, -1, false⟩) c5)
          have c45 : Below w4.heap.size w4 w5 := ((Below.refl _ _).alloc (Nat.le_refl _) _).trans (c5.mono (by simp))
          have HD5 := Lib.hid (HD4.out.keep c45)
          have HW5 := Lib.hid (HW4.out.keep c45)
          have SV5 := Lib.hid (SV4.out.keep c45)
          have SA5 := Lib.hid (SA4.out.keep c45)
          have b5 := b4.trans (c45.mono b4.size)
          clear c45 c5 HD4 HW4 SV4 SA4 b4
          generalize w4.heap.size = gb at *
          go_wp2_with fail
          refine (same_self _ _ _ _ SV5.out SA5.out).mono ?_
          rintro e w6 ⟨rfl, c6⟩
          obtain ⟨q0, q1, q2, q3⟩ := (HB5.out.keep c6).cells
          obtain ⟨p0, p1, p2, p3⟩ := (HD5.out.keep c6).cells
          obtain ⟨r0, r1, r2, r3⟩ := (HW5.out.keep c6).cells
          have b6 := b5.trans (c6.mono b5.size)
          clear c6 HB5 HD5 HW5 SV5 SA5 b5
          go_wp2_with fail
          go_ret
          exact ⟨rfl, b6⟩
set_option maxHeartbeats 4000000 in
set_option maxRecDepth 100000 in
theorem walk (a : Option Addr) (n cap : Nat) (l : List ByteArray) (a2 : Option Addr) (n2 cap2 : Nat) (m : List ByteArray) (w : World) (hA : l.length = n ∧ Strs w (.slice a n cap) l ∧ ∀ s ∈ l, s.size ≤ maxLen) (hA2 : m.length = n2 ∧ Strs w (.slice a2 n2 cap2) m ∧ ∀ s ∈ m, s.size ≤ maxLen) :
    Calls Try.prog 13 #[.slice a n cap, .slice a2 n2 cap2] w fun e w' => e = .returned (.bool true) ∧ Below w.heap.size w w' := by
  obtain ⟨rfl, hS, hms⟩ := hA
  obtain ⟨rfl, hS2, hms2⟩ := hA2
  have hl1 : l.length ≤ maxLen := by obtain ⟨_, _, hv, h1, h2, _⟩ := hS; omega
  have hl2 : m.length ≤ maxLen := by obtain ⟨_, _, hv, h1, h2, _⟩ := hS2; omega
  unfold maxLen at hl1 hl2
  by_cases hg : l.length ≤ 12 ∧ m.length ≤ 12
  · obtain ⟨g1, g2⟩ := hg
    by_cases hsh : Short l
    · by_cases hsh2 : Short m
      · exact good a cap l a2 cap2 m w hS hms hS2 hms2 g1 g2 hsh hsh2
      · have HS := Lib.hid hS
        have HMS := Lib.hid hms
        have HSH := Lib.hid hsh
        have HS2 := Lib.hid hS2
        have HMS2 := Lib.hid hms2
        have HSH2 := Lib.hid hsh2
        clear hS hms hsh hS2 hms2 hsh2
        go_enter Try.func13, Try.ntmps13
        go_wp2_with fail
        refine (made_any _ l g1 HMS.out _ HS.out).mono ?_
        rintro e w1 ⟨hok, _, b1⟩
        obtain rfl := hok HSH.out
        clear hok
        have b1a := b1.alloc b1.size (.cells (dcells ⟨frames l, ⟨#[]⟩, -1, false⟩) 32)
        have b1s := b1.size
        go_wp2_with fail
        refine (made_any _ m g2 HMS2.out _ (HS2.out.keep b1a)).mono ?_
        rintro e w2 ⟨_, hbad, c2⟩
        obtain ⟨d, rfl⟩ := hbad HSH2.out
        clear hbad
        have b2 := b1a.trans (c2.mono (by simp; omega))
        clear c2 b1a b1
        obtain ⟨s2, u2, f2, d2⟩ := d
        go_wp2_with fail
        refine (awake12_any _).mono ?_
        rintro e w3 ⟨rfl, c3⟩
        have b3 := (b2.alloc b2.size (.cells (dcells ⟨s2, u2, f2, d2⟩) 32)).trans (c3.mono (by have := b2.size; simp; omega))
        clear c3
        go_wp2_with fail
        go_ret
        exact ⟨rfl, b3⟩
    · have HS := Lib.hid hS
      have HMS := Lib.hid hms
      have HSH := Lib.hid hsh
      have HS2 := Lib.hid hS2
      have HMS2 := Lib.hid hms2
      clear hS hms hsh hS2 hms2
      by_cases hsh2 : Short m
      all_goals
        have HSH2 := Lib.hid hsh2
        clear hsh2
        go_enter Try.func13, Try.ntmps13
        go_wp2_with fail
        refine (made_any _ l g1 HMS.out _ HS.out).mono ?_
        rintro e w1 ⟨_, hbad, b1⟩
        obtain ⟨d, rfl⟩ := hbad HSH.out
        clear hbad
        obtain ⟨s1, u1, f1, d1⟩ := d
        have b1a := b1.alloc b1.size (.cells (dcells ⟨s1, u1, f1, d1⟩) 32)
        have b1s := b1.size
        go_wp2_with fail
        refine (made_any _ m g2 HMS2.out _ (HS2.out.keep b1a)).mono ?_
        rintro e w2 ⟨hok, hbad, c2⟩
        have b2 := b1a.trans (c2.mono (by simp; omega))
        clear c2 b1a b1
        have hcase : ∃ (d : Dk) (q : Bool), e = .returned (.tuple #[dval d, .bool q]) := by
          first
            | exact ⟨_, _, hok HSH2.out⟩
            | (obtain ⟨d, hd⟩ := hbad HSH2.out; exact ⟨d, _, hd⟩)
        clear hok hbad
        obtain ⟨⟨s2, u2, f2, d2⟩, q, rfl⟩ := hcase
        go_wp2_with fail
        refine (awake12_any _).mono ?_
        rintro e w3 ⟨rfl, c3⟩
        have b3 := (b2.alloc b2.size (.cells (dcells ⟨s2, u2, f2, d2⟩) 32)).trans (c3.mono (by have := b2.size; simp; omega))
        clear c3
        go_wp2_with fail
        go_ret
        exact ⟨rfl, b3⟩
  · have hgd : (12 < l.length) ∨ (l.length ≤ 12 ∧ 12 < m.length) := by omega
    clear hS hms hS2 hms2 hg
    rcases hgd with hgd | ⟨hg1, hgd⟩
    all_goals
      go_enter Try.func13, Try.ntmps13
      go_wp2_with fail
      refine (awake12_any _).mono ?_
      rintro e w2 ⟨rfl, b2⟩
      go_wp2_with fail
      go_ret
      exact ⟨rfl, b2⟩

theorem laidOut : laidOutB Try.prog = true := by kernel_rfl
set_option maxRecDepth 100000 in
theorem lifted (os : Os) (started : os.Started) (H : Type) (enc : TypeId × Value → H) :
    ReturnsInHanded {} Try.checked os 13 .any (Rows.journalGrowsSpec.pre6 enc Try.prog Try.f13 Rows.journalGrowsRow.domain false) (Rows.journalGrowsSpec.post enc Try.prog Try.f13 false true false false) := by
  refine returnsInHanded_of_change (C := Try.checked) own started (by kernel_rfl) Try.func13
    (ChangeSpec.witness6 (enc := enc) (C := Try.checked) false ⟨#[], #[.slice none 0 0, .slice none 0 0], []⟩ 8 (by kernel_rfl) (by kernel_rfl) (by kernel_rfl) (by kernel_rfl)) ?_
  intro W base args ds gs before hval0 hW hcnd _
  have hval : ∀ (j : Nat) t v, Try.f13.params[j]? = some t → args[j]? = some v → Value.okWide Try.prog W .any base t v := hval0
  have hW' := hW
  obtain ⟨p, q, hA0, hV, rfl, hfz, hnd⟩ := hW
  have hA : DataW.TrodAll enc Try.prog W 0 (fun _ => true) true Try.f13.params.toList args.toList ds p := hA0
  rw [Try.params13] at hA hval
  obtain ⟨v0, vs0, d0, ds0, p0, q0, hargs, rfl, rfl, h0, r0⟩ := trodAll_cons hA
  obtain ⟨v1, vs1, d1, ds1, p1, q1, rfl, rfl, rfl, h1, r1⟩ := trodAll_cons r0
  obtain ⟨rfl, rfl, rfl⟩ := trodAll_nil r1
  obtain rfl : args = #[v0, v1] := by cases args; simp_all
  obtain ⟨rfl, rfl⟩ := trodVars_none hV
  obtain ⟨a0, len0, cap0, rfl⟩ := okWide_slice Try.underlying54 (hval 0 54 v0 rfl rfl)
  have k0 := h0
  have lt0 : ∀ x ∈ p0, x.block < W.heap.size := by obtain ⟨m, hm⟩ := k0; exact DataW.trod_lt m _ _ _ hm
  obtain ⟨l0, w0⟩ := open_strs h0
  obtain ⟨a1, len1, cap1, rfl⟩ := okWide_slice Try.underlying54 (hval 1 54 v1 rfl rfl)
  have k1 := h1
  have lt1 : ∀ x ∈ p1, x.block < W.heap.size := by obtain ⟨m, hm⟩ := k1; exact DataW.trod_lt m _ _ _ hm
  obtain ⟨m1, w1⟩ := open_strs h1
  clear hA0 hval0
  refine (walk a0 len0 cap0 l0 a1 len1 cap1 m1 W w0 w1).mono fun e W' ⟨he, bel⟩ => ?_
  subst he
  exact ⟨_, rfl, _, _, _, [], _, [], hW', trodAll_mk1 (shut_bool Try.underlying4 _), (trodAll_cons_mk (Below.trod laidOut (by kernel_rfl) (of_decide_eq_true (by kernel_rfl)) k0 bel lt0) (trodAll_cons_mk (Below.trod laidOut (by kernel_rfl) (of_decide_eq_true (by kernel_rfl)) k1 bel lt1) trodAll_mk0)), rfl, bel.frame _, fun h => by cases h⟩

theorem over : Rows.journalGrowsRow.holds Try.pinned (OpenSpec.ofChange Rows.journalGrowsSpec) :=
  OpenClaim.holds_of_wide 13 Try.f13 rfl rfl rfl rfl rfl rfl rfl ⟨rfl, rfl, rfl, rfl, rfl⟩ rfl rfl rfl rfl rfl (by kernel_rfl) Try.func13 (by kernel_rfl)
    (of_decide_eq_true (by kernel_rfl)) (by unfold Func.isWrapper; first | (rw [if_pos (by decide +kernel)]; kernel_rfl) | (rw [if_neg (by decide +kernel)]; exact ⟨rfl, rfl⟩))
    (fun os started H enc _ => lifted os started H enc)

theorem proved : Rows.JournalGrowsSaid :=
  over
end Go.Proofs.Ytgffoepnkpkhaaa.journalGrows
#print axioms Go.Proofs.Ytgffoepnkpkhaaa.journalGrows.proved
