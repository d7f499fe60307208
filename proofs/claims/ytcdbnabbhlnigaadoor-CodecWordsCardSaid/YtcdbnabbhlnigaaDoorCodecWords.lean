/- CodecWords, as a card: for every input the word of any kind, and the kind of any word, are those of the page, where codec.words starts as the program's text lays it; no other condition. -/
import Derived.Test.YtcdbnabbhlnigaaDoorBase
import Derived.Carry
import Derived.Deep.Slices
namespace Go.Proofs.YtcdbnabbhlnigaaDoor.codecWords
open Go.ChangeShapes Go.WideShapes Go.ChangeAt Go.RowKit Go.Deep
open Go.ChangeMaps (open_string shut_string)

theorem row_cells (W : World) (cs : Array Value) (hcs : ∀ i, i < 11 → cs[i]? = some (.string (wd i))) (T : TypeId) : ∀ i, i < 11 → (W.alloc (.cells cs T)).cell? ⟨W.heap.size, i, none⟩ = some (.string (wd i)) := by
  intro i hi
  rw [Lib.cell_of_heap (heap_alloc_new W (.cells cs T))]
  exact hcs i hi
/-- what is wanted, behind the first k words -/
def wantAt (n : Int) (k : Nat) : ByteArray := if 1 ≤ n ∧ n < k then wd n.toNat else ⟨#[]⟩
theorem want_all (n : Int) : wantAt n 11 = wordOf n := by
  unfold wantAt wordOf
  by_cases h0 : n = 0
  · subst h0; rfl
  · by_cases h : 1 ≤ n ∧ n < 11
    · rw [if_pos (by omega), if_pos (by omega)]
    · rw [if_neg (by omega), if_neg (by omega)]
theorem want_same (n : Int) (k : Nat) (h : (k : Int) ≠ n) : wantAt n (k + 1) = wantAt n k := by
  unfold wantAt
  by_cases h2 : 1 ≤ n ∧ n < k
  · rw [if_pos h2, if_pos (by omega)]
  · rw [if_neg h2, if_neg (by omega)]
theorem want_this (k : Nat) (h : 1 ≤ k) : wantAt (k : Int) (k + 1) = wd k := by
  unfold wantAt
  rw [if_pos (by omega), Int.toNat_natCast]
theorem place_this (s : ByteArray) (k : Nat) (h : 1 ≤ k) (he : wd k = s) : place s (k + 1) = k := by rw [place, if_pos ⟨h, he⟩]
theorem place_other (s : ByteArray) (k : Nat) (he : wd k ≠ s) : place s (k + 1) = place s k := by rw [place, if_neg (fun h => he h.2)]
def Rel (n : Int) (s : ByteArray) (w wr : World) (g k : Nat) (wv pv : Value) : Prop :=
  wv = .string (wantAt n k) ∧ pv = .int .i64 (place s k : Nat) ∧ Below w.heap.size w wr ∧ g < wr.heap.size ∧ ∀ i, i < 11 → wr.cell? ⟨g, i, none⟩ = some (.string (wd i))
set_option maxHeartbeats 2000000 in
set_option maxRecDepth 100000 in
theorem walk (n : Int) (s : ByteArray) (w : World) (_w0 : (Lit.int .i64 n).wf = true) (w1 : s.size ≤ maxLen) (hw : Words w) :
    Calls Tryd.prog 3 #[.int .i64 n, .string s] w fun e w' => e = .returned (.bool true) ∧ Below w.heap.size w w' := by
  have HW := Lib.hid hw
  clear hw
  unfold maxLen at w1
  by_cases hs : s.size ≤ 50
  · go_enter Tryd.func3, Tryd.ntmps3
    go_wp2
    have h0 : Rel n s w (w.alloc (.cells #[.string ⟨#[]⟩, .string ⟨#[111, 112, 101, 110]⟩, .string ⟨#[116, 114, 97, 100, 101]⟩, .string ⟨#[99, 97, 110, 99, 101, 108]⟩, .string ⟨#[112, 97, 121]⟩, .string ⟨#[100, 101, 108, 105, 118, 101, 114]⟩, .string ⟨#[114, 101, 99, 97, 108, 108]⟩, .string ⟨#[98, 105, 100]⟩, .string ⟨#[116, 111, 112]⟩, .string ⟨#[100, 114, 97, 119]⟩, .string ⟨#[116, 105, 99, 107]⟩] 9)) w.heap.size 1 (.string ⟨#[]⟩) (.int .i64 0) := by
      refine ⟨?_, rfl, (Below.refl _ _).alloc (Nat.le_refl _) _, by simp, row_cells w _ ?_ 9⟩
      · unfold wantAt; rw [if_neg (by omega)]
      · intro i hi
        obtain rfl | rfl | rfl | rfl | rfl | rfl | rfl | rfl | rfl | rfl | rfl : i = 0 ∨ i = 1 ∨ i = 2 ∨ i = 3 ∨ i = 4 ∨ i = 5 ∨ i = 6 ∨ i = 7 ∨ i = 8 ∨ i = 9 ∨ i = 10 := by omega
        all_goals rfl
    generalize (w.alloc (.cells #[.string ⟨#[]⟩, .string ⟨#[111, 112, 101, 110]⟩, .string ⟨#[116, 114, 97, 100, 101]⟩, .string ⟨#[99, 97, 110, 99, 101, 108]⟩, .string ⟨#[112, 97, 121]⟩, .string ⟨#[100, 101, 108, 105, 118, 101, 114]⟩, .string ⟨#[114, 101, 99, 97, 108, 108]⟩, .string ⟨#[98, 105, 100]⟩, .string ⟨#[116, 111, 112]⟩, .string ⟨#[100, 114, 97, 119]⟩, .string ⟨#[116, 105, 99, 107]⟩] 9)) = W1 at *
    go_loopw [6, 7, 8] (fun wv pv i wr => ∃ k : Nat, 1 ≤ k ∧ k ≤ 11 ∧ i = .int .i64 k ∧ Rel n s w wr w.heap.size k wv pv) (fun _ _ i _ => 11 - (intOf i).toNat)
    case atStart => exact ⟨1, Nat.le_refl _, by omega, rfl, h0⟩
    case round =>
      obtain ⟨k, hk1, hk, rfl, rfl, rfl, hbel, hgl, hcl⟩ := hrel
      have HCL := Lib.hid hcl
      clear hcl
      by_cases hlt : k < 11
      · have hc := HCL.out k hlt
        have hi1 : (0 : Int) ≤ (k : Int) := by omega
        have hi2 : (k : Int) < 11 := by omega
        by_cases hn : (k : Int) = n
        · have hnb : ((k : Int) == n) = true := by simpa using hn
          have HWT : Hid (wantAt n (k + 1) = wd k) := Lib.hid (by rw [← hn]; exact want_this k hk1)
          clear hn
          by_cases he : wd k = s
          · have HP := Lib.hid (place_this s k hk1 he)
            rw [he] at hc
            have HE := Lib.hid he
            clear he
            generalize wantAt n k = wt at *
            generalize place s k = pl at *
            go_wp2
            go_roundw
            case rel => exact ⟨k + 1, by omega, by omega, by go_num, by rw [HWT.out, HE.out], by rw [HP.out], hbel, hgl, HCL.out⟩
            case measure => simp [intOf]; omega
          · have HP := Lib.hid (place_other s k he)
            have hne := str_ne he
            clear he
            generalize wantAt n k = wt at *
            generalize hpl : place s k = pl at *
            have HPL := Lib.hid hpl
            clear hpl
            go_wp2
            go_roundw
            case rel => exact ⟨k + 1, by omega, by omega, by go_num, by rw [HWT.out], by rw [HP.out], hbel, hgl, HCL.out⟩
            case measure => simp [intOf]; omega
        · have hnb : ((k : Int) == n) = false := by simpa using hn
          have HWT := Lib.hid (want_same n k hn)
          clear hn
          by_cases he : wd k = s
          · have HP := Lib.hid (place_this s k hk1 he)
            rw [he] at hc
            clear he
            generalize wantAt n k = wt at *
            generalize place s k = pl at *
            go_wp2
            go_roundw
            case rel => exact ⟨k + 1, by omega, by omega, by go_num, by rw [HWT.out], by rw [HP.out], hbel, hgl, HCL.out⟩
            case measure => simp [intOf]; omega
          · have HP := Lib.hid (place_other s k he)
            have hne := str_ne he
            clear he
            generalize wantAt n k = wt at *
            generalize place s k = pl at *
            go_wp2
            go_roundw
            case rel => exact ⟨k + 1, by omega, by omega, by go_num, by rw [HWT.out], by rw [HP.out], hbel, hgl, HCL.out⟩
            case measure => simp [intOf]; omega
      · obtain rfl : k = 11 := by omega
        rw [want_all]
        go_wp2_with fail
        refine (kind_any s _ (HW.out.keep hbel)).mono ?_
        rintro e x1 ⟨rfl, rfl⟩
        go_wp2_with fail
        refine (low hbel (awake11_any _ (HW.out.keep hbel))).mono ?_
        rintro e x2 ⟨rfl, b2⟩
        go_wp2_with fail
        refine (word_any n _ (HW.out.keep b2)).mono ?_
        rintro e x3 ⟨rfl, rfl⟩
        by_cases hp : 0 < place s 11
        · have hp2 : decide (0 < place s 11) = true := by simpa using hp
          generalize place s 11 = pl at *
          go_wp2_with fail
          go_ret
          exact ⟨rfl, b2⟩
        · have hp2 : decide (0 < place s 11) = false := by simpa using hp
          generalize place s 11 = pl at *
          go_wp2_with fail
          go_ret
          exact ⟨rfl, b2⟩
  · go_enter Tryd.func3, Tryd.ntmps3
    go_wp2_with fail
    refine (awake11_any _ HW.out).mono ?_
    rintro e x1 ⟨rfl, b1⟩
    go_wp2_with fail
    go_ret
    exact ⟨rfl, b1⟩

theorem laidOut : laidOutB Tryd.prog = true := by kernel_rfl
set_option maxRecDepth 100000 in
theorem lifted (os : Os) (started : os.Started) (H : Type) (enc : TypeId × Value → H) :
    ReturnsInHanded {} Tryd.checked os 3 .any (fun w args => (Rows.codecWordsSpec.pre enc Tryd.prog Tryd.f3 [] false w args ∧ laidMetH Tryd.prog wlaid w) ∧ sizedMet enc Tryd.prog Tryd.f3 (OpenSpec.ofChange Rows.codecWordsSpec) false w args)
      (Rows.codecWordsSpec.post enc Tryd.prog Tryd.f3 false true false false) := by
  refine returnsInHanded_of_change_and (C := Tryd.checked) (X := fun w _ => laidMetH Tryd.prog wlaid w) (fun _ _ _ hh h => h.of_heap hh) own started (by kernel_rfl) Tryd.func3
    (ChangeSpec.witness_shaped (enc := enc) (C := Tryd.checked) (os := os) (X := fun w _ => laidMetH Tryd.prog wlaid w) false (World.doorLaid Tryd.prog 400 os) #[.int .i64 0, .string ByteArray.empty] 8 rfl (World.shaped_of_RefB (by kernel_rfl) (by kernel_rfl)) (by kernel_rfl) (by kernel_rfl) (by kernel_rfl) (door_met os _)) ?_
  intro W base args ds gs before hval0 hW _ _ hL _
  have hval : ∀ (j : Nat) t v, Tryd.f3.params[j]? = some t → args[j]? = some v → Value.okWide Tryd.prog W .any base t v := hval0
  have hW' := hW
  obtain ⟨p, q, hA0, hV, rfl, hfz, hnd⟩ := hW
  have hA : DataW.TrodAll enc Tryd.prog W 0 (fun _ => true) true Tryd.f3.params.toList args.toList ds p := hA0
  rw [Tryd.params3] at hA hval
  obtain ⟨v0, vs0, d0, ds0, p0, q0, hargs, rfl, rfl, h0, r0⟩ := trodAll_cons hA
  obtain ⟨v1, vs1, d1, ds1, p1, q1, rfl, rfl, rfl, h1, r1⟩ := trodAll_cons r0
  obtain ⟨rfl, rfl, rfl⟩ := trodAll_nil r1
  obtain rfl : args = #[v0, v1] := by cases args; simp_all
  obtain ⟨rfl, rfl⟩ := trodVars_none hV
  obtain ⟨a0, rfl, rfl, rfl, w0⟩ := open_int Tryd.underlying3 (hval 0 3 v0 rfl rfl) h0
  obtain ⟨a1, rfl, rfl, rfl, w1⟩ := open_string Tryd.underlying9 (hval 1 9 v1 rfl rfl) h1
  have hw := of_laid hL
  clear hA0 hval0
  refine (walk a0 a1 W w0 w1 hw).mono fun e W' ⟨he, bel⟩ => ?_
  subst he
  exact ⟨_, rfl, _, _, _, [], _, [], hW', trodAll_mk1 (shut_bool Tryd.underlying4 _), (trodAll_cons_mk (shut_int Tryd.underlying3 w0) (trodAll_cons_mk (shut_string Tryd.underlying9 w1) trodAll_mk0)), rfl, bel.frame _, fun h => by cases h⟩

theorem over : Rows.CodecWordsSaid :=
  OpenClaim.holds_of_wide 3 Tryd.f3 rfl rfl rfl rfl rfl rfl rfl ⟨rfl, rfl, rfl, rfl, rfl⟩ rfl rfl rfl rfl rfl (by kernel_rfl) Tryd.func3 (by kernel_rfl)
    (of_decide_eq_true (by kernel_rfl)) (by unfold Func.isWrapper; first | (rw [if_pos (by decide +kernel)]; kernel_rfl) | (rw [if_neg (by decide +kernel)]; exact ⟨rfl, rfl⟩))
    (fun os started H enc _ => lifted os started H enc)

theorem proved : Rows.CodecWordsCardSaid :=
  Claim7.holds_tied_plain_at .later [] [.data] true (true, "a6c2658c4bbb71df0a1a0b409eba55bab08e23a9184530bebeffa009706320c1") false
    over (fun _ h => by cases h) (by kernel_rfl) (fun _ h => by cases h) codecWords_row_tie rfl ⟨rfl, rfl⟩ (by kernel_rfl) rfl
    (fun f fn hf hfn => by
      obtain rfl : f = 3 := Option.some.inj ((show Tryd.prog.funcNamed "compline/complinelaw11.CodecWords" = some 3 by kernel_rfl).symm.trans hf) |>.symm
      obtain rfl : fn = Tryd.f3 := (Option.some.inj (Tryd.func3.symm.trans hfn)).symm
      exact ⟨by kernel_rfl, fun j t ht => by
        rw [Tryd.params3] at ht
        have hm : t ∈ [3, 9] := by simpa using Array.mem_of_getElem? ht
        have hall : ([3, 9].all fun u => !Tryd.prog.wantsStandIn u) = true := by kernel_rfl
        exact (show Tryd.prog.wantsStandIn t = false by simpa using List.all_eq_true.1 hall t hm)⟩)
    (by kernel_rfl)
end Go.Proofs.YtcdbnabbhlnigaaDoor.codecWords
#print axioms Go.Proofs.YtcdbnabbhlnigaaDoor.codecWords.proved
