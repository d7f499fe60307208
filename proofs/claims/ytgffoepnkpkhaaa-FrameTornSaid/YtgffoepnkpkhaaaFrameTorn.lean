/- FrameTorn holds for every input: of frames that are cut off anywhere just those are told that are there whole; no condition. -/
import Derived.Test.YtgffoepnkpkhaaaBase
import Derived.Test.YtgffoepnkpkhaaaStrs
import Derived.Carry
namespace Go.Proofs.Ytgffoepnkpkhaaa.frameTorn
open Go.ChangeShapes Go.WideShapes Go.ChangeAt Go.RowKit Go.Deep
open Go.ChangeMaps (open_string shut_string)

theorem tail_mem {l : List ByteArray} {k : Nat} (h : k < l.length) (hall : ∀ s ∈ l.take k, s.size ≤ 1024) (hk : l[k].size ≤ 1024) : ∀ s ∈ l.take (k + 1), s.size ≤ 1024 := by
  intro s hs
  rw [List.take_succ_eq_append_getElem h, List.mem_append, List.mem_singleton] at hs
  rcases hs with hs | rfl
  · exact hall s hs
  · exact hk
theorem take_all {l : List ByteArray} {k : Nat} (h : ¬ k < l.length) (hall : ∀ s ∈ l.take k, s.size ≤ 1024) : ∀ s ∈ l, s.size ≤ 1024 := by
  rw [List.take_of_length_le (by omega)] at hall; exact hall
def Rel1 (l : List ByteArray) (w wr : World) (k : Nat) (s : Value) : Prop := s = .string (frames (l.take k)) ∧ (∀ x ∈ l.take k, x.size ≤ 1024) ∧ Below w.heap.size w wr
theorem drop_size (l : List ByteArray) (k : Nat) (h : ∀ x ∈ l.take k, x.size ≤ 1024) (hn : l.length ≤ 20) : (frames (l.take k)).size ≤ 20640 := by
  have := frames_size _ h
  have : (l.take k).length ≤ l.length := by rw [List.length_take]; omega
  omega
theorem rem_le (a : Int) (n : Nat) (_h0 : 0 ≤ a) : ∃ k : Nat, a % ((n : Int) + 1) = k ∧ k ≤ n := by
  have h1 : 0 ≤ a % ((n : Int) + 1) := Int.emod_nonneg _ (by omega)
  have h2 : a % ((n : Int) + 1) < (n : Int) + 1 := Int.emod_lt_of_pos _ (by omega)
  exact ⟨(a % ((n : Int) + 1)).toNat, by omega, by omega⟩
set_option maxHeartbeats 4000000 in
set_option maxRecDepth 100000 in
theorem walk (a : Option Addr) (n cap : Nat) (l : List ByteArray) (at_ : Int) (w : World) (hA : l.length = n ∧ Strs w (.slice a n cap) l ∧ ∀ s ∈ l, s.size ≤ maxLen) (w1 : (Lit.int .u16 at_).wf = true) :
    Calls Try.prog 10 #[.slice a n cap, .int .u16 at_] w fun e w' => e = .returned (.bool true) ∧ Below w.heap.size w w' := by
  obtain ⟨rfl, hS, hms⟩ := hA
  have ha : 0 ≤ at_ ∧ at_ ≤ 65535 := by simp [Lit.wf, IntKind.min, IntKind.max, IntKind.signed, IntKind.bits] at w1; omega
  obtain ⟨ha0, ha1⟩ := ha
  clear w1
  have HS := Lib.hid hS
  obtain ⟨a', cap', hv, hc1, hc2, hcell⟩ := hS
  obtain ⟨rfl, _, rfl⟩ : a = a' ∧ l.length = l.length ∧ cap = cap' := by simpa using hv
  unfold maxLen at hc2 hms
  have HCELL := Lib.hid hcell
  have HMS := Lib.hid hms
  clear hcell hv hms
  by_cases hn : l.length ≤ 20
  · go_enter Try.func10, Try.ntmps10
    go_wp2
    go_loopw [5, 6] (fun s i wr => ∃ k : Nat, k ≤ l.length ∧ i = .int .i64 k ∧ Rel1 l w wr k s) (fun _ i _ => l.length - (intOf i).toNat)
    case atStart => exact ⟨0, Nat.zero_le _, rfl, by rw [List.take_zero]; rfl, by simp, Below.refl _ _⟩
    case round =>
      obtain ⟨k, hk, rfl, rfl, hall, hbel⟩ := hrel
      have HALL := Lib.hid hall
      have hsz := drop_size l k hall hn
      clear hall
      by_cases hlt : k < l.length
      · obtain ⟨b, off, rfl, hbl, hcl⟩ := HCELL.out (by omega)
        have g0 := (hbel.cell (p := ⟨b, off + k, none⟩) hbl).trans (hcl k hlt)
        have hxm := HMS.out l[k] (List.getElem_mem hlt)
        clear hcl
        by_cases hx : l[k].size ≤ 1024
        · have HF := Lib.hid (frames_take l k hlt)
          have HT := Lib.hid (tail_mem hlt HALL.out hx)
          generalize l[k] = x at *
          go_wp2_with fail
          refine (low hbel (refput_any x (by omega) _)).mono ?_
          rintro e x1 ⟨rfl, b1⟩
          have hps : (ByteArray.mk (Fr.put x.data.toList).toArray).size = 8 + x.size := by show (Fr.put x.data.toList).toArray.size = _; rw [List.size_toArray, Fr.put_len]; simp
          have HPS := Lib.hid hps
          have hps' : (ByteArray.mk (Fr.put x.data.toList).toArray).size ≤ 1032 := by omega
          clear hps
          generalize (ByteArray.mk (Fr.put x.data.toList).toArray) = px at *
          go_wp2_with fail
          rw [HF.out]
          go_roundw
          case rel => exact ⟨k + 1, by omega, by go_num, rfl, HT.out, b1⟩
          case measure => simp [intOf]; omega
        · generalize l[k] = x at *
          go_wp2_with fail
          refine (low hbel (awake8_any _)).mono ?_
          rintro e x1 ⟨rfl, b1⟩
          go_wp2_with fail
          go_ret
          exact ⟨rfl, b1⟩
      · have HL := Lib.hid (take_all hlt HALL.out)
        rw [List.take_of_length_le (by omega)] at hsz ⊢
        obtain ⟨k2, hk2, hk3⟩ := rem_le at_ (frames l).size ha0
        have HK2 := Lib.hid hk2
        have hF := Lib.hid (torn_all l HL.out)
        clear hk2 HALL
        go_wp2
        clear hlt
        rw [HK2.out]
        generalize hFR : frames l = FR at *
        have HFR := Lib.hid hFR
        clear hFR
        go_loop [8, 9] (fun a b => ∃ j : Nat, j ≤ l.length ∧ a = .int .i64 j ∧ b = .int .i64 (offs l j) ∧ offs l j ≤ k2) (fun a _ => l.length - (intOf a).toNat)
        case atStart => exact ⟨0, Nat.zero_le _, rfl, by rw [offs_zero]; rfl, by rw [offs_zero]; omega⟩
        case round =>
          obtain ⟨j, hj, rfl, rfl, hjk⟩ := hrel
          have HT := Lib.hid (hF.out j k2 hj hjk hk3)
          by_cases hlt : j < l.length
          · obtain ⟨b, off, rfl, hbl, hcl⟩ := HCELL.out (by omega)
            have g0 := (hbel.cell (p := ⟨b, off + j, none⟩) hbl).trans (hcl j hlt)
            have hx := HL.out l[j] (List.getElem_mem hlt)
            have HSU := Lib.hid (offs_succ l j hlt)
            clear hcl
            generalize l[j] = x at *
            by_cases hle : offs l j + 8 + x.size ≤ k2
            · generalize offs l j = u at *
              go_wp2
              go_round
              case rel => exact ⟨j + 1, by omega, by go_num, by rw [HSU.out]; go_num, by rw [HSU.out]; omega⟩
              case measure => simp [intOf]; omega
            · obtain ⟨t1, t2, t3⟩ := HT.out (Or.inr (by rw [HSU.out]; omega))
              have T1 := Lib.hid t1
              have T2 := Lib.hid t2
              have T3 := Lib.hid t3
              clear t1 t2 t3
              have hsx : (FR.extract 0 k2).size ≤ 1000000 := by rw [ByteArray.size_extract]; omega
              generalize offs l j = u at *
              go_wp2_with fail
              refine (scan_any (FR.extract 0 k2) hsx _).mono ?_
              rintro e x1 ⟨v, rfl, s1, c1⟩
              rw [T1.out] at s1
              rw [T2.out, T3.out]
              have b1 := hbel.trans (c1.mono hbel.size)
              have S1 := Lib.hid s1
              clear s1 c1
              by_cases hus : u < k2
              · rw [if_pos hus]
                go_wp2_with fail
                refine (awake8_any _).mono ?_
                rintro e x2 ⟨rfl, c2⟩
                have b2 := b1.trans (c2.mono b1.size)
                have S2 := Lib.hid (S1.out.keep c2)
                have S3 := Lib.hid ((HS.out.keep b2).take j hj)
                clear c2
                go_wp2_with fail
                refine (low b2 (same_any v _ (l.take j) (l.take j) _ S2.out S3.out)).mono ?_
                rintro e x3 ⟨rfl, b3⟩
                rw [show decide (l.take j = l.take j) = true from by simp]
                go_wp2_with fail
                go_ret
                exact ⟨rfl, b3⟩
              · rw [if_neg hus]
                go_wp2_with fail
                refine (awake8_any _).mono ?_
                rintro e x2 ⟨rfl, c2⟩
                have b2 := b1.trans (c2.mono b1.size)
                have S2 := Lib.hid (S1.out.keep c2)
                have S3 := Lib.hid ((HS.out.keep b2).take j hj)
                clear c2
                go_wp2_with fail
                refine (low b2 (same_any v _ (l.take j) (l.take j) _ S2.out S3.out)).mono ?_
                rintro e x3 ⟨rfl, b3⟩
                rw [show decide (l.take j = l.take j) = true from by simp]
                go_wp2_with fail
                go_ret
                exact ⟨rfl, b3⟩
          · obtain ⟨t1, t2, t3⟩ := HT.out (Or.inl (by omega))
            have T1 := Lib.hid t1
            have T2 := Lib.hid t2
            have T3 := Lib.hid t3
            clear t1 t2 t3
            have hsx : (FR.extract 0 k2).size ≤ 1000000 := by rw [ByteArray.size_extract]; omega
            generalize offs l j = u at *
            go_wp2_with fail
            refine (scan_any (FR.extract 0 k2) hsx _).mono ?_
            rintro e x1 ⟨v, rfl, s1, c1⟩
            rw [T1.out] at s1
            rw [T2.out, T3.out]
            have b1 := hbel.trans (c1.mono hbel.size)
            have S1 := Lib.hid s1
            clear s1 c1
            by_cases hus : u < k2
            · rw [if_pos hus]
              go_wp2_with fail
              refine (awake8_any _).mono ?_
              rintro e x2 ⟨rfl, c2⟩
              have b2 := b1.trans (c2.mono b1.size)
              have S2 := Lib.hid (S1.out.keep c2)
              have S3 := Lib.hid ((HS.out.keep b2).take j hj)
              clear c2
              go_wp2_with fail
              refine (low b2 (same_any v _ (l.take j) (l.take j) _ S2.out S3.out)).mono ?_
              rintro e x3 ⟨rfl, b3⟩
              rw [show decide (l.take j = l.take j) = true from by simp]
              go_wp2_with fail
              go_ret
              exact ⟨rfl, b3⟩
            · rw [if_neg hus]
              go_wp2_with fail
              refine (awake8_any _).mono ?_
              rintro e x2 ⟨rfl, c2⟩
              have b2 := b1.trans (c2.mono b1.size)
              have S2 := Lib.hid (S1.out.keep c2)
              have S3 := Lib.hid ((HS.out.keep b2).take j hj)
              clear c2
              go_wp2_with fail
              refine (low b2 (same_any v _ (l.take j) (l.take j) _ S2.out S3.out)).mono ?_
              rintro e x3 ⟨rfl, b3⟩
              rw [show decide (l.take j = l.take j) = true from by simp]
              go_wp2_with fail
              go_ret
              exact ⟨rfl, b3⟩
  · go_enter Try.func10, Try.ntmps10
    go_wp2_with fail
    refine (awake8_any _).mono ?_
    rintro e x1 ⟨rfl, b1⟩
    go_wp2_with fail
    go_ret
    exact ⟨rfl, b1⟩

theorem laidOut : laidOutB Try.prog = true := by kernel_rfl
set_option maxRecDepth 100000 in
theorem lifted (os : Os) (started : os.Started) (H : Type) (enc : TypeId × Value → H) :
    ReturnsInHanded {} Try.checked os 10 .any (Rows.frameTornSpec.pre6 enc Try.prog Try.f10 Rows.frameTornRow.domain false) (Rows.frameTornSpec.post enc Try.prog Try.f10 false true false false) := by
  refine returnsInHanded_of_change (C := Try.checked) own started (by kernel_rfl) Try.func10
    (ChangeSpec.witness6 (enc := enc) (C := Try.checked) false ⟨#[], #[.slice none 0 0, .int .u16 0], []⟩ 8 (by kernel_rfl) (by kernel_rfl) (by kernel_rfl) (by kernel_rfl)) ?_
  intro W base args ds gs before hval0 hW hcnd _
  have hval : ∀ (j : Nat) t v, Try.f10.params[j]? = some t → args[j]? = some v → Value.okWide Try.prog W .any base t v := hval0
  have hW' := hW
  obtain ⟨p, q, hA0, hV, rfl, hfz, hnd⟩ := hW
  have hA : DataW.TrodAll enc Try.prog W 0 (fun _ => true) true Try.f10.params.toList args.toList ds p := hA0
  rw [Try.params10] at hA hval
  obtain ⟨v0, vs0, d0, ds0, p0, q0, hargs, rfl, rfl, h0, r0⟩ := trodAll_cons hA
  obtain ⟨v1, vs1, d1, ds1, p1, q1, rfl, rfl, rfl, h1, r1⟩ := trodAll_cons r0
  obtain ⟨rfl, rfl, rfl⟩ := trodAll_nil r1
  obtain rfl : args = #[v0, v1] := by cases args; simp_all
  obtain ⟨rfl, rfl⟩ := trodVars_none hV
  obtain ⟨a0, len0, cap0, rfl⟩ := okWide_slice Try.underlying54 (hval 0 54 v0 rfl rfl)
  have k0 := h0
  have lt0 : ∀ x ∈ p0, x.block < W.heap.size := by obtain ⟨m, hm⟩ := k0; exact DataW.trod_lt m _ _ _ hm
  obtain ⟨l0, w0⟩ := open_strs h0
  obtain ⟨a1, rfl, rfl, rfl, w1⟩ := open_int Try.underlying22 (hval 1 22 v1 rfl rfl) h1
  clear hA0 hval0
  refine (walk a0 len0 cap0 l0 a1 W w0 w1).mono fun e W' ⟨he, bel⟩ => ?_
  subst he
  exact ⟨_, rfl, _, _, _, [], _, [], hW', trodAll_mk1 (shut_bool Try.underlying4 _), (trodAll_cons_mk (Below.trod laidOut (by kernel_rfl) (of_decide_eq_true (by kernel_rfl)) k0 bel lt0) (trodAll_cons_mk (shut_int Try.underlying22 w1) trodAll_mk0)), rfl, bel.frame _, fun h => by cases h⟩

theorem over : Rows.frameTornRow.holds Try.pinned (OpenSpec.ofChange Rows.frameTornSpec) :=
  OpenClaim.holds_of_wide 10 Try.f10 rfl rfl rfl rfl rfl rfl rfl ⟨rfl, rfl, rfl, rfl, rfl⟩ rfl rfl rfl rfl rfl (by kernel_rfl) Try.func10 (by kernel_rfl)
    (of_decide_eq_true (by kernel_rfl)) (by unfold Func.isWrapper; first | (rw [if_pos (by decide +kernel)]; kernel_rfl) | (rw [if_neg (by decide +kernel)]; exact ⟨rfl, rfl⟩))
    (fun os started H enc _ => lifted os started H enc)

theorem proved : Rows.FrameTornSaid :=
  over
end Go.Proofs.Ytgffoepnkpkhaaa.frameTorn
#print axioms Go.Proofs.Ytgffoepnkpkhaaa.frameTorn.proved
