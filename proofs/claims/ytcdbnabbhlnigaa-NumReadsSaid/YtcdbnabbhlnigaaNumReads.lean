/- NumReads holds for every input: what any calls of a reader read of any bytes, and the first error; no condition. -/
import Derived.Test.YtcdbnabbhlnigaaBase
import Derived.Test.YtcdbnabbhlnigaaNum3
import Derived.Test.YtcdbnabbhlnigaaText
import Derived.Deep.RegionHeld3
import Derived.Deep.SlicePairs
import Derived.Carry
namespace Go.Proofs.Ytcdbnabbhlnigaa.numReads
open Go.ChangeShapes Go.WideShapes Go.ChangeAt Go.RowKit Go.Deep
open Go.ChangeMaps (open_string shut_string)

theorem low {P : Program} {f : FuncId} {args : Array Value} {w0 W : World} {R : Ending} (hb : Below w0.heap.size w0 W) (h : Calls P f args W fun e w' => e = R ∧ Below W.heap.size W w') :
    Calls P f args W fun e w' => e = R ∧ Below w0.heap.size w0 w' := h.mono fun _ _ ⟨he, hc⟩ => ⟨he, hb.trans (hc.mono hb.size)⟩
set_option maxHeartbeats 400000 in
theorem none_err (w : World) : Calls Try.prog 17 #[.pointer none] w fun e w' => e = .returned (.int .i64 1) ∧ w = w' := by
  go_enter Try.func17, Try.ntmps17
  go_wp2
  go_ret
  exact ⟨rfl, rfl⟩
set_option maxHeartbeats 400000 in
theorem none_left (w : World) : Calls Try.prog 18 #[.pointer none] w fun e w' => e = .returned (.int .i64 0) ∧ w = w' := by
  go_enter Try.func18, Try.ntmps18
  go_wp2
  go_ret
  exact ⟨rfl, rfl⟩
set_option maxHeartbeats 400000 in
theorem none_end (w : World) : Calls Try.prog 19 #[.pointer none] w fun e w' => e = .returned (.int .i64 1) ∧ w = w' := by
  go_enter Try.func19, Try.ntmps19
  go_wp2
  go_ret
  exact ⟨rfl, rfl⟩
set_option maxHeartbeats 400000 in
theorem none_take (F : Value) (w : World) : Calls Try.prog 25 #[.pointer none, F] w fun e w' => e = .returned (.tuple #[.int .i64 0, .bool false]) ∧ w = w' := by
  go_enter Try.func25, Try.ntmps25
  go_wp2_with fail
  refine (none_err _).mono ?_
  rintro e w' ⟨rfl, rfl⟩
  go_wp2
  go_ret2
  exact ⟨rfl, rfl⟩
set_option maxHeartbeats 400000 in
theorem none_num (w : World) : Calls Try.prog 11 #[.pointer none] w fun e w' => e = .returned (.int .i64 0) ∧ w = w' := by
  go_enter Try.func11, Try.ntmps11
  go_wp2_with fail
  refine (none_take _ _).mono ?_
  rintro e w' ⟨rfl, rfl⟩
  go_wp2
  go_ret
  exact ⟨rfl, rfl⟩
set_option maxHeartbeats 400000 in
theorem none_upto (m : Int) (w : World) : Calls Try.prog 13 #[.pointer none, .int .i64 m] w fun e w' => e = .returned (.int .i64 0) ∧ Below w.heap.size w w' := by
  go_enter Try.func13, Try.ntmps13
  go_wp2_with fail
  refine (none_take _ _).mono ?_
  rintro e w' ⟨rfl, rfl⟩
  go_wp2
  go_ret
  exact ⟨rfl, (Below.refl _ _).alloc (Nat.le_refl _) _⟩
set_option maxHeartbeats 400000 in
theorem none_text (m : Int) (w : World) : Calls Try.prog 15 #[.pointer none, .int .i64 m] w fun e w' => e = .returned (.string ⟨#[]⟩) ∧ Below w.heap.size w w' := by
  go_enter Try.func15, Try.ntmps15
  go_wp2_with fail
  refine (none_take _ _).mono ?_
  rintro e w' ⟨rfl, rfl⟩
  go_wp2
  go_ret
  exact ⟨rfl, (Below.refl _ _).alloc (Nat.le_refl _) _⟩
def w0spot (W : World) (x : Addr) : Prop := ∃ v, W.cell? x = some v
theorem spot_none {W : World} {x : Addr} (h : w0spot W x) : x = ⟨x.block, x.off, none⟩ := by
  obtain ⟨v, hv⟩ := h
  obtain ⟨b, o, s⟩ := x
  cases s with
  | none => rfl
  | some s =>
    unfold World.cell? at hv
    simp at hv
    split at hv <;> simp_all
/-- the acts that came in -/
def Acts (W : World) (v : Value) (n : Nat) (K M : Nat → Int) : Prop :=
  ∃ a cap, v = .slice a n cap ∧ n ≤ cap ∧ cap ≤ maxLen ∧ (0 < n → ∃ b off, a = some ⟨b, off, none⟩ ∧ b < W.heap.size ∧
    ∀ i, i < n → W.cell? ⟨b, off + i * 2, none⟩ = some (.int .i64 (K i)) ∧ W.cell? ⟨b, off + i * 2 + 1, none⟩ = some (.int .i64 (M i)))
section
variable {H : Type} {enc : TypeId × Value → H}
theorem open_acts {W : World} {a : Option Addr} {n c : Nat} {d : DataW H} {p : List MemPlace} (h : DataW.Trod enc Try.prog W 0 (fun _ => true) true 30 (.slice a n c) d p) : ∃ K M, Acts W (.slice a n c) n K M := by
  obtain ⟨fuel, hf⟩ := h
  rcases open_slice_pairs Try.underlying30 Try.underlying37 (by kernel_rfl) rfl rfl (by kernel_rfl) (by kernel_rfl) hf with ⟨hcs, _⟩ | ⟨x, l, c', m, nn, V0, V1, D0, D1, P0, P1, hcs, _, hl, hm, hmm, _, hi⟩
  · simp [Value.cells] at hcs
    obtain ⟨rfl, rfl, rfl⟩ := hcs
    exact ⟨fun _ => 0, fun _ => 0, none, 0, rfl, by omega, by decide, fun h => by omega⟩
  · simp [Value.cells] at hcs
    obtain ⟨rfl, rfl, rfl⟩ := hcs
    have hmn : n ≤ m := by rw [hmm]; simpa using hl
    refine ⟨fun i => intOf (V0 i), fun i => intOf (V1 i), some x, c, rfl, hl, hm, fun h0 => ?_⟩
    obtain ⟨z0, z1, t0, t1⟩ := hi 0 (by omega)
    have hx : x = ⟨x.block, x.off, none⟩ := by
      have hz : w0spot W x := by simpa [w0spot, Addr.add] using ⟨_, z0⟩
      exact spot_none hz
    refine ⟨x.block, x.off, by rw [← hx], ?_, fun i hin => ?_⟩
    · have := block_lt_of_cell z0
      simpa [Addr.add] using this
    · obtain ⟨c0, c1, t0, t1⟩ := hi i (by omega)
      obtain ⟨k, e0, _, _⟩ := DataW.trod_int Try.underlying3 t0
      obtain ⟨q, e1, _, _⟩ := DataW.trod_int Try.underlying2 t1
      simp at e0 e1
      rw [hx, add_plain] at c0 c1
      rw [e0] at c0
      rw [e1] at c1
      refine ⟨?_, ?_⟩
      · show _ = some (Value.int .i64 (intOf (V0 i)))
        rw [e0]; exact c0
      · show _ = some (Value.int .i64 (intOf (V1 i)))
        rw [e1]; rw [← Nat.add_assoc] at c1; exact c1
end
def Reads (w wr : World) (br bq : Nat) : Prop := ∃ (s : ByteArray) (e : Int), Below w.heap.size w wr ∧ Rdr 53 wr br s e ∧ Rdr 35 wr bq s e ∧ s.size ≤ 300
theorem tk_size (p : Int → Bool) (s : ByteArray) (e : Int) : (tk p s e).2.2.1.size ≤ s.size := by
  unfold tk
  split
  · exact Nat.le_refl _
  · split
    · exact Nat.le_refl _
    · split
      · simp only [ByteArray.size_extract]; omega
      · exact Nat.le_refl _
theorem tx_size (m : Int) (s : ByteArray) (e : Int) : (tx m s e).2.1.size ≤ s.size := by
  unfold tx
  have := tk_size (upto m) s e
  split
  · exact this
  · split
    · exact Nat.le_refl _
    · simp only [ByteArray.size_extract]; omega
set_option maxHeartbeats 4000000 in
set_option maxRecDepth 100000 in
theorem walk (a0 : ByteArray) (a : Option Addr) (n cap : Nat) (K M : Nat → Int) (w : World) (w0 : a0.size ≤ maxLen) (hA : Acts w (.slice a n cap) n K M) :
    Calls Try.prog 4 #[.string a0, .slice a n cap] w fun e w' => e = .returned (.bool true) ∧ Below w.heap.size w w' := by
  unfold maxLen at w0
  obtain ⟨a', cap', hv, hc1, hc2, hcell⟩ := hA
  obtain ⟨rfl, _, rfl⟩ : a = a' ∧ n = n ∧ cap = cap' := by simpa using hv
  unfold maxLen at hc2
  have HCELL := Lib.hid hcell
  clear hcell hv
  by_cases hg : a0.size ≤ 300
  · by_cases hn : n ≤ 40
    · go_enter Try.func4, Try.ntmps4
      go_wp2_with fail
      refine (new_any a0 _).mono ?_
      rintro e w1 ⟨rfl, rfl⟩
      have hnew : Reads w ((w.alloc (.cells #[.string a0, .int .i64 0] 53)).alloc (.cells #[.string a0, .int .i64 0] 35)) w.heap.size (w.heap.size + 1) := by
        refine ⟨a0, 0, ((Below.refl _ _).alloc (Nat.le_refl _) _).alloc (by simp) _, ?_, ?_, hg⟩
        · exact heap_alloc2_old _ _ _
        · exact heap_alloc2_new _ _ _
      have hB1 : w.heap.size ≤ w.heap.size := Nat.le_refl _
      go_wp2_with fail
      generalize ((w.alloc (.cells #[.string a0, .int .i64 0] 53)).alloc (.cells #[.string a0, .int .i64 0] 35)) = W1 at *
      go_loopw [7] (fun i wr => ∃ k : Nat, k ≤ n ∧ i = .int .i64 k ∧ Reads w wr w.heap.size (w.heap.size + 1)) (fun i _ => n - (intOf i).toNat)
      case atStart => exact ⟨0, Nat.zero_le _, rfl, hnew⟩
      case round =>
        obtain ⟨k, hk, rfl, s, e0, hbel, hr, hq, hs⟩ := hrel
        by_cases hlt : k < n
        · obtain ⟨b, off, rfl, hbl, hcl⟩ := HCELL.out (by omega)
          obtain ⟨g0, g1⟩ := hcl k hlt
          rw [← hbel.cell (p := ⟨b, off + k * 2, none⟩) hbl] at g0
          rw [← hbel.cell (p := ⟨b, off + k * 2 + 1, none⟩) hbl] at g1
          by_cases hk0 : K k = 0
          · have hK : (K k == 0) = true := by simpa using hk0
            clear hk0
            go_wp2_with fail
            refine (num_any w.heap.size s e0 (by omega) _ hr).mono ?_
            rintro e x1 ⟨rfl, hr1, ho1⟩
            have hq1 := hq.far ho1 (by omega)
            have hb1 := ho1.low hbel (Nat.le_refl _)
            clear ho1
            go_wp2_with fail
            refine (refnum_any (w.heap.size + 1) s e0 (by omega) _ hq1).mono ?_
            rintro e x2 ⟨rfl, hq2, ho2⟩
            have hr2 := hr1.far ho2 (by omega)
            have hb2 := ho2.low hb1 (by omega)
            have hs2 : (tk (fun _ => true) s e0).2.2.1.size ≤ 300 := Nat.le_trans (tk_size _ _ _) hs
            clear hr hq hbel hr1 hq1 hb1 ho2
            obtain ⟨d0, d1, _, _⟩ := hq2.cells
            generalize (tk (fun _ => true) s e0).2.2.1 = s' at *
            generalize (tk (fun _ => true) s e0).2.2.2 = e' at *
            clear g0 g1
            have hB2 : w.heap.size + 1 ≠ w.heap.size := by omega
            go_wp2_with fail
            go_region_held3 (fun W => (Below w.heap.size w W ∧ Rdr 53 W w.heap.size s' e' ∧ Rdr 35 W (w.heap.size + 1) s' e') ∧ W.cell? ⟨w.heap.size + 1, 0, none⟩ = some (.string s') ∧ W.cell? ⟨w.heap.size + 1, 1, none⟩ = some (.int .i64 e')) (first | assumption | exact ⟨⟨hb2.drew, hr2, hq2⟩, d0, d1⟩)
              (first | (go_at_call 17; refine (err_any w.heap.size s' e' _ (‹(_ ∧ Rdr 53 _ w.heap.size s' e' ∧ _) ∧ _›).1.2.1).mono ?_; rintro e w' ⟨rfl, rfl⟩) | (go_at_call 18; refine (left_any w.heap.size s' e' _ (‹(_ ∧ Rdr 53 _ w.heap.size s' e' ∧ _) ∧ _›).1.2.1).mono ?_; rintro e w' ⟨rfl, rfl⟩) | (go_at_call 19; refine (end_any w.heap.size s' e' _ (‹(_ ∧ Rdr 53 _ w.heap.size s' e' ∧ _) ∧ _›).1.2.1).mono ?_; rintro e w' ⟨rfl, rfl⟩) | (go_at_call 20; refine (refend_any (w.heap.size + 1) s' e' _ (‹(_ ∧ Rdr 53 _ w.heap.size s' e' ∧ _) ∧ _›).1.2.2).mono ?_; rintro e w' ⟨rfl, rfl⟩))
            obtain ⟨⟨hb3, hr3, hq3⟩, _⟩ := ‹(_ ∧ Rdr 53 _ w.heap.size s' e' ∧ _) ∧ _›
            go_wp2_with fail
            go_roundw
            case rel => exact ⟨k + 1, by omega, by go_num, s', e', hb3, hr3, hq3, hs2⟩
            case measure => simp [intOf]; omega
          · have hK : (K k == 0) = false := by simpa using hk0
            have hi1 : (0 : Int) ≤ (k : Int) := by omega
            have hi2 : (k : Int) < (n : Int) := by omega
            by_cases hk1 : K k = 1
            · have hK1 : (K k == 1) = true := by simpa using hk1
              have hs2 : (tk (upto (M k)) s e0).2.2.1.size ≤ 300 := Nat.le_trans (tk_size _ _ _) hs
              clear hk0 hk1
              go_wp2_with fail
              go_region_held3 (fun W => W.cell? ⟨b, off + k * 2 + 1, none⟩ = some (.int .i64 (M k))) (first | assumption | exact g1)
                (first | (go_at_call 13; refine (upto_any w.heap.size s e0 (M k) (by omega) _ (by exact hr)).mono ?_; rintro e x1 ⟨rfl, hr1, ho1⟩; have hq1 := Rdr.far (w := wr.drew) hq ho1 (by omega); have hb1 := ho1.low (hbel.drew) (Nat.le_refl _); have g2 := (hb1.cell (p := ⟨b, off + k * 2 + 1, none⟩) hbl).trans (hcl k hlt).2) | (go_at_call 14; refine (refupto_any (w.heap.size + 1) s e0 (M k) (by omega) _ (by exact hq1)).mono ?_; rintro e x2 ⟨rfl, hq2, ho2⟩; have hr2 := hr1.far ho2 (by omega); have hb2 := ho2.low hb1 (by omega); have g3 := (hb2.cell (p := ⟨b, off + k * 2 + 1, none⟩) hbl).trans (hcl k hlt).2))
              clear hr hq hbel hr1 hq1 hb1 ho1 ho2 g2 g3
              clear hi1 hi2
              obtain ⟨d0, d1, _, _⟩ := hq2.cells
              generalize (tk (upto (M k)) s e0).2.2.1 = s' at *
              generalize (tk (upto (M k)) s e0).2.2.2 = e' at *
              clear g0 g1
              have hB2 : w.heap.size + 1 ≠ w.heap.size := by omega
              go_wp2_with fail
              go_region_held3 (fun W => (Below w.heap.size w W ∧ Rdr 53 W w.heap.size s' e' ∧ Rdr 35 W (w.heap.size + 1) s' e') ∧ W.cell? ⟨w.heap.size + 1, 0, none⟩ = some (.string s') ∧ W.cell? ⟨w.heap.size + 1, 1, none⟩ = some (.int .i64 e')) (first | assumption | exact ⟨⟨hb2.drew, hr2, hq2⟩, d0, d1⟩)
                (first | (go_at_call 17; refine (err_any w.heap.size s' e' _ (‹(_ ∧ Rdr 53 _ w.heap.size s' e' ∧ _) ∧ _›).1.2.1).mono ?_; rintro e w' ⟨rfl, rfl⟩) | (go_at_call 18; refine (left_any w.heap.size s' e' _ (‹(_ ∧ Rdr 53 _ w.heap.size s' e' ∧ _) ∧ _›).1.2.1).mono ?_; rintro e w' ⟨rfl, rfl⟩) | (go_at_call 19; refine (end_any w.heap.size s' e' _ (‹(_ ∧ Rdr 53 _ w.heap.size s' e' ∧ _) ∧ _›).1.2.1).mono ?_; rintro e w' ⟨rfl, rfl⟩) | (go_at_call 20; refine (refend_any (w.heap.size + 1) s' e' _ (‹(_ ∧ Rdr 53 _ w.heap.size s' e' ∧ _) ∧ _›).1.2.2).mono ?_; rintro e w' ⟨rfl, rfl⟩))
              obtain ⟨⟨hb3, hr3, hq3⟩, _⟩ := ‹(_ ∧ Rdr 53 _ w.heap.size s' e' ∧ _) ∧ _›
              go_wp2_with fail
              go_roundw
              case rel => exact ⟨k + 1, by omega, by go_num, s', e', hb3, hr3, hq3, hs2⟩
              case measure => simp [intOf]; omega
            · have hK1 : (K k == 1) = false := by simpa using hk1
              have hs2 : (tx (M k) s e0).2.1.size ≤ 300 := Nat.le_trans (tx_size _ _ _) hs
              clear hk0 hk1
              go_wp2_with fail
              go_region_held3 (fun W => W.cell? ⟨b, off + k * 2 + 1, none⟩ = some (.int .i64 (M k))) (first | assumption | exact g1)
                (first | (go_at_call 15; refine (textr_any w.heap.size s e0 (M k) (by omega) _ (by exact hr)).mono ?_; rintro e x1 ⟨rfl, hr1, ho1⟩; have hq1 := Rdr.far (w := wr.drew) hq ho1 (by omega); have hb1 := ho1.low (hbel.drew) (Nat.le_refl _); have g2 := (hb1.cell (p := ⟨b, off + k * 2 + 1, none⟩) hbl).trans (hcl k hlt).2) | (go_at_call 16; refine (reftextr_any (w.heap.size + 1) s e0 (M k) (by omega) _ (by exact hq1)).mono ?_; rintro e x2 ⟨rfl, hq2, ho2⟩; have hr2 := hr1.far ho2 (by omega); have hb2 := ho2.low hb1 (by omega); have g3 := (hb2.cell (p := ⟨b, off + k * 2 + 1, none⟩) hbl).trans (hcl k hlt).2))
              clear hr hq hbel hr1 hq1 hb1 ho1 ho2 g2 g3
              clear hi1 hi2
              obtain ⟨d0, d1, _, _⟩ := hq2.cells
              generalize (tx (M k) s e0).2.1 = s' at *
              generalize (tx (M k) s e0).2.2 = e' at *
              clear g0 g1
              have hB2 : w.heap.size + 1 ≠ w.heap.size := by omega
              go_wp2_with fail
              go_region_held3 (fun W => (Below w.heap.size w W ∧ Rdr 53 W w.heap.size s' e' ∧ Rdr 35 W (w.heap.size + 1) s' e') ∧ W.cell? ⟨w.heap.size + 1, 0, none⟩ = some (.string s') ∧ W.cell? ⟨w.heap.size + 1, 1, none⟩ = some (.int .i64 e')) (first | assumption | exact ⟨⟨hb2.drew, hr2, hq2⟩, d0, d1⟩)
                (first | (go_at_call 17; refine (err_any w.heap.size s' e' _ (‹(_ ∧ Rdr 53 _ w.heap.size s' e' ∧ _) ∧ _›).1.2.1).mono ?_; rintro e w' ⟨rfl, rfl⟩) | (go_at_call 18; refine (left_any w.heap.size s' e' _ (‹(_ ∧ Rdr 53 _ w.heap.size s' e' ∧ _) ∧ _›).1.2.1).mono ?_; rintro e w' ⟨rfl, rfl⟩) | (go_at_call 19; refine (end_any w.heap.size s' e' _ (‹(_ ∧ Rdr 53 _ w.heap.size s' e' ∧ _) ∧ _›).1.2.1).mono ?_; rintro e w' ⟨rfl, rfl⟩) | (go_at_call 20; refine (refend_any (w.heap.size + 1) s' e' _ (‹(_ ∧ Rdr 53 _ w.heap.size s' e' ∧ _) ∧ _›).1.2.2).mono ?_; rintro e w' ⟨rfl, rfl⟩))
              obtain ⟨⟨hb3, hr3, hq3⟩, _⟩ := ‹(_ ∧ Rdr 53 _ w.heap.size s' e' ∧ _) ∧ _›
              go_wp2_with fail
              go_roundw
              case rel => exact ⟨k + 1, by omega, by go_num, s', e', hb3, hr3, hq3, hs2⟩
              case measure => simp [intOf]; omega
        · clear hr hq
          go_wp2_with fail
          refine (low hbel (awake7_any _)).mono ?_
          rintro e x1 ⟨rfl, b1⟩
          go_wp2_with fail
          refine (none_num _).mono ?_
          rintro e x2 ⟨rfl, rfl⟩
          go_wp2_with fail
          refine (low b1 (none_upto _ _)).mono ?_
          rintro e x3 ⟨rfl, b3⟩
          go_wp2_with fail
          refine (low b3 (none_text _ _)).mono ?_
          rintro e x4 ⟨rfl, b4⟩
          go_wp2_with fail
          refine (none_left _).mono ?_
          rintro e x5 ⟨rfl, rfl⟩
          go_wp2_with fail
          refine (none_err _).mono ?_
          rintro e x5 ⟨rfl, rfl⟩
          go_wp2_with fail
          refine (none_end _).mono ?_
          rintro e x5 ⟨rfl, rfl⟩
          go_wp2_with fail
          go_ret
          exact ⟨rfl, b4⟩
    · go_enter Try.func4, Try.ntmps4
      go_wp2_with fail
      refine (awake7_any _).mono ?_
      rintro e x1 ⟨rfl, b1⟩
      go_wp2_with fail
      go_ret
      exact ⟨rfl, b1⟩
  · go_enter Try.func4, Try.ntmps4
    go_wp2_with fail
    refine (awake7_any _).mono ?_
    rintro e x1 ⟨rfl, b1⟩
    go_wp2_with fail
    go_ret
    exact ⟨rfl, b1⟩

theorem laidOut : laidOutB Try.prog = true := by kernel_rfl
set_option maxRecDepth 100000 in
theorem lifted (os : Os) (started : os.Started) (H : Type) (enc : TypeId × Value → H) :
    ReturnsInHanded {} Try.checked os 4 .any (Rows.numReadsSpec.pre6 enc Try.prog Try.f4 Rows.numReadsRow.domain false) (Rows.numReadsSpec.post enc Try.prog Try.f4 false true false false) := by
  refine returnsInHanded_of_change (C := Try.checked) own started (by kernel_rfl) Try.func4
    (ChangeSpec.witness6 (enc := enc) (C := Try.checked) false ⟨#[], #[.string ByteArray.empty, .slice none 0 0], []⟩ 8 (by kernel_rfl) (by kernel_rfl) (by kernel_rfl) (by kernel_rfl)) ?_
  intro W base args ds gs before hval0 hW hcnd _
  have hval : ∀ (j : Nat) t v, Try.f4.params[j]? = some t → args[j]? = some v → Value.okWide Try.prog W .any base t v := hval0
  have hW' := hW
  obtain ⟨p, q, hA0, hV, rfl, hfz, hnd⟩ := hW
  have hA : DataW.TrodAll enc Try.prog W 0 (fun _ => true) true Try.f4.params.toList args.toList ds p := hA0
  rw [Try.params4] at hA hval
  obtain ⟨v0, vs0, d0, ds0, p0, q0, hargs, rfl, rfl, h0, r0⟩ := trodAll_cons hA
  obtain ⟨v1, vs1, d1, ds1, p1, q1, rfl, rfl, rfl, h1, r1⟩ := trodAll_cons r0
  obtain ⟨rfl, rfl, rfl⟩ := trodAll_nil r1
  obtain rfl : args = #[v0, v1] := by cases args; simp_all
  obtain ⟨rfl, rfl⟩ := trodVars_none hV
  obtain ⟨a0, rfl, rfl, rfl, w0⟩ := open_string Try.underlying9 (hval 0 9 v0 rfl rfl) h0
  obtain ⟨a1, len1, cap1, rfl⟩ := okWide_slice Try.underlying30 (hval 1 30 v1 rfl rfl)
  have k1 := h1
  have lt1 : ∀ x ∈ p1, x.block < W.heap.size := by obtain ⟨m, hm⟩ := k1; exact DataW.trod_lt m _ _ _ hm
  obtain ⟨K1, M1, w1⟩ := open_acts h1
  clear hA0 hval0
  refine (walk a0 a1 len1 cap1 K1 M1 W w0 w1).mono fun e W' ⟨he, bel⟩ => ?_
  subst he
  exact ⟨_, rfl, _, _, _, [], _, [], hW', trodAll_mk1 (shut_bool Try.underlying4 _), (trodAll_cons_mk (shut_string Try.underlying9 w0) (trodAll_cons_mk (Below.trod laidOut (by kernel_rfl) (of_decide_eq_true (by kernel_rfl)) k1 bel lt1) trodAll_mk0)), rfl, bel.frame _, fun h => by cases h⟩

theorem over : Rows.numReadsRow.holds Try.pinned (OpenSpec.ofChange Rows.numReadsSpec) :=
  OpenClaim.holds_of_wide 4 Try.f4 rfl rfl rfl rfl rfl rfl rfl ⟨rfl, rfl, rfl, rfl, rfl⟩ rfl rfl rfl rfl rfl (by kernel_rfl) Try.func4 (by kernel_rfl)
    (of_decide_eq_true (by kernel_rfl)) (by unfold Func.isWrapper; first | (rw [if_pos (by decide +kernel)]; kernel_rfl) | (rw [if_neg (by decide +kernel)]; exact ⟨rfl, rfl⟩))
    (fun os started H enc _ => lifted os started H enc)

theorem proved : Rows.NumReadsSaid :=
  over
end Go.Proofs.Ytcdbnabbhlnigaa.numReads
#print axioms Go.Proofs.Ytcdbnabbhlnigaa.numReads.proved
