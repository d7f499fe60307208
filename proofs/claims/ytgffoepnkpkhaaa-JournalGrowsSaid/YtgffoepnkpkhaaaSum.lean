/- The walks of package sum and of its reference: each returns the sum that the plain file Crc defines; nothing that was there is written. -/
import Derived.Test.YtgffoepnkpkhaaaProg
import Derived.Test.YtgffoepnkpkhaaaCrc
import Derived.WalkKit
import Derived.WalkSpells
import Derived.Outline
import Derived.Lib.Hide
import Derived.Great.BuildSlice
import Derived.Deep.OwnRows
import Derived.Laws.CopyOwn
namespace Go.Proofs.Ytgffoepnkpkhaaa
open Go.RowKit

def tv (k j : Nat) : Value := if j < k then .int .u32 (Crc.four j) else .int .u32 0
def tab : Array Value := #[tv 16 0, tv 16 1, tv 16 2, tv 16 3, tv 16 4, tv 16 5, tv 16 6, tv 16 7, tv 16 8, tv 16 9, tv 16 10, tv 16 11, tv 16 12, tv 16 13, tv 16 14, tv 16 15]
theorem tv_lt (k j : Nat) (h : j < k) : tv k j = .int .u32 (Crc.four j) := by simp [tv, h]
theorem tv_ge (k j : Nat) (h : ¬ j < k) : tv k j = .int .u32 0 := by simp [tv, h]
theorem tv_set (k j : Nat) : (if j = k then Value.int .u32 (Crc.four k) else tv k j) = tv (k + 1) j := by
  unfold tv
  by_cases h : j = k
  · subst h; simp
  · rw [if_neg h]
    by_cases h2 : j < k
    · rw [if_pos h2, if_pos (by omega)]
    · rw [if_neg h2, if_neg (by omega)]
theorem row_tab {w : World} {b : Nat} {t : TypeId} (h : w.rowIs b t 16 (tv 16)) : w.heap[b]? = some (.cells tab t (0, 0)) := by
  obtain ⟨c, hb, hn, hc⟩ := h
  rw [hb]
  have : c = tab := by
    apply Array.ext (by rw [hn]; rfl)
    intro i h1 h2
    have := hc i (by omega)
    rw [Array.getElem?_eq_getElem h1] at this
    simp only [Option.some.injEq] at this
    rw [this]
    have h3 : i < 16 := by omega
    match i, h3 with
    | 0, _ => rfl
    | 1, _ => rfl
    | 2, _ => rfl
    | 3, _ => rfl
    | 4, _ => rfl
    | 5, _ => rfl
    | 6, _ => rfl
    | 7, _ => rfl
    | 8, _ => rfl
    | 9, _ => rfl
    | 10, _ => rfl
    | 11, _ => rfl
    | 12, _ => rfl
    | 13, _ => rfl
    | 14, _ => rfl
    | 15, _ => rfl
    | (n + 16), h => omega
  rw [this]
def HalfRel (w wr : World) (k : Nat) : Prop := wr.rowIs w.heap.size 74 16 (fun _ => .int .u32 0) ∧ wr.rowIs (w.heap.size + 1) 74 16 (tv k) ∧ Below w.heap.size w wr ∧ wr.heap.size = w.heap.size + 2

theorem bit_one (cc : Nat) (h : cc < 4294967296) (ht : (bits .and .u32 (cc : Int) 1 == 1) = true) : bits .xor .u32 ((cc : Int) / 2) 3988292384 = ((Crc.bit cc : Nat) : Int) := by
  rw [Crc.and_u32_1 _ h] at ht
  simp at ht
  have h1 : cc % 2 = 1 := by omega
  have := Crc.xor_u32 (cc / 2) 3988292384 (by omega) (by decide)
  unfold Crc.bit
  rw [if_pos h1, ← this]
  rfl
theorem bit_nil (cc : Nat) (h : cc < 4294967296) (ht : (bits .and .u32 (cc : Int) 1 == 1) = false) : ((cc : Int) / 2) = ((Crc.bit cc : Nat) : Int) := by
  rw [Crc.and_u32_1 _ h] at ht
  simp at ht
  have h1 : ¬ cc % 2 = 1 := by omega
  unfold Crc.bit
  rw [if_neg h1]
  omega

theorem half_start (w : World) (z : Array Value) (hz : z = Array.replicate 16 (.int .u32 0)) : HalfRel w ((w.alloc (.cells z 74)).alloc (.cells z 74)) 0 := by
  subst hz
  have e : (w.alloc (.cells (Array.replicate 16 (Value.int .u32 0)) 74)).heap.size = w.heap.size + 1 := by simp
  refine ⟨?_, ?_, ?_, by simp⟩
  · refine World.rowIs.alloc ?_ _
    have := World.rowIs_alloc w (Array.replicate 16 (Value.int .u32 0)) 74 (fun _ => .int .u32 0) (by intro i hi; rw [Array.getElem?_eq_getElem hi]; simp)
    simpa using this
  · have := World.rowIs_alloc (w.alloc (.cells (Array.replicate 16 (Value.int .u32 0)) 74)) (Array.replicate 16 (Value.int .u32 0)) 74 (tv 0) (by intro i hi; rw [Array.getElem?_eq_getElem hi]; simp [tv])
    rw [e] at this
    simpa using this
  · exact ((Below.refl _ _).alloc (Nat.le_refl _) _).alloc (by simp) _
theorem half_step {w wr : World} {k : Nat} (h : HalfRel w wr k) : HalfRel w (wr.setCell ⟨w.heap.size + 1, k, none⟩ (.int .u32 (Crc.four k))) (k + 1) := by
  obtain ⟨h1, h2, h3, h4⟩ := h
  refine ⟨h1.setOther (by simp) _, ?_, h3.setCell (by simp) _, by simpa [World.setCell] using h4⟩
  exact (h2.set k _).congr (fun j _ => tv_set k j)

set_option maxHeartbeats 400000 in
theorem half_any (w : World) : Calls Try.prog 63 #[] w fun e w' => e = .returned (.agg tab) ∧ Below w.heap.size w w' := by
  go_enter Try.func63, Try.ntmps63
  go_wp2
  go_loopw [4] (fun i wr => ∃ k : Nat, k ≤ 16 ∧ i = .int .i64 k ∧ HalfRel w wr k) (fun i _ => 16 - (intOf i).toNat)
  case atStart => exact ⟨0, by omega, rfl, half_start w _ rfl⟩
  case round =>
    obtain ⟨k, hk, rfl, HR⟩ := hrel
    by_cases hlt : k < 16
    · have hsz : wr.heap.size = w.heap.size + 2 := HR.2.2.2
      have hcell : wr.cell? ⟨w.heap.size + 1, k, none⟩ = some (tv k k) := HR.2.1.cell hlt
      have hfr : wr.frozen? ⟨w.heap.size + 1, k, none⟩ = false := HR.2.1.frozen k
      have Hsz := Lib.hid hsz
      clear hsz
      go_wp2
      go_loopw [3, 9] (fun c j w1 => w1 = wr ∧ ∃ n : Nat, n ≤ 4 ∧ j = .int .i64 n ∧ c = .int .u32 (Crc.iter n k)) (fun _ j _ => 4 - (intOf j).toNat)
      case atStart => exact ⟨rfl, 0, by omega, rfl, rfl⟩
      case round =>
        obtain ⟨rfl, n, hn, rfl, rfl⟩ := hrel
        have hcc := Crc.iter_lt n k (by omega)
        by_cases hnn : n < 4
        · go_wp2
          · have ht : (bits .and .u32 ((Crc.iter n k : Nat) : Int) 1 == 1) = true := by assumption
            refine ⟨⟨trivial, n + 1, by omega, by go_num, ?_⟩, by simp [intOf]; omega⟩
            rw [bit_one _ hcc ht]; rfl
          · have ht : (bits .and .u32 ((Crc.iter n k : Nat) : Int) 1 == 1) = false := by assumption
            refine ⟨⟨trivial, n + 1, by omega, by go_num, ?_⟩, by simp [intOf]; omega⟩
            rw [bit_nil _ hcc ht]; rfl
        · have e4 : n = 4 := by omega
          have hiter : Crc.iter n k = Crc.four k := by rw [e4]; rfl
          clear e4
          go_wp2
          go_roundw
          case rel => exact ⟨k + 1, by omega, by go_num, half_step HR⟩
          case measure => simp [intOf]; omega
    · have e16 : k = 16 := by omega
      have HR2 : HalfRel w wr 16 := by rw [← e16]; exact HR
      clear e16
      have h1 := HR2.1
      have h2 := row_tab HR2.2.1
      obtain ⟨z, hz, hzs, _⟩ := h1
      have HZ := Lib.hid hz
      have HT := Lib.hid h2
      clear hz h2
      go_wp2_with (first | refine wpList_load_row rfl 74 _ rfl (w.heap.size + 1) rfl 74 tab (0, 0) _ HT.out Try.underlying74 rfl (by kernel_rfl) ?_ | refine wpList_store_rowTo rfl 74 _ _ rfl rfl w.heap.size tab rfl rfl 74 z HZ.out (by kernel_rfl) (by rw [hzs]; rfl) (by kernel_rfl) ?_)
      exact bodyPost_ret (v := .agg tab) (results_cell_row Try.results63 _ _ w.heap.size 74 tab (0, 0) _ rfl (setRow_heap _ _ _ _ _ _ HZ.out) Try.underlying74 rfl (by kernel_rfl)) rfl ⟨rfl, below_setRow HR2.2.2.1 (Nat.le_refl _) _⟩
theorem row_cell {w : World} {b : Nat} {t : TypeId} (h : w.heap[b]? = some (.cells tab t (0, 0))) (j : Nat) (hj : j < 16) : w.cell? ⟨b, j, none⟩ = some (.int .u32 (Crc.four j)) := by
  simp only [World.cell?, h]
  match j, hj with
  | 0, _ => rfl
  | 1, _ => rfl
  | 2, _ => rfl
  | 3, _ => rfl
  | 4, _ => rfl
  | 5, _ => rfl
  | 6, _ => rfl
  | 7, _ => rfl
  | 8, _ => rfl
  | 9, _ => rfl
  | 10, _ => rfl
  | 11, _ => rfl
  | 12, _ => rfl
  | 13, _ => rfl
  | 14, _ => rfl
  | 15, _ => rfl
  | (n + 16), h => omega
theorem take_snoc (s : ByteArray) (k : Nat) (h : k < s.size) : s.data.toList.take (k + 1) = s.data.toList.take k ++ [s[k]] := by
  rw [List.take_succ_eq_append_getElem (by simpa using h)]; rfl
theorem Crc.shr_u32 (a : Nat) : ((a : Int) / 16) = ((a / 16 : Nat) : Int) := by omega
theorem round_facts (W : World) (b r : Nat) (y : UInt8) (hr : r < 4294967296) (hrow : W.heap[b]? = some (.cells tab 74 (0, 0))) :
    ∃ x1 x2 x3 i1 i2 t1 t2 : Nat, ((y.toNat : Int) % 4294967296 = (y.toNat : Int)) ∧ bits .xor .u32 (r : Int) (y.toNat : Int) = (x1 : Int) ∧ bits .and .u32 (x1 : Int) 15 = (i1 : Int) ∧
      W.cell? ⟨b, i1, none⟩ = some (.int .u32 (t1 : Int)) ∧ i1 < 16 ∧ bits .xor .u32 ((x1 : Int) / 16) (t1 : Int) = (x2 : Int) ∧
      bits .and .u32 (x2 : Int) 15 = (i2 : Int) ∧ W.cell? ⟨b, i2, none⟩ = some (.int .u32 (t2 : Int)) ∧ i2 < 16 ∧ bits .xor .u32 ((x2 : Int) / 16) (t2 : Int) = (x3 : Int) ∧ Crc.eight (r ^^^ y.toNat) = x3 := by
  have hy := y.toNat_lt
  have h1 := Crc.xor_lt r y.toNat hr (Crc.byte_lt _)
  have h2 := Crc.four_lt _ h1
  refine ⟨r ^^^ y.toNat, Crc.four (r ^^^ y.toNat), Crc.four (Crc.four (r ^^^ y.toNat)), _, _, Crc.four ((r ^^^ y.toNat) % 16), Crc.four (Crc.four (r ^^^ y.toNat) % 16), by omega, Crc.xor_u32 _ _ hr (Crc.byte_lt _), Crc.and_u32_15 _ h1, row_cell hrow _ (Nat.mod_lt _ (by decide)), Nat.mod_lt _ (by decide), ?_, Crc.and_u32_15 _ h2, row_cell hrow _ (Nat.mod_lt _ (by decide)), Nat.mod_lt _ (by decide), ?_, rfl⟩
  · rw [Crc.four_eq (r ^^^ y.toNat), Crc.shr_u32]
    exact Crc.xor_u32 _ _ (by omega) (Crc.four_lt _ (by omega))
  · rw [Crc.four_eq (Crc.four (r ^^^ y.toNat)), Crc.shr_u32]
    exact Crc.xor_u32 _ _ (by omega) (Crc.four_lt _ (by omega))
set_option maxHeartbeats 400000 in
theorem run_any (c : Nat) (hc : c < 4294967296) (s : ByteArray) (w : World) (hs : s.size ≤ maxLen) :
    Calls Try.prog 46 #[.int .u32 c, .string s] w fun e w' => e = .returned (.int .u32 (Crc.run c s.data.toList)) ∧ Below w.heap.size w w' := by
  unfold maxLen at hs
  go_enter Try.func46, Try.ntmps46
  go_wp2_with fail
  refine (half_any _).mono ?_
  rintro e w1 ⟨rfl, hb1⟩
  go_wp2_with (refine wpList_store_rowTo rfl 74 _ _ rfl rfl w1.heap.size tab rfl rfl 74 _ (heap_alloc_new _ _) (by kernel_rfl) rfl (by kernel_rfl) ?_)
  have hrow := setRow_heap _ _ _ tab _ _ (heap_alloc_new w1 (Obj.cells (Array.replicate 16 (.int .u32 0)) 74))
  have hbel : Below w.heap.size w ((w1.alloc (Obj.cells (Array.replicate 16 (.int .u32 0)) 74)).setRow w1.heap.size tab) := below_setRow (hb1.alloc hb1.size _) hb1.size _
  have hz : (#[Value.int IntKind.u32 0, Value.int IntKind.u32 0, Value.int IntKind.u32 0, Value.int IntKind.u32 0, Value.int IntKind.u32 0, Value.int IntKind.u32 0, Value.int IntKind.u32 0, Value.int IntKind.u32 0, Value.int IntKind.u32 0, Value.int IntKind.u32 0, Value.int IntKind.u32 0, Value.int IntKind.u32 0, Value.int IntKind.u32 0, Value.int IntKind.u32 0, Value.int IntKind.u32 0, Value.int IntKind.u32 0] : Array Value) = Array.replicate 16 (.int .u32 0) := rfl
  rw [hz]
  clear hz
  generalize (w1.alloc (Obj.cells (Array.replicate 16 (.int .u32 0)) 74)).setRow w1.heap.size tab = W at *
  have HROW := Lib.hid hrow
  clear hrow
  generalize w1.heap.size = b at *
  go_loop [0, 10] (fun cc i => ∃ k : Nat, k ≤ s.size ∧ i = .int .i64 k ∧ cc = .int .u32 (Crc.run c (s.data.toList.take k))) (fun _ i => s.size - (intOf i).toNat)
  case atStart => exact ⟨0, Nat.zero_le _, rfl, rfl⟩
  case round =>
    obtain ⟨k, hk, rfl, rfl⟩ := hrel
    have h0 := Crc.run_lt (s.data.toList.take k) c hc
    by_cases hlt : k < s.size
    · have hsn : Crc.run c (s.data.toList.take (k + 1)) = Crc.eight (Crc.run c (s.data.toList.take k) ^^^ s[k].toNat) := by
        rw [take_snoc s k hlt, Crc.run_snoc]
      have HSN := Lib.hid hsn
      clear hsn
      generalize hr : Crc.run c (s.data.toList.take k) = r at *
      have HR := Lib.hid hr
      clear hr
      obtain ⟨x1, x2, x3, i1, i2, t1, t2, hb, hx, ha, hc1, hi1, hf1, ha2, hc2, hi2, hf2, hfin⟩ := round_facts W b r s[k] h0 HROW.out
      have HF := Lib.hid hfin
      clear hfin
      go_wp2
      go_roundw
      case rel => exact ⟨k + 1, by omega, by go_num, by rw [HSN.out, HF.out]⟩
      case measure => simp [intOf]; omega
    · go_wp2
      go_ret
      have : s.data.toList.take k = s.data.toList := List.take_of_length_le (by simp; omega)
      rw [this]
      exact ⟨rfl, hbel⟩
set_option maxHeartbeats 400000 in
theorem on_any (n : Nat) (hn : n < 4294967296) (s : ByteArray) (w : World) (hs : s.size ≤ maxLen) :
    Calls Try.prog 17 #[.int .u32 n, .string s] w fun e w' => e = .returned (.int .u32 (Crc.on n s.data.toList)) ∧ Below w.heap.size w w' := by
  have h1 := Crc.not_u32 n hn
  have h2 := Crc.run_lt s.data.toList (4294967295 - n) (by omega)
  have h3 := Crc.not_u32 _ h2
  have H3 := Lib.hid h3
  clear h3
  have hsg : IntKind.u32.signed = false := rfl
  have hmx : IntKind.u32.max = 4294967295 := rfl
  go_enter Try.func17, Try.ntmps17
  go_wp2_with fail
  refine (run_any (4294967295 - n) (by omega) s _ hs).mono ?_
  rintro e w1 ⟨rfl, hb1⟩
  go_wp2
  go_ret
  exact ⟨by rw [H3.out]; rfl, hb1⟩
set_option maxHeartbeats 400000 in
theorem of_any (s : ByteArray) (w : World) (hs : s.size ≤ maxLen) :
    Calls Try.prog 15 #[.string s] w fun e w' => e = .returned (.int .u32 (Crc.on 0 s.data.toList)) ∧ Below w.heap.size w w' := by
  go_enter Try.func15, Try.ntmps15
  go_wp2_with fail
  refine (on_any 0 (by omega) s _ hs).mono ?_
  rintro e w1 ⟨rfl, hb1⟩
  go_wp2
  go_ret
  exact ⟨rfl, hb1⟩
theorem awake_fact : Crc.on 0 [49, 50, 51, 52, 53, 54, 55, 56, 57] = 3421780262 := by decide +kernel
set_option maxHeartbeats 400000 in
theorem awake6_any (w : World) : Calls Try.prog 14 #[] w fun e w' => e = .returned (.bool true) ∧ Below w.heap.size w w' := by
  go_enter Try.func14, Try.ntmps14
  go_wp2_with fail
  refine (of_any _ _ (by decide +kernel)).mono ?_
  rintro e w1 ⟨rfl, hb1⟩
  have : Crc.on 0 (ByteArray.mk #[49, 50, 51, 52, 53, 54, 55, 56, 57]).data.toList = 3421780262 := awake_fact
  rw [this]
  clear this
  go_wp2
  go_ret
  exact ⟨rfl, hb1⟩
theorem low_one (cc : Nat) (h : ((cc : Int) % 2 == 1) = true) (hc : cc < 4294967296) : bits .xor .u32 ((cc : Int) / 2) 3988292384 = ((Crc.bit cc : Nat) : Int) := by
  apply bit_one _ hc
  rw [Crc.and_u32_1 _ hc]
  simp at h ⊢; omega
theorem low_nil (cc : Nat) (h : ((cc : Int) % 2 == 1) = false) (hc : cc < 4294967296) : (cc : Int) / 2 = ((Crc.bit cc : Nat) : Int) := by
  apply bit_nil _ hc
  rw [Crc.and_u32_1 _ hc]
  simp at h ⊢; omega
set_option maxHeartbeats 400000 in
theorem refon_any (n : Nat) (hn : n < 4294967296) (s : ByteArray) (w : World) (hs : s.size ≤ maxLen) :
    Calls Try.prog 16 #[.int .u32 n, .string s] w fun e w' => e = .returned (.int .u32 (Crc.on n s.data.toList)) ∧ w = w' := by
  unfold maxLen at hs
  have h1 : (4294967295 : Int) - n = ((4294967295 - n : Nat) : Int) := by omega
  generalize hm : 4294967295 - n = m at *
  have HM := Lib.hid hm
  have hml : m < 4294967296 := by omega
  clear hm
  go_enter Try.func16, Try.ntmps16
  go_wp2
  go_loop [5, 6] (fun cc i => ∃ k : Nat, k ≤ s.size ∧ i = .int .i64 k ∧ cc = .int .u32 (Crc.run m (s.data.toList.take k))) (fun _ i => s.size - (intOf i).toNat)
  case atStart => exact ⟨0, Nat.zero_le _, rfl, rfl⟩
  case round =>
    obtain ⟨k, hk, rfl, rfl⟩ := hrel
    have h0 := Crc.run_lt (s.data.toList.take k) m hml
    by_cases hlt : k < s.size
    · have hsn : Crc.run m (s.data.toList.take (k + 1)) = Crc.eight (Crc.run m (s.data.toList.take k) ^^^ s[k].toNat) := by
        rw [take_snoc s k hlt, Crc.run_snoc]
      have HSN := Lib.hid hsn
      clear hsn
      generalize hr : Crc.run m (s.data.toList.take k) = r at *
      have HR := Lib.hid hr
      clear hr
      have hy := (s[k]).toNat_lt
      have hb : (((s[k]).toNat : Int) % 4294967296 = ((s[k]).toNat : Int)) := by omega
      have hx := Crc.xor_u32 r s[k].toNat h0 (Crc.byte_lt _)
      have hxl := Crc.xor_lt r s[k].toNat h0 (Crc.byte_lt _)
      generalize hx1 : r ^^^ s[k].toNat = x at *
      have HX1 := Lib.hid hx1
      clear hx1
      clear hy
      go_wp2
      go_loop [5, 7] (fun c j => ∃ n : Nat, n ≤ 8 ∧ j = .int .i64 n ∧ c = .int .u32 (Crc.iter n x)) (fun _ j => 8 - (intOf j).toNat)
      case atStart => exact ⟨0, by omega, rfl, rfl⟩
      case round =>
        obtain ⟨q, hq, rfl, rfl⟩ := hrel
        have hcc := Crc.iter_lt q x hxl
        by_cases hnn : q < 8
        · go_wp2
          · have ht : (((Crc.iter q x : Nat) : Int) % 2 == 1) = true := by assumption
            refine ⟨⟨q + 1, by omega, by go_num, ?_⟩, by simp [intOf]; omega⟩
            rw [low_one _ ht hcc]; rfl
          · have ht : (((Crc.iter q x : Nat) : Int) % 2 == 1) = false := by assumption
            refine ⟨⟨q + 1, by omega, by go_num, ?_⟩, by simp [intOf]; omega⟩
            rw [low_nil _ ht hcc]; rfl
        · have e8 : q = 8 := by omega
          have hit : Crc.iter q x = Crc.eight x := by rw [e8]; rfl
          have HIT := Lib.hid hit
          clear e8 hit
          go_wp2
          go_round
          case rel => exact ⟨k + 1, by omega, by go_num, by rw [HSN.out, HIT.out]⟩
          case measure => simp [intOf]; omega
    · have hsn : s.data.toList.take k = s.data.toList := List.take_of_length_le (by simp; omega)
      have h4 : (4294967295 : Int) - (Crc.run m (s.data.toList.take k) : Nat) = ((Crc.on n s.data.toList : Nat) : Int) := by
        unfold Crc.on
        rw [HM.out]
        rw [hsn] at h0 ⊢
        omega
      have H4 := Lib.hid h4
      clear h4 hsn
      go_wp2
      go_ret
      rw [H4.out]
      exact ⟨rfl, rfl⟩
theorem bcell {W w1 : World} (hb : Below W.heap.size W w1) : (∀ b o, b < W.heap.size → w1.cell? ⟨b, o, none⟩ = W.cell? ⟨b, o, none⟩) ∧ (∀ b o, b < W.heap.size → w1.frozen? ⟨b, o, none⟩ = W.frozen? ⟨b, o, none⟩) :=
  ⟨fun b o h => hb.cell (p := ⟨b, o, none⟩) h, fun b o h => hb.frozen (p := ⟨b, o, none⟩) h⟩
def FoldRel (s t : ByteArray) (w wr : World) (c i : Value) : Prop :=
  Below w.heap.size w wr ∧ ((i = .int .i64 0 ∧ c = .int .u32 0) ∨ (i = .int .i64 1 ∧ c = .int .u32 (Crc.on 0 s.data.toList)) ∨ (i = .int .i64 2 ∧ c = .int .u32 (Crc.on (Crc.on 0 s.data.toList) t.data.toList)))
set_option maxHeartbeats 400000 in
theorem fold_two (s t : ByteArray) (b : Nat) (w : World) (hs : s.size ≤ maxLen) (ht : t.size ≤ maxLen) (hb : b < w.heap.size)
    (h0 : w.cell? ⟨b, 0, none⟩ = some (.string s)) (h1 : w.cell? ⟨b, 1, none⟩ = some (.string t)) :
    Calls Try.prog 18 #[.slice (some ⟨b, 0, none⟩) 2 2] w fun e w' => e = .returned (.int .u32 (Crc.on (Crc.on 0 s.data.toList) t.data.toList)) ∧ Below w.heap.size w w' := by
  go_enter Try.func18, Try.ntmps18
  go_wp2
  go_loopw [3, 8] (fun c i wr => FoldRel s t w wr c i) (fun _ i _ => 2 - (intOf i).toNat)
  case atStart => exact ⟨Below.refl _ _, Or.inl ⟨rfl, rfl⟩⟩
  case round =>
    obtain ⟨hbel, hcase⟩ := hrel
    have g0 : wr.cell? ⟨b, 0, none⟩ = some (.string s) := (hbel.cell (p := ⟨b, 0, none⟩) hb).trans h0
    have g1 : wr.cell? ⟨b, 1, none⟩ = some (.string t) := (hbel.cell (p := ⟨b, 1, none⟩) hb).trans h1
    clear h0 h1
    rcases hcase with ⟨rfl, rfl⟩ | ⟨rfl, rfl⟩ | ⟨rfl, rfl⟩
    · go_wp2_with fail
      refine (on_any 0 (by omega) s _ hs).mono ?_
      rintro e w1 ⟨rfl, hb1⟩
      go_wp2
      go_roundw
      case rel => exact ⟨hbel.trans (hb1.mono hbel.size), Or.inr (Or.inl ⟨rfl, rfl⟩)⟩
      case measure => simp [intOf]
    · go_wp2_with fail
      refine (on_any _ (Crc.on_lt _ _) t _ ht).mono ?_
      rintro e w1 ⟨rfl, hb1⟩
      go_wp2
      go_roundw
      case rel => exact ⟨hbel.trans (hb1.mono hbel.size), Or.inr (Or.inr ⟨rfl, rfl⟩)⟩
      case measure => simp [intOf]
    · go_wp2_with fail
      go_ret
      exact ⟨rfl, hbel⟩
end Go.Proofs.Ytgffoepnkpkhaaa
