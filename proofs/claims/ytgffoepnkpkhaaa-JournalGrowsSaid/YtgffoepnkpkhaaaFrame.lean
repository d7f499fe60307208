/- The walks of package frame: put, get, most, above, Size. -/
import Derived.Test.YtgffoepnkpkhaaaSum
import Derived.Test.YtgffoepnkpkhaaaFr
import Derived.Deep.OwnRows
import Derived.Deep.QuietTactic
import Derived.BigQuiet
import Derived.RegionTactic
namespace Go.Proofs.Ytgffoepnkpkhaaa
open Go.RowKit

/-- only block b, of all that was there, may be another -/
structure Only (b : Nat) (w w' : World) : Prop where
  os : w'.os = w.os
  tape : w'.tape = w.tape
  output : w'.output = w.output
  size : w.heap.size ≤ w'.heap.size
  far : ∀ k, k < w.heap.size → k ≠ b → w'.heap[k]? = w.heap[k]?
theorem Only.refl (b : Nat) (w : World) : Only b w w := ⟨rfl, rfl, rfl, Nat.le_refl _, fun _ _ _ => rfl⟩
theorem Only.trans {b : Nat} {u v w : World} (h : Only b u v) (k : Only b v w) : Only b u w :=
  ⟨k.os.trans h.os, k.tape.trans h.tape, k.output.trans h.output, Nat.le_trans h.size k.size, fun i hi hb => (k.far i (Nat.lt_of_lt_of_le hi h.size) hb).trans (h.far i hi hb)⟩
theorem Only.below {b : Nat} {u v : World} (h : Below u.heap.size u v) : Only b u v := ⟨h.os, h.tape, h.output, h.size, fun k hk _ => h.block k hk⟩
theorem Only.set {b : Nat} {u v : World} (h : Only b u v) (i : Nat) (x : Value) : Only b u (v.setCell ⟨b, i, none⟩ x) :=
  ⟨h.os, h.tape, h.output, by simpa [World.setCell] using h.size, fun k hk hb => (Below.heap_setCell v ⟨b, i, none⟩ x k hb).trans (h.far k hk hb)⟩
theorem Only.low {b : Nat} {w0 u v : World} (h : Only b u v) (hb : Below w0.heap.size w0 u) (hB : w0.heap.size ≤ b) : Below w0.heap.size w0 v :=
  ⟨h.os.trans hb.os, h.tape.trans hb.tape, h.output.trans hb.output, Nat.le_trans hb.size h.size, fun k hk => (h.far k (Nat.lt_of_lt_of_le hk hb.size) (by omega)).trans (hb.block k hk)⟩
/-- what 'put' makes of a row -/
def put4 (n off k : Nat) (f : Nat → Value) (j : Nat) : Value := if off ≤ j ∧ j < off + k then .int .u8 (Fr.bt n (j - off)) else f j
theorem put4_zero (n off : Nat) (f : Nat → Value) : put4 n off 0 f = f := by
  funext j
  unfold put4
  rw [if_neg (by omega)]
theorem put4_step (n off k : Nat) (f : Nat → Value) (j : Nat) : (if j = off + k then Value.int .u8 (Fr.bt n k) else put4 n off k f j) = put4 n off (k + 1) f j := by
  unfold put4
  by_cases h : j = off + k
  · subst h
    rw [if_pos rfl, if_pos (by omega), show off + k - off = k by omega]
  · rw [if_neg h]
    by_cases h2 : off ≤ j ∧ j < off + k
    · rw [if_pos h2, if_pos (by omega)]
    · rw [if_neg h2, if_neg (by omega)]
theorem bt_walk (n k : Nat) : (n : Int) / 2 ^ (8 * (3 - k)) % 256 = ((Fr.bt n k : Nat) : Int) := by
  unfold Fr.bt
  rw [Int.natCast_emod, Int.natCast_ediv, Int.natCast_pow]
  rfl
set_option maxHeartbeats 1000000 in
set_option maxRecDepth 100000 in
theorem put4_any (T : TypeId) (g off len cap m n : Nat) (f : Nat → Value) (w : World) (hr : w.rowIs g T m f) (hl : 4 ≤ len) (hc : off + len ≤ m) :
    Calls Try.prog 55 #[.slice (some ⟨g, off, none⟩) len cap, .int .u32 n] w fun e w' => e = .returned (.tuple #[]) ∧ w'.rowIs g T m (put4 n off 4 f) ∧ Only g w w' ∧ w'.heap.size = w.heap.size := by
  go_enter Try.func55, Try.ntmps55
  go_wp2
  go_loopw [5] (fun i wr => ∃ k : Nat, k ≤ 4 ∧ i = .int .i64 k ∧ wr.rowIs g T m (put4 n off k f) ∧ Only g w wr ∧ wr.heap.size = w.heap.size) (fun i _ => 4 - (intOf i).toNat)
  case atStart => exact ⟨0, by omega, rfl, by rw [put4_zero]; exact hr, Only.refl _ _, rfl⟩
  case round =>
    obtain ⟨k, hk, rfl, HR, HO, HS⟩ := hrel
    have HS := Lib.hid HS
    by_cases hlt : k < 4
    · have hcell : wr.cell? ⟨g, off + k, none⟩ = some (put4 n off k f (off + k)) := HR.cell (by omega)
      have hfr : wr.frozen? ⟨g, off + k, none⟩ = false := HR.frozen _
      have HB := Lib.hid (bt_walk n k)
      clear hr
      go_wp2
      refine ⟨⟨k + 1, by omega, by go_num, ?_, HO.set _ _, by simpa [World.setCell] using HS.out⟩, by simp [intOf]; omega⟩
      rw [HB.out]
      exact (HR.set (off + k) _).congr (fun j _ => put4_step n off k f j)
    · have e4 : k = 4 := by omega
      have HR2 : wr.rowIs g T m (put4 n off 4 f) := by rw [← e4]; exact HR
      clear e4 hr
      go_wp2
      go_end0
      exact ⟨rfl, HR2, HO, HS.out⟩
/-- the number of the first k bytes -/
def gk (s : ByteArray) (k : Nat) : Nat := match k with
  | 0 => 0
  | k + 1 => gk s k * 256 + (s.data.toList.getD k 0).toNat
theorem gk_lt (s : ByteArray) (k : Nat) : gk s k < 256 ^ k := by
  induction k with
  | zero => simp [gk]
  | succ k ih => have := (s.data.toList.getD k 0).toNat_lt; rw [gk, Nat.pow_succ]; omega
theorem gk_4 (s : ByteArray) : gk s 4 = Fr.num s.data.toList := by simp only [gk, Fr.num]; omega
theorem byte_at (s : ByteArray) (k : Nat) (h : k < s.size) : s.data.toList.getD k 0 = s[k] := by
  simp [List.getD, h]
  rfl
theorem or_byte (a c : Nat) (ha : a < 16777216) (hc : c < 256) : bits .or .u32 ((a : Int) * 256 % 4294967296) (c : Int) = ((a * 256 + c : Nat) : Int) := by
  have e : (a : Int) * 256 % 4294967296 = ((a * 256 : Nat) : Int) := by omega
  rw [e]
  have := (bits_nat .u32 32 (by decide) Crc.wraps_u32 (a * 256) c (by omega) (by omega)).2
  rw [this]
  have h := Nat.two_pow_add_eq_or_of_lt (i := 8) (b := c) (by omega) a
  rw [Nat.mul_comm a 256, show (256 : Nat) = 2 ^ 8 from rfl, ← h]
set_option maxHeartbeats 1000000 in
set_option maxRecDepth 100000 in
theorem get4_any (s : ByteArray) (hs : 4 ≤ s.size) (w : World) :
    Calls Try.prog 57 #[.string s] w fun e w' => e = .returned (.int .u32 (Fr.num s.data.toList)) ∧ w = w' := by
  go_enter Try.func57, Try.ntmps57
  go_wp2
  go_loop [3, 5] (fun z i => ∃ k : Nat, k ≤ 4 ∧ i = .int .i64 k ∧ z = .int .u32 (gk s k)) (fun _ i => 4 - (intOf i).toNat)
  case atStart => exact ⟨0, by omega, rfl, rfl⟩
  case round =>
    obtain ⟨k, hk, rfl, rfl⟩ := hrel
    by_cases hlt : k < 4
    · have hks : k < s.size := by omega
      have hb := s[k].toNat_lt
      have hgl := gk_lt s k
      have hgl2 : gk s k < 16777216 := by
        have : 256 ^ k ≤ 256 ^ 3 := Nat.pow_le_pow_right (by decide) (by omega)
        omega
      have ho := or_byte (gk s k) s[k].toNat hgl2 hb
      have hst : gk s (k + 1) = gk s k * 256 + s[k].toNat := by rw [gk, byte_at s k hks]
      rw [← hst] at ho
      have hmod : ((s[k].toNat : Int) % 4294967296) = (s[k].toNat : Int) := by omega
      clear hgl hgl2 hst hb
      have HO := Lib.hid ho
      clear ho
      go_wp2
      exact ⟨⟨k + 1, by omega, by go_num, by rw [HO.out]⟩, by simp [intOf]; omega⟩
    · have HG : Hid (gk s k = Fr.num s.data.toList) := by rw [show k = 4 by omega]; exact gk_4 s
      go_wp2
      go_ret
      rw [HG.out]
      exact ⟨rfl, rfl⟩
def mostc : Array Value := #[.int .u8 0, .int .u8 0, .int .u8 4, .int .u8 0]
theorem row_most {w : World} {g : Nat} {T : TypeId} {f : Nat → Value} (h : w.rowIs g T 4 (put4 1024 0 4 f)) : w.heap[g]? = some (.cells mostc T (0, 0)) := by
  obtain ⟨c, hb, hn, hc⟩ := h
  rw [hb]
  have : c = mostc := by
    apply Array.ext (by rw [hn]; rfl)
    intro i h1 h2
    have := hc i (by omega)
    rw [Array.getElem?_eq_getElem h1] at this
    simp only [Option.some.injEq] at this
    rw [this]
    have h3 : i < 4 := by omega
    match i, h3 with
    | 0, _ => rfl
    | 1, _ => rfl
    | 2, _ => rfl
    | 3, _ => rfl
    | (n + 4), h => omega
  rw [this]
set_option maxHeartbeats 1000000 in
set_option maxRecDepth 100000 in
theorem most_any (w : World) : Calls Try.prog 64 #[] w fun e w' => e = .returned (.agg mostc) ∧ Below w.heap.size w w' := by
  have hrow : ((w.alloc (.cells #[.int .u8 0, .int .u8 0, .int .u8 0, .int .u8 0] 77)).alloc (.cells #[.int .u8 0, .int .u8 0, .int .u8 0, .int .u8 0] 77)).rowIs (w.heap.size + 1) 77 4 (fun _ => .int .u8 0) := by
    refine ⟨_, heap_alloc2_new _ _ _, rfl, fun i hi => ?_⟩
    match i, hi with
    | 0, _ => rfl
    | 1, _ => rfl
    | 2, _ => rfl
    | 3, _ => rfl
  have hres : ((w.alloc (.cells #[.int .u8 0, .int .u8 0, .int .u8 0, .int .u8 0] 77)).alloc (.cells #[.int .u8 0, .int .u8 0, .int .u8 0, .int .u8 0] 77)).heap[w.heap.size]? = some (.cells #[.int .u8 0, .int .u8 0, .int .u8 0, .int .u8 0] 77 (0, 0)) := heap_alloc2_old _ _ _
  have hb0 : Below w.heap.size w ((w.alloc (.cells #[.int .u8 0, .int .u8 0, .int .u8 0, .int .u8 0] 77)).alloc (.cells #[.int .u8 0, .int .u8 0, .int .u8 0, .int .u8 0] 77)) := ((Below.refl _ _).alloc (Nat.le_refl _) _).alloc (by simp) _
  have HRES := Lib.hid hres
  clear hres
  go_enter Try.func64, Try.ntmps64
  go_wp2_with fail
  refine (put4_any 77 (w.heap.size + 1) 0 4 4 4 1024 (fun _ => .int .u8 0) _ hrow (by omega) (by omega)).mono ?_
  rintro e w1 ⟨rfl, hr1, ho1, hs1⟩
  have hm := row_most hr1
  have hz := (ho1.far w.heap.size (by simp; omega) (by omega)).trans HRES.out
  have hb1 := ho1.low hb0 (by omega)
  have HM := Lib.hid hm
  have HZ := Lib.hid hz
  clear hm hz hs1 hrow hb0 HRES
  go_wp2_with (first | refine wpList_load_row rfl 77 _ rfl (w.heap.size + 1) rfl 77 mostc (0, 0) _ HM.out Try.underlying77 rfl (by kernel_rfl) ?_ | refine wpList_store_rowTo rfl 77 _ _ rfl rfl w.heap.size mostc rfl rfl 77 _ HZ.out (by kernel_rfl) rfl (by kernel_rfl) ?_)
  exact bodyPost_ret (v := .agg mostc) (results_cell_row Try.results64 _ _ w.heap.size 77 mostc (0, 0) _ rfl (setRow_heap _ _ _ _ _ _ HZ.out) Try.underlying77 rfl (by kernel_rfl)) rfl ⟨rfl, below_setRow hb1 (Nat.le_refl _) _⟩
def mo (j : Nat) : Nat := if j = 2 then 4 else 0
def SameTo (k : Nat) (l : List UInt8) : Prop := ∀ j, j < k → (l.getD j 0).toNat = mo j
theorem above_diff {k : Nat} {l : List UInt8} (h : SameTo k l) (hk : k < 4) (hd : (l.getD k 0).toNat ≠ mo k) : decide (1024 < Fr.num l) = decide (mo k < (l.getD k 0).toNat) := by
  have b0 := (l.getD 0 0).toNat_lt
  have b1 := (l.getD 1 0).toNat_lt
  have b2 := (l.getD 2 0).toNat_lt
  have b3 := (l.getD 3 0).toNat_lt
  have m0 : mo 0 = 0 := rfl
  have m1 : mo 1 = 0 := rfl
  have m2 : mo 2 = 4 := rfl
  have m3 : mo 3 = 0 := rfl
  rw [decide_eq_decide]
  unfold Fr.num
  match k, hk with
  | 0, _ => omega
  | 1, _ =>
    have h0 := h 0 (by omega)
    omega
  | 2, _ =>
    have h0 := h 0 (by omega)
    have h1 := h 1 (by omega)
    omega
  | 3, _ =>
    have h0 := h 0 (by omega)
    have h1 := h 1 (by omega)
    have h2 := h 2 (by omega)
    omega
theorem above_same {k : Nat} {l : List UInt8} (h : SameTo k l) (hk : k = min l.length 4) : decide (1024 < Fr.num l) = false := by
  have g : ∀ j, j < 4 → (l.getD j 0).toNat ≤ mo j := fun j hj => by
    by_cases hjk : j < k
    · exact Nat.le_of_eq (h j hjk)
    · have : l.getD j 0 = 0 := by simp [List.getD, List.getElem?_eq_none (show l.length ≤ j by omega)]
      rw [this]; exact Nat.zero_le _
  have g0 := g 0 (by omega)
  have g1 := g 1 (by omega)
  have g2 := g 2 (by omega)
  have g3 := g 3 (by omega)
  have m0 : mo 0 = 0 := rfl
  have m1 : mo 1 = 0 := rfl
  have m2 : mo 2 = 4 := rfl
  have m3 : mo 3 = 0 := rfl
  rw [decide_eq_false_iff_not]
  unfold Fr.num
  omega
theorem most_cell {W : World} {B : Nat} {T : TypeId} (h : W.heap[B]? = some (.cells mostc T (0, 0))) (k : Nat) (hk : k < 4) : W.cell? ⟨B, k, none⟩ = some (.int .u8 (mo k)) := by
  simp only [World.cell?, h]
  match k, hk with
  | 0, _ => rfl
  | 1, _ => rfl
  | 2, _ => rfl
  | 3, _ => rfl
set_option maxHeartbeats 1000000 in
set_option maxRecDepth 100000 in
theorem above_any (s : ByteArray) (hs : s.size ≤ maxLen) (w : World) : Calls Try.prog 56 #[.string s] w fun e w' => e = .returned (.bool (decide (1024 < Fr.num s.data.toList))) ∧ Below w.heap.size w w' := by
  unfold maxLen at hs
  have hlen : s.data.toList.length = s.size := by simp
  have HLEN := Lib.hid hlen
  clear hlen
  obtain ⟨ab, hab⟩ : ∃ b, decide (1024 < Fr.num s.data.toList) = b := ⟨_, rfl⟩
  rw [hab]
  have HAB := Lib.hid hab
  clear hab
  by_cases hq : 4 < s.size
  · go_enter Try.func56, Try.ntmps56
    go_wp2_with fail
    refine (most_any _).mono ?_
    rintro e w1 ⟨rfl, hb1⟩
    go_wp2_with (refine wpList_store_rowTo rfl 77 _ _ rfl rfl w1.heap.size mostc rfl rfl 77 _ (heap_alloc_new _ _) (by kernel_rfl) rfl (by kernel_rfl) ?_)
    have hrow := setRow_heap _ _ _ mostc _ _ (heap_alloc_new w1 (Obj.cells #[.int .u8 0, .int .u8 0, .int .u8 0, .int .u8 0] 77))
    have hbel : Below w.heap.size w ((w1.alloc (Obj.cells #[.int .u8 0, .int .u8 0, .int .u8 0, .int .u8 0] 77)).setRow w1.heap.size mostc) := below_setRow (hb1.alloc hb1.size _) hb1.size _
    generalize (w1.alloc (Obj.cells #[.int .u8 0, .int .u8 0, .int .u8 0, .int .u8 0] 77)).setRow w1.heap.size mostc = W at *
    have HROW := Lib.hid hrow
    clear hrow hb1
    generalize w1.heap.size = b at *
    go_loopw [9] (fun i wr => ∃ k n : Nat, k ≤ 4 ∧ i = .int .i64 k ∧ SameTo k s.data.toList ∧ wr = W.drewN n) (fun i _ => 4 - (intOf i).toNat)
    case atStart => exact ⟨0, 0, by omega, rfl, fun j hj => by omega, rfl⟩
    case round =>
      obtain ⟨k, nn, hk, rfl, HS, rfl⟩ := hrel
      by_cases hlt : k < 4
      · have hks : k < s.size := by omega
        have hk4 : k < 4 := by omega
        have hi0 : (0 : Int) ≤ (k : Int) := by omega
        have hi1 : (k : Int) < (s.size : Int) := by omega
        have hi2 : (k : Int) < 4 := by omega
        have hcell := most_cell HROW.out k hk4
        have hb := byte_at s k hks
        by_cases hd : s[k].toNat = mo k
        · have hne : ((s[k].toNat : Int) != (mo k : Int)) = false := by rw [hd]; simp
          have HN : Hid (SameTo (k + 1) s.data.toList) := fun j hj => by
            by_cases e : j = k
            · subst e; rw [hb]; exact hd
            · exact HS j (by omega)
          clear hb hd
          go_wp2
          go_quiet (fail)
          go_wp2
          go_roundw
          case rel => exact ⟨k + 1, _, by omega, by go_num, HN.out, rfl⟩
          case measure => simp [intOf]; omega
        · have hne : ((s[k].toNat : Int) != (mo k : Int)) = true := by simp only [bne_iff_ne, ne_eq]; intro e; exact hd (by omega)
          have HF : Hid (decide (mo k < s[k].toNat) = ab) := by
            rw [← HAB.out, above_diff HS hk4 (by rw [hb]; exact hd), hb]; rfl
          clear hb hd
          go_wp2
          go_quiet (fail)
          go_wp2
          go_quiet (fail)
          go_wp2
          go_ret
          refine ⟨?_, hbel.os, hbel.tape, hbel.output, hbel.size, hbel.block⟩
          rw [← HF.out]
          rfl
      · have HF : Hid (ab = false) := by rw [← HAB.out]; exact above_same HS (by rw [HLEN.out]; omega)
        go_wp2
        go_ret
        refine ⟨?_, hbel.os, hbel.tape, hbel.output, hbel.size, hbel.block⟩
        rw [HF.out]
        rfl
  · go_enter Try.func56, Try.ntmps56
    go_wp2_with fail
    refine (most_any _).mono ?_
    rintro e w1 ⟨rfl, hb1⟩
    go_wp2_with (refine wpList_store_rowTo rfl 77 _ _ rfl rfl w1.heap.size mostc rfl rfl 77 _ (heap_alloc_new _ _) (by kernel_rfl) rfl (by kernel_rfl) ?_)
    have hrow := setRow_heap _ _ _ mostc _ _ (heap_alloc_new w1 (Obj.cells #[.int .u8 0, .int .u8 0, .int .u8 0, .int .u8 0] 77))
    have hbel : Below w.heap.size w ((w1.alloc (Obj.cells #[.int .u8 0, .int .u8 0, .int .u8 0, .int .u8 0] 77)).setRow w1.heap.size mostc) := below_setRow (hb1.alloc hb1.size _) hb1.size _
    generalize (w1.alloc (Obj.cells #[.int .u8 0, .int .u8 0, .int .u8 0, .int .u8 0] 77)).setRow w1.heap.size mostc = W at *
    have HROW := Lib.hid hrow
    clear hrow hb1
    generalize w1.heap.size = b at *
    go_loopw [9] (fun i wr => ∃ k n : Nat, k ≤ s.size ∧ i = .int .i64 k ∧ SameTo k s.data.toList ∧ wr = W.drewN n) (fun i _ => s.size - (intOf i).toNat)
    case atStart => exact ⟨0, 0, by omega, rfl, fun j hj => by omega, rfl⟩
    case round =>
      obtain ⟨k, nn, hk, rfl, HS, rfl⟩ := hrel
      by_cases hlt : k < s.size
      · have hks : k < s.size := by omega
        have hk4 : k < 4 := by omega
        have hi0 : (0 : Int) ≤ (k : Int) := by omega
        have hi1 : (k : Int) < (s.size : Int) := by omega
        have hi2 : (k : Int) < 4 := by omega
        have hcell := most_cell HROW.out k hk4
        have hb := byte_at s k hks
        by_cases hd : s[k].toNat = mo k
        · have hne : ((s[k].toNat : Int) != (mo k : Int)) = false := by rw [hd]; simp
          have HN : Hid (SameTo (k + 1) s.data.toList) := fun j hj => by
            by_cases e : j = k
            · subst e; rw [hb]; exact hd
            · exact HS j (by omega)
          clear hb hd
          go_wp2
          go_quiet (fail)
          go_wp2
          go_roundw
          case rel => exact ⟨k + 1, _, by omega, by go_num, HN.out, rfl⟩
          case measure => simp [intOf]; omega
        · have hne : ((s[k].toNat : Int) != (mo k : Int)) = true := by simp only [bne_iff_ne, ne_eq]; intro e; exact hd (by omega)
          have HF : Hid (decide (mo k < s[k].toNat) = ab) := by
            rw [← HAB.out, above_diff HS hk4 (by rw [hb]; exact hd), hb]; rfl
          clear hb hd
          go_wp2
          go_quiet (fail)
          go_wp2
          go_quiet (fail)
          go_wp2
          go_ret
          refine ⟨?_, hbel.os, hbel.tape, hbel.output, hbel.size, hbel.block⟩
          rw [← HF.out]
          rfl
      · have HF : Hid (ab = false) := by rw [← HAB.out]; exact above_same HS (by rw [HLEN.out]; omega)
        go_wp2
        go_ret
        refine ⟨?_, hbel.os, hbel.tape, hbel.output, hbel.size, hbel.block⟩
        rw [HF.out]
        rfl
end Go.Proofs.Ytgffoepnkpkhaaa
