/- SumTurned holds for every input: bytes of which just one is changed have another sum; no condition. -/
import Derived.Test.YtgffoepnkpkhaaaBase
import Derived.Test.YtgffoepnkpkhaaaSum
import Derived.Lib.ConvBytes
import Derived.Laws.IdiomStrings
namespace Go.Proofs.Ytgffoepnkpkhaaa.sumTurned
open Go.ChangeShapes Go.WideShapes Go.ChangeAt Go.RowKit
open Go.ChangeMaps (open_string shut_string)

theorem conv_bytes (s : ByteArray) (w : World) : ∃ (W1 : World) (cap : Nat), (convert 9 24 (.string s)).run Try.prog w = .ok (.slice (some ⟨w.heap.size, 0, none⟩) s.size cap) W1 ∧
    (∀ j, j < s.size → W1.cell? ⟨w.heap.size, j, none⟩ = some (.int .u8 (s.data.toList.getD j 0).toNat)) ∧ (∀ j, j < s.size → W1.frozen? ⟨w.heap.size, j, none⟩ = false) ∧
    Below w.heap.size w W1 ∧ W1.heap.size = w.heap.size + 1 := by
  refine ⟨_, _, Lib.run_convert_string_bytes (P := Try.prog) w 9 24 5 s Try.underlying9 Try.underlying24 Try.underlying5, fun j hj => Lib.bytesWorld_cell w 5 s j hj, fun j hj => ?_, ⟨?_, ?_, ?_, ?_, fun k hk => Lib.bytesWorld_at_old w 5 s k hk⟩, Lib.bytesWorld_size w 5 s⟩
  · have : j < (Lib.bytesCells w 5 s).size := by simp [Lib.bytesCells]; omega
    simp only [World.frozen?, Lib.bytesWorld_at_new]
    simp; omega
  · rfl
  · rfl
  · rfl
  · rw [Lib.bytesWorld_size]; omega
theorem xor_u8 (a b : Nat) (ha : a < 256) (hb : b < 256) : bits .xor .u8 a b = ((a ^^^ b : Nat) : Int) := by
  have h : a ^^^ b < 2 ^ 8 := Nat.xor_lt_two_pow (n := 8) ha hb
  have e : (BitVec.ofInt 8 (a : Int) ^^^ BitVec.ofInt 8 (b : Int)).toNat = a ^^^ b := by
    simp only [BitVec.ofInt_natCast, BitVec.toNat_xor, BitVec.toNat_ofNat, Nat.mod_eq_of_lt (show a < 2 ^ 8 from ha), Nat.mod_eq_of_lt (show b < 2 ^ 8 from hb)]
  show IntKind.u8.wrap ((BitVec.ofInt 8 (a : Int) ^^^ BitVec.ofInt 8 (b : Int)).toNat : Int) = _
  rw [e]
  exact wraps_u8 _ (by omega) (by omega)
theorem split_at (l : List UInt8) (i : Nat) (h : i < l.length) (c : UInt8) : l = l.take i ++ l.getD i 0 :: l.drop (i + 1) ∧ l.set i c = l.take i ++ c :: l.drop (i + 1) := by
  constructor
  · have : l.getD i 0 = l[i] := by simp [List.getD, h]
    rw [this]
    simp
  · rw [List.set_eq_take_append_cons_drop, if_pos h]
theorem turned (l : List UInt8) (i y : Nat) (h : i < l.length) (hy : y < 256) (h0 : y ≠ 0) : Crc.on 0 (l.set i (UInt8.ofNat ((l.getD i 0).toNat ^^^ y))) ≠ Crc.on 0 l := by
  obtain ⟨e1, e2⟩ := split_at l i h (UInt8.ofNat ((l.getD i 0).toNat ^^^ y))
  have hb := (l.getD i 0).toNat_lt
  have hx : (l.getD i 0).toNat ^^^ y < 2 ^ 8 := Nat.xor_lt_two_pow (n := 8) hb hy
  rw [e2]
  conv => rhs; rw [e1]
  refine Crc.on_turned _ _ _ _ (fun e => h0 ?_)
  have e3 := congrArg UInt8.toNat e
  rw [UInt8.toNat_ofNat', Nat.mod_eq_of_lt hx] at e3
  have : (l.getD i 0).toNat ^^^ ((l.getD i 0).toNat ^^^ y) = (l.getD i 0).toNat ^^^ (l.getD i 0).toNat := by rw [e3]
  rw [← Nat.xor_assoc, Nat.xor_self, Nat.zero_xor] at this
  exact this
set_option maxHeartbeats 1000000 in
theorem walk (a0 : ByteArray) (a1 a2 : Int) (w0 : a0.size ≤ maxLen) (w1 : (Lit.int .u16 a1).wf = true) (w2 : (Lit.int .u8 a2).wf = true) (w : World) :
    Calls Try.prog 3 #[.string a0, .int .u16 a1, .int .u8 a2] w fun e w' => e = .returned (.bool true) ∧ Below w.heap.size w w' := by
  have hb1 := bounds_u16 w1
  have hb2 := bounds_u8 w2
  obtain ⟨k, rfl⟩ := Int.eq_ofNat_of_zero_le hb1.1
  obtain ⟨y, rfl⟩ := Int.eq_ofNat_of_zero_le hb2.1
  by_cases hg : 1 ≤ a0.size ∧ a0.size ≤ 300 ∧ y ≠ 0
  · obtain ⟨h1, h2, h3⟩ := hg
    have h4 : ((y : Int) == 0) = false := by simpa using h3
    obtain ⟨W1, cap, hcv, hcl, hfz, hbel, hsz⟩ := conv_bytes a0 w
    have hi : k % a0.size < a0.size := Nat.mod_lt _ (by omega)
    have hie : (k : Int) % (a0.size : Int) = ((k % a0.size : Nat) : Int) := by omega
    generalize hik : k % a0.size = i at *
    clear hik
    have hlen : a0.data.toList.length = a0.size := by simp
    have hne := turned a0.data.toList i y (by omega) (by omega) h3
    have hce := hcl i hi
    have hfe := hfz i hi
    have hbb := (a0.data.toList.getD i 0).toNat_lt
    have hx := xor_u8 (a0.data.toList.getD i 0).toNat y (by omega) (by omega)
    have hll : (a0.data.toList.set i (UInt8.ofNat ((a0.data.toList.getD i 0).toNat ^^^ y))).length = a0.size := by simp
    have hcells : ∀ j (hj : j < (a0.data.toList.set i (UInt8.ofNat ((a0.data.toList.getD i 0).toNat ^^^ y))).length), (W1.setCell ⟨w.heap.size, i, none⟩ (.int .u8 ((a0.data.toList.getD i 0).toNat ^^^ y : Nat))).cell? ⟨w.heap.size, j, none⟩ = some (.int .u8 ((a0.data.toList.set i (UInt8.ofNat ((a0.data.toList.getD i 0).toNat ^^^ y)))[j].toNat : Int)) := by
      intro j hj
      have hxl : (a0.data.toList.getD i 0).toNat ^^^ y < 2 ^ 8 := Nat.xor_lt_two_pow (n := 8) hbb (by omega)
      simp only [List.length_set] at hj
      by_cases e : j = i
      · subst e
        rw [List.getElem_set_self, UInt8.toNat_ofNat', Nat.mod_eq_of_lt hxl]
        exact World.cell?_setCell_same _ _ _ hce
      · rw [List.getElem_set_ne (fun h => e h.symm)]
        rw [World.cell?_setCell_other]
        · rw [hcl j (by omega)]
          rw [show a0.data.toList.getD j 0 = a0.data.toList[j] from by rw [List.getD, List.getElem?_eq_getElem hj]; rfl]
        · intro h; exact e ((Addr.mk.inj h).2.1).symm
    have HC := Lib.hid hcells
    have HL := Lib.hid hll
    have HN := Lib.hid hne
    have HLN := Lib.hid hlen
    have HS := Lib.hid hsz
    clear hcells hll hne hlen hsz hcl hfz
    generalize hlg : a0.data.toList.set i (UInt8.ofNat ((a0.data.toList.getD i 0).toNat ^^^ y)) = l' at *
    generalize a0.data.toList.getD i 0 = c at *
    clear hlg
    go_enter Try.func3, Try.ntmps3
    go_wp2_with fail
    have bb : Below w.heap.size w (W1.setCell ⟨w.heap.size, i, none⟩ (.int .u8 ((c.toNat ^^^ y : Nat) : Int))) := hbel.setCell (Nat.le_refl _) _
    have hlt : w.heap.size < (W1.setCell ⟨w.heap.size, i, none⟩ (.int .u8 ((c.toNat ^^^ y : Nat) : Int))).heap.size := by have := HS.out; simp [World.setCell]; omega
    generalize W1.setCell ⟨w.heap.size, i, none⟩ (.int .u8 ((c.toNat ^^^ y : Nat) : Int)) = W2 at *
    refine (awake6_any _).mono ?_
    rintro e x1 ⟨rfl, c1⟩
    have b1 := bb.trans (c1.mono bb.size)
    have hcv2 := run_convert_bytes_back (P := Try.prog) x1 24 9 5 ⟨w.heap.size, 0, none⟩ cap l' Try.underlying24 Try.underlying5 Try.underlying9 (fun j hj => by
      rw [show (Addr.add ⟨w.heap.size, 0, none⟩ j) = ⟨w.heap.size, j, none⟩ from by simp [Addr.add]; try omega]
      rw [c1.cell (p := ⟨w.heap.size, j, none⟩) hlt]
      exact HC.out j hj)
    rw [HL.out] at hcv2
    clear c1 bb hbel hce hfe hx hcv
    go_wp2_with fail
    refine (of_any _ _ (by have := HL.out; unfold maxLen; simp [ByteArray.size]; omega)).mono ?_
    rintro e x2 ⟨rfl, c2⟩
    have b2 := b1.trans (c2.mono b1.size)
    clear c2 b1 hcv2
    go_wp2_with fail
    refine (of_any _ _ w0).mono ?_
    rintro e x3 ⟨rfl, c3⟩
    have b3 := b2.trans (c3.mono b2.size)
    clear c3 b2
    have hfin : (((Crc.on 0 (ByteArray.mk l'.toArray).data.toList : Nat) : Int) != ((Crc.on 0 a0.data.toList : Nat) : Int)) = true := by
      have := HN.out
      simp only [bne_iff_ne, ne_eq]
      intro e
      exact this (by exact_mod_cast e)
    go_wp2_with fail
    go_ret
    exact ⟨rfl, b3⟩
  · have alt : a0.size < 1 ∨ (1 ≤ a0.size ∧ 300 < a0.size) ∨ (1 ≤ a0.size ∧ a0.size ≤ 300 ∧ y = 0) := by omega
    clear hg
    rcases alt with h | ⟨h, h'⟩ | ⟨h, h', h''⟩
    · go_enter Try.func3, Try.ntmps3
      go_wp2_with fail
      refine (awake6_any _).mono ?_
      rintro e x1 ⟨rfl, b1⟩
      go_wp2_with fail
      go_ret
      exact ⟨rfl, b1⟩
    · go_enter Try.func3, Try.ntmps3
      go_wp2_with fail
      refine (awake6_any _).mono ?_
      rintro e x1 ⟨rfl, b1⟩
      go_wp2_with fail
      go_ret
      exact ⟨rfl, b1⟩
    · have h4 : ((y : Int) == 0) = true := by simpa using h''
      clear h''
      go_enter Try.func3, Try.ntmps3
      go_wp2_with fail
      refine (awake6_any _).mono ?_
      rintro e x1 ⟨rfl, b1⟩
      go_wp2_with fail
      go_ret
      exact ⟨rfl, b1⟩

set_option maxRecDepth 100000 in
theorem lifted (os : Os) (started : os.Started) (H : Type) (enc : TypeId × Value → H) :
    ReturnsInHanded {} Try.checked os 3 .any (Rows.sumTurnedSpec.pre6 enc Try.prog Try.f3 Rows.sumTurnedRow.domain false) (Rows.sumTurnedSpec.post enc Try.prog Try.f3 false true false false) := by
  refine returnsInHanded_of_change (C := Try.checked) own started (by kernel_rfl) Try.func3
    (ChangeSpec.witness6 (enc := enc) (C := Try.checked) false ⟨#[], #[.string ByteArray.empty, .int .u16 0, .int .u8 0], []⟩ 8 (by kernel_rfl) (by kernel_rfl) (by kernel_rfl) (by kernel_rfl)) ?_
  intro W base args ds gs before hval0 hW hcnd _
  have hval : ∀ (j : Nat) t v, Try.f3.params[j]? = some t → args[j]? = some v → Value.okWide Try.prog W .any base t v := hval0
  have hW' := hW
  obtain ⟨p, q, hA0, hV, rfl, hfz, hnd⟩ := hW
  have hA : DataW.TrodAll enc Try.prog W 0 (fun _ => true) true Try.f3.params.toList args.toList ds p := hA0
  rw [Try.params3] at hA hval
  obtain ⟨v0, vs0, d0, ds0, p0, q0, hargs, rfl, rfl, h0, r0⟩ := trodAll_cons hA
  obtain ⟨v1, vs1, d1, ds1, p1, q1, rfl, rfl, rfl, h1, r1⟩ := trodAll_cons r0
  obtain ⟨v2, vs2, d2, ds2, p2, q2, rfl, rfl, rfl, h2, r2⟩ := trodAll_cons r1
  obtain ⟨rfl, rfl, rfl⟩ := trodAll_nil r2
  obtain rfl : args = #[v0, v1, v2] := by cases args; simp_all
  obtain ⟨rfl, rfl⟩ := trodVars_none hV
  obtain ⟨a0, rfl, rfl, rfl, w0⟩ := open_string Try.underlying9 (hval 0 9 v0 rfl rfl) h0
  obtain ⟨a1, rfl, rfl, rfl, w1⟩ := open_int Try.underlying22 (hval 1 22 v1 rfl rfl) h1
  obtain ⟨a2, rfl, rfl, rfl, w2⟩ := open_int Try.underlying5 (hval 2 5 v2 rfl rfl) h2
  clear hA0 hval0
  simp only [List.append_nil] at hW'
  refine (walk a0 a1 a2 w0 w1 w2 W).mono fun e W' ⟨he, hg⟩ => ?_
  subst he
  exact ⟨_, rfl, post_law (pa := []) (pv := []) hW' (fun _ _ _ => (trodAll_cons_mk (shut_bool Try.underlying4 _) trodAll_mk0)) (fun sp _ => (trodAll_cons_mk (shut_string Try.underlying9 w0) (trodAll_cons_mk (shut_int Try.underlying22 w1) (trodAll_cons_mk (shut_int Try.underlying5 w2) trodAll_mk0)))) (fun _ _ => rfl) rfl
    hg (ok_one (by kernel_rfl) rfl (okWide_bool_mk Try.underlying4 _))⟩

theorem over : Rows.sumTurnedRow.holds Try.pinned (OpenSpec.ofChange Rows.sumTurnedSpec) :=
  OpenClaim.holds_of_wide 3 Try.f3 rfl rfl rfl rfl rfl rfl rfl ⟨rfl, rfl, rfl, rfl, rfl⟩ rfl rfl rfl rfl rfl (by kernel_rfl) Try.func3 (by kernel_rfl)
    (of_decide_eq_true (by kernel_rfl)) (by unfold Func.isWrapper; first | (rw [if_pos (by decide +kernel)]; kernel_rfl) | (rw [if_neg (by decide +kernel)]; exact ⟨rfl, rfl⟩))
    (fun os started H enc _ => lifted os started H enc)

theorem proved : Rows.SumTurnedSaid :=
  over
end Go.Proofs.Ytgffoepnkpkhaaa.sumTurned
#print axioms Go.Proofs.Ytgffoepnkpkhaaa.sumTurned.proved
