/- The walks of num.Put and of its reference. -/
import Derived.Test.YtcdbnabbhlnigaaDoorNum
import Derived.Laws.IdiomStrings
namespace Go.Proofs.YtcdbnabbhlnigaaDoor
open Go.RowKit

/-- bytes as cells -/
def bv (l : List UInt8) : List Value := l.map fun b => .int .u8 (b.toNat : Int)
theorem bv_append (a b : List UInt8) : bv (a ++ b) = bv a ++ bv b := by simp [bv]
theorem bv_length (a : List UInt8) : (bv a).length = a.length := by simp [bv]
theorem infoB : (Tryd.prog.info? 5).map (fun i => (i.zero, i.size, i.bytes)) = some (some (.int .u8 0), 1, 1) := by kernel_rfl
/-- 'string(b)' of an owned row of bytes -/
theorem own_string {w : World} {base : Nat} {v : Value} {l : List UInt8} (h : w.ownsRow base 5 1 v l.length (bv l)) (hl : 0 < l.length) :
    (convert 48 9 v).run Tryd.prog w = .ok (.string ⟨l.toArray⟩) w := by
  obtain ⟨_, ⟨_, h0⟩ | ⟨g, cap, cur, rfl, _, hg, _, _, hsz, htk⟩⟩ := h
  · omega
  · refine run_convert_bytes_back (P := Tryd.prog) w 48 9 5 ⟨g, 0, none⟩ cap l Tryd.underlying48 Tryd.underlying5 Tryd.underlying9 (fun j hj => ?_)
    rw [show (Addr.add ⟨g, 0, none⟩ j) = ⟨g, j, none⟩ from by simp [Addr.add]; omega]
    simp only [World.cell?, hg]
    have e : cur.toList[j]? = (bv l)[j]? := by
      rw [← htk, List.getElem?_take, if_pos (by omega)]
    simp [bv, hj] at e
    simp [e]
theorem one_new (w : World) (v : Value) (t : TypeId) : ∀ (j : Nat) (u : Value), [v][j]? = some u → (w.alloc (.cells #[v] t)).cell? (Addr.add ⟨w.heap.size, 0, none⟩ j) = some u := by
  intro j u hu
  cases j with
  | zero => simp at hu; subst hu; simp [Addr.add]
  | succ j => simp at hu
theorem own_from {w : World} {base : Nat} {e : TypeId} {size : Nat} {v : Value} {n : Nat} {xs : List Value} (h : w.ownsRow base e size v n xs) : ∀ k, v.ownBlock = some k → base ≤ k := by
  obtain ⟨_, ⟨rfl, _⟩ | ⟨g, cap, cur, rfl, hg, _⟩⟩ := h
  · intro k hk; simp [Value.ownBlock] at hk
  · intro k hk; simp [Value.ownBlock] at hk; omega
def PutRel (z : Nat) (w wr : World) (v zv : Value) : Prop :=
  ∃ (k z' : Nat) (l : List UInt8), k ≤ 9 ∧ l.length = k ∧ Vint.enc 9 z = l ++ Vint.enc (9 - k) z' ∧ z' < 128 ^ (9 - k) * 2 ∧ zv = .int .u64 z' ∧ wr.ownsRow w.heap.size 5 1 v l.length (bv l) ∧ Below w.heap.size w wr
set_option maxHeartbeats 1000000 in
set_option maxRecDepth 100000 in
theorem put_any (n : Int) (h1 : -9223372036854775808 ≤ n) (h2 : n ≤ 9223372036854775807) (w : World) :
    Calls Tryd.prog 24 #[.int .i64 n] w fun e w' => e = .returned (.string ⟨(Vint.put n).toArray⟩) ∧ Below w.heap.size w w' := by
  go_enter Tryd.func24, Tryd.ntmps24
  go_wp2
  rw [Vint.zig_bits n h1 h2]
  have hz := Vint.zig_lt n h1 h2
  have hp := Vint.pow9
  have HP : Hid (Vint.put n = Vint.enc 9 (Vint.zig n)) := rfl
  generalize Vint.zig n = z at *
  go_loopw [3, 4] (fun zv v wr => PutRel z w wr v zv) (fun zv _ _ => (intOf zv).toNat)
  case atStart => exact ⟨0, z, [], by omega, rfl, rfl, by rw [show 9 - 0 = 9 from rfl]; omega, rfl, ⟨rfl, Or.inl ⟨rfl, rfl⟩⟩, Below.refl _ _⟩
  case round =>
    obtain ⟨k, z', l, hk, hlk, he, hz', rfl, hown, hbel⟩ := hrel
    obtain ⟨i0, hi, hz0, hz1, hz2⟩ := info_parts infoB
    by_cases hc : z' < 128
    · have hes := Vint.enc_stop (9 - k) z' hc
      rw [hes] at he
      have HE := Lib.hid he
      have hb : ((z' : Int) % 256) = (z' : Int) := by omega
      have hlk' : l.length ≤ 9 := by omega
      clear hes hz' hp hz he h1 h2 hlk
      go_wp2_with (at_builtin; refine wpList_append_own _ rfl _ _ 48 rfl w.heap.size 5 i0 (.int .u8 0) 1 1 Tryd.underlying48 hi hz0 hz1 hz2 rfl (by decide) _ _ _ rfl (hown.alloc _) ⟨wr.heap.size, 0, none⟩ 1 1 [.int .u8 z'] rfl rfl ?c1 ?c2 ?c3 ?c4 ?c5 ?_)
      case c1 => exact one_new wr _ _
      case c2 => intro u hu; simp at hu; subst hu; rfl
      case c3 => unfold maxLen; omega
      case c4 => omega
      case c5 => have := hbel.size; simp; omega
      intro v' w1 hown' hgrow _
      have hb1 : Below w.heap.size w w1 := (hbel.alloc hbel.size _).grown hgrow (by have := hbel.size; simp; omega) (own_from hown)
      have hcs : (convert 48 9 v').run Tryd.prog w1 = .ok (.string ⟨(l ++ [UInt8.ofNat z']).toArray⟩) w1 :=
        own_string (base := w.heap.size) (by rw [bv_append]; simpa [bv, Vint.byte_of z' (by omega)] using hown') (by simp)
      clear hown hown' hgrow
      go_wp2
      go_ret
      rw [HP.out, HE.out]
      exact ⟨rfl, hb1⟩
    · have hk9 : k < 9 := by
        rcases Nat.lt_or_ge k 9 with h | h
        · exact h
        · have : k = 9 := by omega
          subst this
          simp at hz'
          omega
      have hes := Vint.enc_next (9 - (k + 1)) z' hc
      rw [show 9 - (k + 1) + 1 = 9 - k by omega] at hes
      have hzn : z' / 128 < 128 ^ (9 - (k + 1)) * 2 := by
        rw [show 9 - k = (9 - (k + 1)) + 1 by omega, Nat.pow_succ] at hz'
        omega
      have hsm := Vint.set_mark (z' % 256) (by omega)
      rw [show 128 + z' % 256 % 128 = 128 + z' % 128 by omega] at hsm
      have hsm2 : bits .or .u8 ((z' : Int) % 256) 128 = ((128 + z' % 128 : Nat) : Int) := by rw [← hsm]; rfl
      have he2 : Vint.enc 9 z = (l ++ [UInt8.ofNat (128 + z' % 128)]) ++ Vint.enc (9 - (k + 1)) (z' / 128) := by rw [he, hes]; simp
      have HE := Lib.hid he2
      have HZ := Lib.hid hzn
      have hc2 : 128 ≤ z' := by omega
      have hlk' : l.length < 9 := by omega
      have HK := Lib.hid hlk
      generalize hm : 128 + z' % 128 = m at *
      have hm2 : m < 256 := by omega
      clear hes hz' hp hz he he2 h1 h2 hzn hsm hc hlk hm
      go_wp2_with (at_builtin; refine wpList_append_own _ rfl _ _ 48 rfl w.heap.size 5 i0 (.int .u8 0) 1 1 Tryd.underlying48 hi hz0 hz1 hz2 rfl (by decide) _ _ _ rfl (hown.alloc _) ⟨wr.heap.size, 0, none⟩ 1 1 [.int .u8 m] rfl rfl ?d1 ?d2 ?d3 ?d4 ?d5 ?_)
      case d1 => exact one_new wr _ _
      case d2 => intro u hu; simp at hu; subst hu; rfl
      case d3 => unfold maxLen; omega
      case d4 => omega
      case d5 => have := hbel.size; simp; omega
      intro v' w1 hown' hgrow _
      have hb1 : Below w.heap.size w w1 := (hbel.alloc hbel.size _).grown hgrow (by have := hbel.size; simp; omega) (own_from hown)
      have hown2 : w1.ownsRow w.heap.size 5 1 v' (l ++ [UInt8.ofNat m]).length (bv (l ++ [UInt8.ofNat m])) := by rw [bv_append]; simpa [bv, Vint.byte_of m hm2] using hown'
      clear hown hown' hgrow
      go_wp2
      go_roundw
      case rel => exact ⟨k + 1, z' / 128, _, by omega, by simp [HK.out], HE.out, HZ.out, by go_num, hown2, hb1⟩
      case measure => simp [intOf]; omega
def RefPutRel (z : Nat) (w wr : World) (v zv : Value) : Prop :=
  ∃ (k z' : Nat) (l : List UInt8), k ≤ 9 ∧ l.length = k ∧ Vint.enc 9 z = l ++ Vint.enc (9 - k) z' ∧ z' < 128 ^ (9 - k) * 2 ∧ zv = .int .u64 z' ∧ v = .string ⟨l.toArray⟩ ∧ Below w.heap.size w wr
/-- 'string([]byte{b})' of a row that was just made -/
theorem one_string (w : World) (m : Nat) (hm : m < 256) : (convert 48 9 (.slice (some ⟨w.heap.size, 0, none⟩) 1 1)).run Tryd.prog (w.alloc (.cells #[.int .u8 m] 5)) = .ok (.string ⟨[UInt8.ofNat m].toArray⟩) (w.alloc (.cells #[.int .u8 m] 5)) := by
  refine run_convert_bytes_back (P := Tryd.prog) _ 48 9 5 ⟨w.heap.size, 0, none⟩ 1 [UInt8.ofNat m] Tryd.underlying48 Tryd.underlying5 Tryd.underlying9 (fun j hj => ?_)
  have : j = 0 := by simp at hj; omega
  subst this
  simp [Addr.add, Vint.byte_of m hm]
theorem cat_lists (a b : List UInt8) : (⟨a.toArray⟩ : ByteArray) ++ ⟨b.toArray⟩ = ⟨(a ++ b).toArray⟩ := ByteArray.mk_append_mk a b
set_option maxHeartbeats 1000000 in
set_option maxRecDepth 100000 in
theorem refput_core (n : Int) (z : Nat) (hz : z < 18446744073709551616) (HP : Hid (Vint.put n = Vint.enc 9 z)) (HF : Hid ((n < 0 ∧ z = 2 * (-(n + 1)).toNat + 1) ∨ (0 ≤ n ∧ z = 2 * n.toNat))) (h1 : -9223372036854775808 ≤ n) (h2 : n ≤ 9223372036854775807) (w : World) :
    Calls Tryd.prog 32 #[.int .i64 n] w fun e w' => e = .returned (.string ⟨(Vint.put n).toArray⟩) ∧ Below w.heap.size w w' := by
  have hp := Vint.pow9
  rcases HF.out with ⟨hn, he⟩ | ⟨hn, he⟩
  · have hd : decide (0 ≤ n) = false := by simp; omega
    have hv : 2 * -(n + 1) + 1 = (z : Int) := by omega
    have HV := Lib.hid hv
    clear hv he
    go_enter Tryd.func32, Tryd.ntmps32
    go_wp2
    rw [HV.out]
    clear HV hd h1 h2 hn HF
    go_loopw [3, 4] (fun zv v wr => RefPutRel z w wr v zv) (fun zv _ _ => (intOf zv).toNat)
    case atStart => exact ⟨0, z, [], by omega, rfl, rfl, by rw [show 9 - 0 = 9 from rfl]; omega, rfl, rfl, Below.refl _ _⟩
    case round =>
      obtain ⟨k, z', l, hk, hlk, he, hz', rfl, rfl, hbel⟩ := hrel
      by_cases hc : z' < 128
      · have hes := Vint.enc_stop (9 - k) z' hc
        rw [hes] at he
        have HE := Lib.hid he
        have hb : ((z' : Int) % 256) = (z' : Int) := by omega
        have hlk' : l.length ≤ 9 := by omega
        have hos := one_string wr z' (by omega)
        have hsz1 : (ByteArray.mk l.toArray).size ≤ 9 := by simpa [ByteArray.size] using hlk'
        have hsz2 : (ByteArray.mk [UInt8.ofNat z'].toArray).size ≤ 1 := by simp [ByteArray.size]
        have HB : Hid (Below w.heap.size w (wr.alloc (.cells #[.int .u8 (z' : Int)] 5))) := hbel.alloc hbel.size _
        clear hes hz' hp hz he hlk
        go_wp2
        go_ret
        rw [HP.out, HE.out]
        exact ⟨rfl, HB.out⟩
      · have hk9 : k < 9 := by
          rcases Nat.lt_or_ge k 9 with h | h
          · exact h
          · have : k = 9 := by omega
            subst this
            simp at hz'
            omega
        have hes := Vint.enc_next (9 - (k + 1)) z' hc
        rw [show 9 - (k + 1) + 1 = 9 - k by omega] at hes
        have hzn : z' / 128 < 128 ^ (9 - (k + 1)) * 2 := by
          rw [show 9 - k = (9 - (k + 1)) + 1 by omega, Nat.pow_succ] at hz'
          omega
        have he2 : Vint.enc 9 z = (l ++ [UInt8.ofNat (128 + z' % 128)]) ++ Vint.enc (9 - (k + 1)) (z' / 128) := by rw [he, hes]; simp
        have HE := Lib.hid he2
        have HZ := Lib.hid hzn
        have hlk' : l.length < 9 := by omega
        have HK := Lib.hid hlk
        have hz64 : z' < 18446744073709551616 := by have := Nat.pow_le_pow_right (n := 128) (by decide) (show 9 - k ≤ 9 by omega); omega
        have hm1 : (128 + (z' : Int) % 128) = ((128 + z' % 128 : Nat) : Int) := by omega
        generalize hm : 128 + z' % 128 = m at *
        have hm2 : m < 256 := by omega
        have hm3 : (m : Int) % 256 = (m : Int) := by omega
        have hos := one_string wr m hm2
        have hsz1 : (ByteArray.mk l.toArray).size ≤ 9 := by simp [ByteArray.size]; omega
        have hsz2 : (ByteArray.mk [UInt8.ofNat m].toArray).size ≤ 1 := by simp [ByteArray.size]
        have HB : Hid (Below w.heap.size w (wr.alloc (.cells #[.int .u8 (m : Int)] 5))) := hbel.alloc hbel.size _
        clear hes hz' hp hz he he2 hzn hlk hm
        go_wp2
        go_roundw
        case rel => exact ⟨k + 1, z' / 128, _, by omega, by simp [HK.out], HE.out, HZ.out, by go_num, rfl, HB.out⟩
        case measure => simp [intOf]; omega
  · have hv : 2 * n = (z : Int) := by omega
    have HV := Lib.hid hv
    clear hv he
    go_enter Tryd.func32, Tryd.ntmps32
    go_wp2
    rw [HV.out]
    clear HV h1 h2 hn HF
    go_loopw [3, 4] (fun zv v wr => RefPutRel z w wr v zv) (fun zv _ _ => (intOf zv).toNat)
    case atStart => exact ⟨0, z, [], by omega, rfl, rfl, by rw [show 9 - 0 = 9 from rfl]; omega, rfl, rfl, Below.refl _ _⟩
    case round =>
      obtain ⟨k, z', l, hk, hlk, he, hz', rfl, rfl, hbel⟩ := hrel
      by_cases hc : z' < 128
      · have hes := Vint.enc_stop (9 - k) z' hc
        rw [hes] at he
        have HE := Lib.hid he
        have hb : ((z' : Int) % 256) = (z' : Int) := by omega
        have hlk' : l.length ≤ 9 := by omega
        have hos := one_string wr z' (by omega)
        have hsz1 : (ByteArray.mk l.toArray).size ≤ 9 := by simpa [ByteArray.size] using hlk'
        have hsz2 : (ByteArray.mk [UInt8.ofNat z'].toArray).size ≤ 1 := by simp [ByteArray.size]
        have HB : Hid (Below w.heap.size w (wr.alloc (.cells #[.int .u8 (z' : Int)] 5))) := hbel.alloc hbel.size _
        clear hes hz' hp hz he hlk
        go_wp2
        go_ret
        rw [HP.out, HE.out]
        exact ⟨rfl, HB.out⟩
      · have hk9 : k < 9 := by
          rcases Nat.lt_or_ge k 9 with h | h
          · exact h
          · have : k = 9 := by omega
            subst this
            simp at hz'
            omega
        have hes := Vint.enc_next (9 - (k + 1)) z' hc
        rw [show 9 - (k + 1) + 1 = 9 - k by omega] at hes
        have hzn : z' / 128 < 128 ^ (9 - (k + 1)) * 2 := by
          rw [show 9 - k = (9 - (k + 1)) + 1 by omega, Nat.pow_succ] at hz'
          omega
        have he2 : Vint.enc 9 z = (l ++ [UInt8.ofNat (128 + z' % 128)]) ++ Vint.enc (9 - (k + 1)) (z' / 128) := by rw [he, hes]; simp
        have HE := Lib.hid he2
        have HZ := Lib.hid hzn
        have hlk' : l.length < 9 := by omega
        have HK := Lib.hid hlk
        have hz64 : z' < 18446744073709551616 := by have := Nat.pow_le_pow_right (n := 128) (by decide) (show 9 - k ≤ 9 by omega); omega
        have hm1 : (128 + (z' : Int) % 128) = ((128 + z' % 128 : Nat) : Int) := by omega
        generalize hm : 128 + z' % 128 = m at *
        have hm2 : m < 256 := by omega
        have hm3 : (m : Int) % 256 = (m : Int) := by omega
        have hos := one_string wr m hm2
        have hsz1 : (ByteArray.mk l.toArray).size ≤ 9 := by simp [ByteArray.size]; omega
        have hsz2 : (ByteArray.mk [UInt8.ofNat m].toArray).size ≤ 1 := by simp [ByteArray.size]
        have HB : Hid (Below w.heap.size w (wr.alloc (.cells #[.int .u8 (m : Int)] 5))) := hbel.alloc hbel.size _
        clear hes hz' hp hz he he2 hzn hlk hm
        go_wp2
        go_roundw
        case rel => exact ⟨k + 1, z' / 128, _, by omega, by simp [HK.out], HE.out, HZ.out, by go_num, rfl, HB.out⟩
        case measure => simp [intOf]; omega
theorem refput_any (n : Int) (h1 : -9223372036854775808 ≤ n) (h2 : n ≤ 9223372036854775807) (w : World) :
    Calls Tryd.prog 32 #[.int .i64 n] w fun e w' => e = .returned (.string ⟨(Vint.put n).toArray⟩) ∧ Below w.heap.size w w' :=
  refput_core n (Vint.zig n) (Vint.zig_lt n h1 h2) rfl (by unfold Vint.zig; by_cases h : 0 ≤ n; exact Or.inr ⟨h, by rw [if_pos h]⟩; exact Or.inl ⟨by omega, by rw [if_neg h]⟩) h1 h2 w
end Go.Proofs.YtcdbnabbhlnigaaDoor
