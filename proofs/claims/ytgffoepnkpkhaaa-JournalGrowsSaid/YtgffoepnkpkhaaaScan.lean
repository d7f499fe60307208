/- frame.Scan once more: the slice that it returns is its own. -/
import Derived.Test.YtgffoepnkpkhaaaFrame7
import Derived.Test.YtgffoepnkpkhaaaHeld
namespace Go.Proofs.Ytgffoepnkpkhaaa
open Go.RowKit

/-- what Scan leaves, the slice in new memory -/
def ScanOwn (s : ByteArray) (w : World) (e : Ending) (w' : World) : Prop :=
  ∃ v, e = .returned (.tuple #[v, .int .i64 (Fr.all s.data.toList).2.1, .int .i64 (Fr.all s.data.toList).2.2]) ∧ w'.ownsRow w.heap.size 9 1 v (recs (Fr.all s.data.toList).1).length (sv (recs (Fr.all s.data.toList).1)) ∧ Below w.heap.size w w'
set_option maxHeartbeats 4000000 in
set_option maxRecDepth 100000 in
theorem scan_own (s : ByteArray) (hs : s.size ≤ 1000000) (w : World) : Calls Try.prog 37 #[.string s] w (ScanOwn s w) := by
  have hlen : s.data.toList.length = s.size := by simp
  have HLEN := Lib.hid hlen
  clear hlen
  obtain ⟨i0, hi, hz0, hz1, hz2⟩ := info_parts infoS
  go_enter Try.func37, Try.ntmps37
  go_wp2
  go_loopw [2, 3] (fun v uv wr => ScanRel s w wr v uv) (fun _ uv _ => s.size - (intOf uv).toNat)
  case atStart => exact ⟨[], 0, Nat.zero_le _, rfl, Nat.le_refl _, ⟨rfl, Or.inl ⟨rfl, rfl⟩⟩, Below.refl _ _, by simp, by simp, by simp⟩
  case round =>
    obtain ⟨rs, u, hu, rfl, hru, hown, hbel, e1, e2, e3⟩ := hrel
    by_cases hlt : u < s.size
    · have hsx : (s.extract u s.size).size ≤ 1000000000000 := by rw [ByteArray.size_extract]; omega
      by_cases he : Fr.err (s.data.toList.drop u) = 0
      · obtain ⟨m, r, q, ST⟩ := scan_step s rs u hlt he e1 e2 e3
        have hum := ST.fits
        have hm8 := ST.eight
        have hqr := ST.rest
        have HSUB := Lib.hid (show (s.size : Int) - (q.size : Int) = ((u + m : Nat) : Int) by omega)
        have hqs : q.size ≤ s.size := by omega
        clear e1 e2 e3 he hqr
        go_wp2_with fail
        refine (next_any (s.extract u s.size) hsx _).mono ?_
        rintro e w1 ⟨rfl, c1⟩
        rw [ST.next]
        dsimp only
        have b1 := hbel.trans (c1.mono hbel.size)
        have hown1 : w1.ownsRow w.heap.size 9 1 u2 rs.length (sv rs) := own_keep hown c1
        clear hown hbel c1
        have hlr : rs.length ≤ 1000000 := by omega
        go_wp2_with (at_builtin; refine wpList_append_own _ rfl _ _ 54 rfl w.heap.size 9 i0 (.string ⟨#[]⟩) 1 16 Try.underlying54 hi hz0 hz1 hz2 rfl (by decide) _ _ _ rfl (hown1.alloc _) ⟨w1.heap.size, 0, none⟩ 1 1 [.string r] rfl rfl ?c1 ?c2 ?c3 ?c4 ?c5 ?_)
        case c1 => exact one_new w1 _ _
        case c2 => intro u hu; simp at hu; subst hu; rfl
        case c3 => unfold maxLen; omega
        case c4 => omega
        case c5 => have := b1.size; simp; omega
        intro v' w2 hown' hgrow _
        have hb2 : Below w.heap.size w w2 := (b1.alloc b1.size _).grown hgrow (by have := b1.size; simp; omega) (own_from hown1)
        have hown2 : w2.ownsRow w.heap.size 9 1 v' (rs ++ [r]).length (sv (rs ++ [r])) := by rw [sv_append]; simpa [sv] using hown'
        clear hown1 hown' hgrow b1
        go_wp2
        go_roundw
        case rel => exact ⟨rs ++ [r], u + m, hum, by rw [HSUB.out], by simp; omega, hown2, hb2, ST.e1, ST.e2, ST.e3⟩
        case measure => have := HSUB.out; simp [intOf]; omega
      · have hne0 : (s.data.toList.drop u).length ≠ 0 := by rw [List.length_drop, HLEN.out]; omega
        have hall := Fr.all_err _ hne0 he
        rw [hall] at e1 e2 e3
        dsimp only at e1 e2 e3
        have HFN := Lib.hid (fn_err (s.extract u s.size) (Fr.err (s.data.toList.drop u)) (by rw [list_drop]) he)
        have hne : (Fr.err (s.data.toList.drop u) != 0) = true := by simpa using he
        have HE1 := Lib.hid (show recs (Fr.all s.data.toList).1 = rs by rw [e1]; simp [recs])
        have HE2 := Lib.hid e2
        have HE3 := Lib.hid e3
        generalize Fr.err (s.data.toList.drop u) = er at *
        clear e1 e2 e3 hall he hne0
        go_wp2_with fail
        refine (next_any (s.extract u s.size) hsx _).mono ?_
        rintro e w1 ⟨rfl, c1⟩
        rw [HFN.out]
        dsimp only
        have b1 := hbel.trans (c1.mono hbel.size)
        have hown1 : w1.ownsRow w.heap.size 9 1 u2 rs.length (sv rs) := own_keep hown c1
        clear hown hbel c1
        go_wp2
        go_ret3
        refine ⟨u2, ?_, by rw [HE1.out]; exact hown1, b1⟩
        rw [HE2.out, HE3.out]
        rfl
    · have hnil : (s.data.toList.drop u).length = 0 := by rw [List.length_drop, HLEN.out]; omega
      have hall := Fr.all_nil _ hnil
      rw [hall] at e1 e2 e3
      dsimp only at e1 e2 e3
      have HE1 := Lib.hid (show recs (Fr.all s.data.toList).1 = rs by rw [e1]; simp [recs])
      have HE2 := Lib.hid e2
      have HE3 := Lib.hid e3
      clear e1 e2 e3 hall hnil
      go_wp2
      go_ret3
      refine ⟨u2, ?_, by rw [HE1.out]; exact hown, hbel⟩
      rw [HE2.out, HE3.out]
      rfl
theorem own_mono {w : World} {base B : Nat} {e : TypeId} {size : Nat} {v : Value} {n : Nat} {xs : List Value} (h : w.ownsRow base e size v n xs) (hb : B ≤ base) : w.ownsRow B e size v n xs := by
  obtain ⟨h1, h2⟩ := h
  refine ⟨h1, ?_⟩
  rcases h2 with h2 | ⟨g, cap, cur, hv, hg, r⟩
  · exact Or.inl h2
  · exact Or.inr ⟨g, cap, cur, hv, Nat.le_trans hb hg, r⟩
theorem own_far {w0 w W : World} {g : Nat} {k : Dk} {base : Nat} {e : TypeId} {size : Nat} {v : Value} {n : Nat} {xs : List Value} (h : w.ownsRow base e size v n xs) (hp : Put4 w0 w g k W) (hg : g < base) : W.ownsRow base e size v n xs := by
  obtain ⟨h1, h2⟩ := h
  refine ⟨h1, ?_⟩
  rcases h2 with h2 | ⟨b, cap, cur, hv, hb, hh, r⟩
  · exact Or.inl h2
  · exact Or.inr ⟨b, cap, cur, hv, hb, (hp.far b (by omega)).trans hh, r⟩
end Go.Proofs.Ytgffoepnkpkhaaa
