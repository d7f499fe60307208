/- The walks of frame.Scan, of the reference's Scan and Same. -/
import Derived.Test.YtgffoepnkpkhaaaFrame5
namespace Go.Proofs.Ytgffoepnkpkhaaa
open Go.RowKit

/-- strings as cells -/
def sv (l : List ByteArray) : List Value := l.map Value.string
theorem sv_append (a b : List ByteArray) : sv (a ++ b) = sv a ++ sv b := by simp [sv]
/-- a slice of strings that reads as a list -/
def Strs (w : World) (v : Value) (ls : List ByteArray) : Prop :=
  ∃ a cap, v = .slice a ls.length cap ∧ ls.length ≤ cap ∧ cap ≤ maxLen ∧ (0 < ls.length → ∃ b off, a = some ⟨b, off, none⟩ ∧ b < w.heap.size ∧ ∀ i (h : i < ls.length), w.cell? ⟨b, off + i, none⟩ = some (.string ls[i]))
theorem Strs.keep {w w' : World} {v : Value} {ls : List ByteArray} (h : Strs w v ls) (hb : Below w.heap.size w w') : Strs w' v ls := by
  obtain ⟨a, cap, hv, h1, h2, hc⟩ := h
  refine ⟨a, cap, hv, h1, h2, fun h0 => ?_⟩
  obtain ⟨b, off, ha, hlt, hcl⟩ := hc h0
  exact ⟨b, off, ha, Nat.lt_of_lt_of_le hlt hb.size, fun i hi => (hb.cell (p := ⟨b, off + i, none⟩) hlt).trans (hcl i hi)⟩
theorem Strs.own {w : World} {base : Nat} {v : Value} {ls : List ByteArray} (h : w.ownsRow base 9 1 v ls.length (sv ls)) : Strs w v ls := by
  obtain ⟨_, ⟨rfl, h0⟩ | ⟨g, cap, cur, rfl, _, hg, hc1, hc2, hsz, htk⟩⟩ := h
  · exact ⟨none, 0, by rw [h0], by omega, by decide, fun h => by omega⟩
  · refine ⟨_, cap, rfl, hc1, hc2, fun h0 => ⟨g, 0, rfl, ?_, fun i hi => ?_⟩⟩
    · rcases Nat.lt_or_ge g w.heap.size with h' | h'
      · exact h'
      · simp [Array.getElem?_eq_none h'] at hg
    · rw [Nat.zero_add]
      simp only [World.cell?, hg]
      have e : cur.toList[i]? = (sv ls)[i]? := by
        rw [← htk, List.getElem?_take, if_pos (by omega)]
      simp [sv, hi] at e
      simp [e]
/-- the records of bytes, as strings -/
def recs (l : List (List UInt8)) : List ByteArray := l.map fun r => ⟨r.toArray⟩
theorem infoS : (Try.prog.info? 9).map (fun i => (i.zero, i.size, i.bytes)) = some (some (.string ⟨#[]⟩), 1, 16) := by kernel_rfl
theorem one_new (w : World) (v : Value) (t : TypeId) : ∀ (j : Nat) (u : Value), [v][j]? = some u → (w.alloc (.cells #[v] t)).cell? (Addr.add ⟨w.heap.size, 0, none⟩ j) = some u := by
  intro j u hu
  cases j with
  | zero => simp at hu; subst hu; simp [Addr.add]
  | succ j => simp at hu
theorem own_from {w : World} {base : Nat} {e : TypeId} {size : Nat} {v : Value} {n : Nat} {xs : List Value} (h : w.ownsRow base e size v n xs) : ∀ k, v.ownBlock = some k → base ≤ k := by
  obtain ⟨_, ⟨rfl, _⟩ | ⟨g, cap, cur, rfl, hg, _⟩⟩ := h
  · intro k hk; simp [Value.ownBlock] at hk
  · intro k hk; simp [Value.ownBlock] at hk; omega
theorem own_keep {w w' : World} {base : Nat} {e : TypeId} {size : Nat} {v : Value} {n : Nat} {xs : List Value} (h : w.ownsRow base e size v n xs) (hb : Below w.heap.size w w') : w'.ownsRow base e size v n xs := by
  obtain ⟨h1, h2⟩ := h
  refine ⟨h1, ?_⟩
  rcases h2 with h2 | ⟨g, cap, cur, hv, hg, hh, r⟩
  · exact Or.inl h2
  · refine Or.inr ⟨g, cap, cur, hv, hg, ?_, r⟩
    have hlt : g < w.heap.size := by
      rcases Nat.lt_or_ge g w.heap.size with h' | h'
      · exact h'
      · simp [Array.getElem?_eq_none h'] at hh
    exact (hb.block g hlt).trans hh
/-- what Scan leaves -/
def ScanPost (s : ByteArray) (w : World) (e : Ending) (w' : World) : Prop :=
  ∃ v, e = .returned (.tuple #[v, .int .i64 (Fr.all s.data.toList).2.1, .int .i64 (Fr.all s.data.toList).2.2]) ∧ Strs w' v (recs (Fr.all s.data.toList).1) ∧ Below w.heap.size w w'
/-- the state of the scan at u bytes with rs records -/
def ScanRel (s : ByteArray) (w wr : World) (v uv : Value) : Prop :=
  ∃ (rs : List ByteArray) (u : Nat), u ≤ s.size ∧ uv = .int .i64 u ∧ rs.length ≤ u ∧ wr.ownsRow w.heap.size 9 1 v rs.length (sv rs) ∧ Below w.heap.size w wr ∧
    recs (Fr.all s.data.toList).1 = rs ++ recs (Fr.all (s.data.toList.drop u)).1 ∧ (Fr.all s.data.toList).2.1 = u + (Fr.all (s.data.toList.drop u)).2.1 ∧ (Fr.all s.data.toList).2.2 = (Fr.all (s.data.toList.drop u)).2.2
/-- one record more -/
structure Step (s : ByteArray) (rs : List ByteArray) (u m : Nat) (r q : ByteArray) : Prop where
  eight : 8 ≤ m
  fits : u + m ≤ s.size
  next : fn (s.extract u s.size) = (r, q, 0)
  rest : q.size = s.size - (u + m)
  len : 8 + r.size = m
  e1 : recs (Fr.all s.data.toList).1 = (rs ++ [r]) ++ recs (Fr.all (s.data.toList.drop (u + m))).1
  e2 : (Fr.all s.data.toList).2.1 = (u + m) + (Fr.all (s.data.toList.drop (u + m))).2.1
  e3 : (Fr.all s.data.toList).2.2 = (Fr.all (s.data.toList.drop (u + m))).2.2
theorem scan_step (s : ByteArray) (rs : List ByteArray) (u : Nat) (hlt : u < s.size) (he : Fr.err (s.data.toList.drop u) = 0)
    (e1 : recs (Fr.all s.data.toList).1 = rs ++ recs (Fr.all (s.data.toList.drop u)).1) (e2 : (Fr.all s.data.toList).2.1 = u + (Fr.all (s.data.toList.drop u)).2.1) (e3 : (Fr.all s.data.toList).2.2 = (Fr.all (s.data.toList.drop u)).2.2) :
    ∃ m r q, Step s rs u m r q := by
  have hlen : s.data.toList.length = s.size := by simp
  have hne0 : (s.data.toList.drop u).length ≠ 0 := by rw [List.length_drop, hlen]; omega
  have hsx : (s.extract u s.size).size = s.size - u := by rw [ByteArray.size_extract]; omega
  have hlx : (s.extract u s.size).data.toList = s.data.toList.drop u := list_drop s u
  have hall := Fr.all_ok _ hne0 he
  have hk2 := (Fr.err_ok he).2.1
  rw [List.length_drop, hlen] at hk2
  have hfn := fn_ok (s.extract u s.size) (by rw [hlx]; exact he)
  rw [hlx] at hfn
  have hrl := Fr.rec_len he
  rw [hall, List.drop_drop] at e1 e2 e3
  dsimp only at e1 e2 e3
  refine ⟨8 + Fr.num (s.data.toList.drop u), _, _, by omega, by omega, hfn, ?_, ?_, ?_, ?_, e3⟩
  · rw [ByteArray.size_extract, hsx]; omega
  · rw [ByteArray.size_extract, hsx]; omega
  · rw [e1]
    have hrec : ((s.extract u s.size).extract 8 (8 + Fr.num (s.data.toList.drop u))) = ⟨(Fr.rec (s.data.toList.drop u)).toArray⟩ := by
      apply of_list
      rw [list_extract, hlx, Nat.add_sub_cancel_left]
      rfl
    rw [hrec]
    simp [recs]
  · rw [e2]; omega
set_option maxHeartbeats 4000000 in
set_option maxRecDepth 100000 in
theorem scan_any (s : ByteArray) (hs : s.size ≤ 1000000) (w : World) : Calls Try.prog 37 #[.string s] w (ScanPost s w) := by
  have hlen : s.data.toList.length = s.size := by simp
  have HLEN := Lib.hid hlen
  clear hlen
  obtain ⟨i0, hi, hz0, hz1, hz2⟩ := info_parts infoS
  go_enter Try.func37, Try.ntmps37
  go_wp2
  go_loopw [2, 3] (fun v uv wr => ScanRel s w wr v uv) (fun _ uv _ => s.size - (intOf uv).toNat)
  case atStart => exact ⟨[], 0, Nat.zero_le _, rfl, Nat.le_refl _, ⟨rfl, Or.inl ⟨rfl, rfl⟩⟩, Below.refl _ _, by simp, by simp, by simp⟩
  case round =>
    obtain ⟨rs, u, hu, rfl, hru, hown, hbel, e1, e2, e3⟩ := hrel
    by_cases hlt : u < s.size
    · have hsx : (s.extract u s.size).size ≤ 1000000000000 := by rw [ByteArray.size_extract]; omega
      by_cases he : Fr.err (s.data.toList.drop u) = 0
      · obtain ⟨m, r, q, ST⟩ := scan_step s rs u hlt he e1 e2 e3
        have hum := ST.fits
        have hm8 := ST.eight
        have hqr := ST.rest
        have HSUB := Lib.hid (show (s.size : Int) - (q.size : Int) = ((u + m : Nat) : Int) by omega)
        have hqs : q.size ≤ s.size := by omega
        clear e1 e2 e3 he hqr
        go_wp2_with fail
        refine (next_any (s.extract u s.size) hsx _).mono ?_
        rintro e w1 ⟨rfl, c1⟩
        rw [ST.next]
        dsimp only
        have b1 := hbel.trans (c1.mono hbel.size)
        have hown1 : w1.ownsRow w.heap.size 9 1 u2 rs.length (sv rs) := own_keep hown c1
        clear hown hbel c1
        have hlr : rs.length ≤ 1000000 := by omega
        go_wp2_with (at_builtin; refine wpList_append_own _ rfl _ _ 54 rfl w.heap.size 9 i0 (.string ⟨#[]⟩) 1 16 Try.underlying54 hi hz0 hz1 hz2 rfl (by decide) _ _ _ rfl (hown1.alloc _) ⟨w1.heap.size, 0, none⟩ 1 1 [.string r] rfl rfl ?c1 ?c2 ?c3 ?c4 ?c5 ?_)
        case c1 => exact one_new w1 _ _
        case c2 => intro u hu; simp at hu; subst hu; rfl
        case c3 => unfold maxLen; omega
        case c4 => omega
        case c5 => have := b1.size; simp; omega
        intro v' w2 hown' hgrow _
        have hb2 : Below w.heap.size w w2 := (b1.alloc b1.size _).grown hgrow (by have := b1.size; simp; omega) (own_from hown1)
        have hown2 : w2.ownsRow w.heap.size 9 1 v' (rs ++ [r]).length (sv (rs ++ [r])) := by rw [sv_append]; simpa [sv] using hown'
        clear hown1 hown' hgrow b1
        go_wp2
        go_roundw
        case rel => exact ⟨rs ++ [r], u + m, hum, by rw [HSUB.out], by simp; omega, hown2, hb2, ST.e1, ST.e2, ST.e3⟩
        case measure => have := HSUB.out; simp [intOf]; omega
      · have hne0 : (s.data.toList.drop u).length ≠ 0 := by rw [List.length_drop, HLEN.out]; omega
        have hall := Fr.all_err _ hne0 he
        rw [hall] at e1 e2 e3
        dsimp only at e1 e2 e3
        have HFN := Lib.hid (fn_err (s.extract u s.size) (Fr.err (s.data.toList.drop u)) (by rw [list_drop]) he)
        have hne : (Fr.err (s.data.toList.drop u) != 0) = true := by simpa using he
        have HE1 := Lib.hid (show recs (Fr.all s.data.toList).1 = rs by rw [e1]; simp [recs])
        have HE2 := Lib.hid e2
        have HE3 := Lib.hid e3
        generalize Fr.err (s.data.toList.drop u) = er at *
        clear e1 e2 e3 hall he hne0
        go_wp2_with fail
        refine (next_any (s.extract u s.size) hsx _).mono ?_
        rintro e w1 ⟨rfl, c1⟩
        rw [HFN.out]
        dsimp only
        have b1 := hbel.trans (c1.mono hbel.size)
        have hown1 : w1.ownsRow w.heap.size 9 1 u2 rs.length (sv rs) := own_keep hown c1
        clear hown hbel c1
        go_wp2
        go_ret3
        refine ⟨u2, ?_, by rw [HE1.out]; exact Strs.own hown1, b1⟩
        rw [HE2.out, HE3.out]
        rfl
    · have hnil : (s.data.toList.drop u).length = 0 := by rw [List.length_drop, HLEN.out]; omega
      have hall := Fr.all_nil _ hnil
      rw [hall] at e1 e2 e3
      dsimp only at e1 e2 e3
      have HE1 := Lib.hid (show recs (Fr.all s.data.toList).1 = rs by rw [e1]; simp [recs])
      have HE2 := Lib.hid e2
      have HE3 := Lib.hid e3
      clear e1 e2 e3 hall hnil
      go_wp2
      go_ret3
      refine ⟨u2, ?_, by rw [HE1.out]; exact Strs.own hown, hbel⟩
      rw [HE2.out, HE3.out]
      rfl
end Go.Proofs.Ytgffoepnkpkhaaa
