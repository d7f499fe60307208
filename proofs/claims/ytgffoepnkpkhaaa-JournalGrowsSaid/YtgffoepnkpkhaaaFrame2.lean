/- The walk of frame.Put and frame.Size. -/
import Derived.Test.YtgffoepnkpkhaaaFrame
import Derived.Deep.RegionHeld3
import Derived.Lib.LazyBuf
import Derived.Laws.IdiomStrings
import Derived.OwnWalk
namespace Go.Proofs.Ytgffoepnkpkhaaa
open Go.RowKit

theorem infoB : (Try.prog.info? 5).map (fun i => (i.zero, i.size, i.bytes)) = some (some (.int .u8 0), 1, 1) := by kernel_rfl
theorem sizeB : ∀ w, (Go.sizeOf 5).run Try.prog w = .ok 1 w := fun _ => by kernel_rfl
theorem row_of_made {w : World} {base g n : Nat} (h : w.ownsRow base 5 1 (.slice (some ⟨g, 0, none⟩) n n) n (madeCells #[Value.int .u8 0] n).toList) : w.rowIs g 5 n (fun _ => .int .u8 0) := by
  obtain ⟨_, ⟨h0, _⟩ | ⟨g', cap, cur, hv, _, hg, _, _, hsz, htk⟩⟩ := h
  · simp at h0
  · simp at hv
    obtain ⟨rfl, rfl⟩ := hv
    refine ⟨cur, hg, by simpa using hsz, fun i hi => ?_⟩
    have hs' : cur.size = n := by simpa using hsz
    have e1 : cur.toList.take (n * 1) = cur.toList := List.take_of_length_le (by simp; omega)
    rw [e1] at htk
    have e2 : cur.toList[i]? = ((madeCells #[Value.int .u8 0] n).toList)[i]? := by rw [htk]
    rw [Array.getElem?_toList] at e2
    rw [e2, toList_madeCells_one]
    simp [hi]
set_option maxHeartbeats 400000 in
theorem size_any (s : ByteArray) (hs : s.size ≤ maxLen) (w : World) : Calls Try.prog 33 #[.string s] w fun e w' => e = .returned (.int .i64 (if s.size ≤ 1024 then 8 + (s.size : Int) else 0)) ∧ w = w' := by
  unfold maxLen at hs
  by_cases h : s.size ≤ 1024
  · rw [if_pos h]
    go_enter Try.func33, Try.ntmps33
    go_wp2
    go_ret
    exact ⟨rfl, rfl⟩
  · rw [if_neg h]
    go_enter Try.func33, Try.ntmps33
    go_wp2
    go_ret
    exact ⟨rfl, rfl⟩
set_option maxHeartbeats 400000 in
theorem put_long (s : ByteArray) (hs : s.size ≤ maxLen) (h : 1024 < s.size) (w : World) : Calls Try.prog 32 #[.string s] w fun e w' => e = .returned (.tuple #[.string ⟨#[]⟩, .int .i64 18]) ∧ w = w' := by
  unfold maxLen at hs
  go_enter Try.func32, Try.ntmps32
  go_wp2
  go_ret2
  exact ⟨rfl, rfl⟩
theorem put_head (l : List UInt8) (j : Nat) (hj : j < 8) : ((Fr.put l).getD j 0).toNat = (if j < 4 then Fr.bt l.length j else Fr.bt (Crc.on 0 l) (j - 4)) := by
  match j, hj with
  | 0, _ => simp [Fr.put, Fr.be, Nat.mod_eq_of_lt (Fr.bt_lt _ _)]
  | 1, _ => simp [Fr.put, Fr.be, Nat.mod_eq_of_lt (Fr.bt_lt _ _)]
  | 2, _ => simp [Fr.put, Fr.be, Nat.mod_eq_of_lt (Fr.bt_lt _ _)]
  | 3, _ => simp [Fr.put, Fr.be, Nat.mod_eq_of_lt (Fr.bt_lt _ _)]
  | 4, _ => simp [Fr.put, Fr.be, Nat.mod_eq_of_lt (Fr.bt_lt _ _)]
  | 5, _ => simp [Fr.put, Fr.be, Nat.mod_eq_of_lt (Fr.bt_lt _ _)]
  | 6, _ => simp [Fr.put, Fr.be, Nat.mod_eq_of_lt (Fr.bt_lt _ _)]
  | 7, _ => simp [Fr.put, Fr.be, Nat.mod_eq_of_lt (Fr.bt_lt _ _)]
theorem put_tail (l : List UInt8) (j : Nat) (hj : 8 ≤ j) : (Fr.put l).getD j 0 = l.getD (j - 8) 0 := by
  obtain ⟨k, rfl⟩ : ∃ k, j = k + 8 := ⟨j - 8, by omega⟩
  simp [Fr.put, Fr.be]
theorem put4_two (a b : Nat) (f : Nat → Value) (j : Nat) (hj : j < 8) : put4 b 4 4 (put4 a 0 4 f) j = .int .u8 ((if j < 4 then Fr.bt a j else Fr.bt b (j - 4) : Nat) : Int) := by
  unfold put4
  by_cases h : j < 4
  · rw [if_neg (by omega), if_pos (by omega), if_pos h]; rfl
  · rw [if_pos (by omega), if_neg h]
theorem frame_cells (l : List UInt8) (g : Nat) (w : World) (hr : w.rowIs g 5 (8 + l.length) (put4 (Crc.on 0 l) 4 4 (put4 l.length 0 4 fun _ => Value.int .u8 0))) (j : Nat) (hj : j < (Fr.put l).length) :
    (w.setCells g 8 (l.map fun x => Value.int .u8 (x.toNat : Int))).cell? ⟨g, j, none⟩ = some (.int .u8 ((Fr.put l)[j].toNat : Int)) := by
  have hj2 : j < 8 + l.length := by rw [← Fr.put_len]; exact hj
  have hgd : (Fr.put l)[j] = (Fr.put l).getD j 0 := by simp [List.getD, hj]
  rw [hgd]
  by_cases h8 : j < 8
  · rw [World.cell?_setCells_out g _ _ _ _ (fun _ _ => Or.inl h8), hr.cell hj2, put4_two _ _ _ _ h8, put_head l j h8]
  · obtain ⟨k, rfl⟩ : ∃ k, j = 8 + k := ⟨j - 8, by omega⟩
    rw [put_tail l _ (by omega), show 8 + k - 8 = k by omega]
    have hk : k < l.length := by omega
    have := World.cell?_setCells_in g (l.map fun x => Value.int .u8 (x.toNat : Int)) 8 w (fun i hi => by rw [hr.cell (by simp at hi; omega)]; rfl) k (by simpa using hk)
    rw [this]
    simp [List.getD, hk]
theorem below_setCells {w0 : World} (b : Nat) : ∀ (vs : List Value) (o : Nat) {w : World}, Below w0.heap.size w0 w → w0.heap.size ≤ b → Below w0.heap.size w0 (w.setCells b o vs)
  | [], _, _, h, _ => h
  | v :: vs, o, _, h, hb => below_setCells b vs (o + 1) (h.setCell hb v) hb
set_option maxHeartbeats 1000000 in
set_option maxRecDepth 100000 in
theorem put_good (s : ByteArray) (h : s.size ≤ 1024) (h0 : 0 < s.size) (w : World) : Calls Try.prog 32 #[.string s] w fun e w' => e = .returned (.tuple #[.string ⟨(Fr.put s.data.toList).toArray⟩, .int .i64 0]) ∧ Below w.heap.size w w' := by
  obtain ⟨i0, hi, hz0, hz1, hz2⟩ := info_parts infoB
  go_enter Try.func32, Try.ntmps32
  go_wp2_with (at_make; refine wpList_make_full _ rfl _ _ 24 rfl w.heap.size 5 i0 (.int .u8 0) 1 Try.underlying24 hi hz0 hz1 _ _ _ _ (8 + s.size) rfl rfl ?a1 ?a2 ?a3 ?a4 ?a5 ?_)
  case a1 => omega
  case a2 => omega
  case a3 => rw [hz2]; omega
  case a4 => unfold maxLen; omega
  case a5 => exact Nat.le_refl _
  intro w1 hown hgrow
  have hr1 := row_of_made hown
  have hb1 : Below w.heap.size w w1 := (Below.refl _ _).grown hgrow (Nat.le_refl _) (fun k hk => by simp at hk)
  clear hown hgrow
  generalize hgg : w.heap.size = g at hr1 ⊢
  have hB : w.heap.size ≤ g := by omega
  clear hgg
  go_wp2_with fail
  refine (put4_any 5 g 0 (8 + s.size) (8 + s.size) (8 + s.size) s.size (fun _ => .int .u8 0) _ hr1 (by omega) (by omega)).mono ?_
  rintro e w2 ⟨rfl, hr2, ho2, hs2⟩
  have hb2 := ho2.low hb1 hB
  have hgl := hr2.lt
  clear hr1 hb1 ho2 hs2
  have hq1 : (4 : Int) ≤ 8 + (s.size : Int) := by omega
  have hq2 : ¬ 8 + s.size = 4 := by omega
  go_wp2_with fail
  go_region_held3 (fun W => w.heap.size ≤ W.heap.size) (first | assumption | exact hb2.size) (first | (go_at_call 15; refine (of_any s _ (by unfold maxLen; omega)).mono ?_; rintro e w3 ⟨rfl, c3⟩; have hb3 := (hb2.drew).trans (c3.mono hb2.size); have hr3 : w3.rowIs g 5 (8 + s.size) (put4 s.size 0 4 fun x => Value.int .u8 0) := World.rowIs.of_block (w := w2) hr2 (c3.block g hgl); have hs3 := hb3.size) | (go_at_call 55; refine (put4_any 5 g 4 _ _ (8 + s.size) (Crc.on 0 s.data.toList) (put4 s.size 0 4 fun x => Value.int .u8 0) _ hr3 ?_ ?_).mono ?_; (omega); (omega); rintro e w4 ⟨rfl, hr4, ho4, hs4⟩; have hb4 := ho4.low hb3 hB; have hs5 := hb4.size))
  have hcp := run_copy_string (P := Try.prog) w4 24 9 3 5 g 8 s.size s.size s Try.underlying24 sizeB (Nat.le_refl _) (fun j hj => by rw [hr4.cell (by omega)]; rfl) (fun j hj => hr4.frozen _)
  have hb5 : Below w.heap.size w (w4.setCells g 8 (s.data.toList.map fun x => Value.int .u8 (x.toNat : Int))) := below_setCells _ _ _ hb4 hB
  have hlen : (Fr.put s.data.toList).length = 8 + s.size := by rw [Fr.put_len]; simp
  have hcv := run_convert_bytes_back (P := Try.prog) (w4.setCells g 8 (s.data.toList.map fun x => Value.int .u8 (x.toNat : Int))) 24 9 5 ⟨g, 0, none⟩ (8 + s.size) (Fr.put s.data.toList) Try.underlying24 Try.underlying5 Try.underlying9 (fun j hj => by
    rw [show (Addr.add ⟨g, 0, none⟩ j) = ⟨g, j, none⟩ from by simp [Addr.add]; omega]
    exact frame_cells s.data.toList g w4 (by rw [show s.data.toList.length = s.size by simp]; exact hr4) j hj)
  rw [hlen] at hcv
  have hq3 : (8 : Int) ≤ 8 + (s.size : Int) := by omega
  have hq4 : ¬ 8 + s.size = 8 := by omega
  have hq5 : 8 + s.size - 8 = s.size := by omega
  clear hr4 ho4 hs4 hs5 hb4 hr3 c3 hb3 hs3 hr2 hb2 hlen
  go_wp2
  go_ret2
  exact ⟨rfl, hb5⟩
set_option maxHeartbeats 1000000 in
set_option maxRecDepth 100000 in
theorem put_zero (w : World) : Calls Try.prog 32 #[.string ⟨#[]⟩] w fun e w' => e = .returned (.tuple #[.string ⟨(Fr.put []).toArray⟩, .int .i64 0]) ∧ Below w.heap.size w w' := by
  obtain ⟨i0, hi, hz0, hz1, hz2⟩ := info_parts infoB
  go_enter Try.func32, Try.ntmps32
  go_wp2_with (at_make; refine wpList_make_full _ rfl _ _ 24 rfl w.heap.size 5 i0 (.int .u8 0) 1 Try.underlying24 hi hz0 hz1 _ _ _ _ 8 rfl rfl ?a1 ?a2 ?a3 ?a4 ?a5 ?_)
  case a1 => rfl
  case a2 => rfl
  case a3 => rw [hz2]; omega
  case a4 => decide
  case a5 => exact Nat.le_refl _
  intro w1 hown hgrow
  have hr1 := row_of_made hown
  have hb1 : Below w.heap.size w w1 := (Below.refl _ _).grown hgrow (Nat.le_refl _) (fun k hk => by simp at hk)
  clear hown hgrow
  generalize hgg : w.heap.size = g at hr1 ⊢
  have hB : w.heap.size ≤ g := by omega
  clear hgg
  go_wp2_with fail
  refine (put4_any 5 g 0 8 8 8 0 (fun _ => .int .u8 0) _ hr1 (by omega) (by omega)).mono ?_
  rintro e w2 ⟨rfl, hr2, ho2, hs2⟩
  have hb2 := ho2.low hb1 hB
  have hgl := hr2.lt
  clear hr1 hb1 ho2 hs2
  go_wp2_with fail
  go_region_held3 (fun W => w.heap.size ≤ W.heap.size) (first | assumption | exact hb2.size) (first | (go_at_call 15; refine (of_any ⟨#[]⟩ _ (by decide)).mono ?_; rintro e w3 ⟨rfl, c3⟩; have hb3 := (hb2.drew).trans (c3.mono hb2.size); have hr3 : w3.rowIs g 5 8 (put4 0 0 4 fun x => Value.int .u8 0) := World.rowIs.of_block (w := w2) hr2 (c3.block g hgl); have hs3 := hb3.size) | (go_at_call 55; refine (put4_any 5 g 4 _ _ 8 (Crc.on 0 []) (put4 0 0 4 fun x => Value.int .u8 0) _ hr3 ?_ ?_).mono ?_; (omega); (omega); rintro e w4 ⟨rfl, hr4, ho4, hs4⟩; have hb4 := ho4.low hb3 hB; have hs5 := hb4.size))
  have hcp : (Builtin.copy_ #[24, 9] 3 #[.slice (some ⟨g, 0, none⟩) 0 0, .string ⟨#[]⟩]).run Try.prog w4 = .ok (goInt 0) w4 := run_copy_string (P := Try.prog) w4 24 9 3 5 g 0 0 0 ⟨#[]⟩ Try.underlying24 sizeB (Nat.le_refl _) (fun j hj => absurd hj (Nat.not_lt_zero j)) (fun j hj => absurd hj (Nat.not_lt_zero j))
  have hcv := run_convert_bytes_back (P := Try.prog) w4 24 9 5 ⟨g, 0, none⟩ 8 (Fr.put []) Try.underlying24 Try.underlying5 Try.underlying9 (fun j hj => by
    rw [show (Addr.add ⟨g, 0, none⟩ j) = ⟨g, j, none⟩ from by simp [Addr.add]; omega]
    exact frame_cells [] g w4 hr4 j hj)
  rw [show (Fr.put []).length = 8 from rfl] at hcv
  clear hr4 ho4 hs4 hs5 hr3 c3 hb3 hs3 hr2 hb2
  go_wp2
  go_ret2
  exact ⟨rfl, hb4⟩
/-- what frame.Put answers -/
def fp (s : ByteArray) : ByteArray × Int := if s.size ≤ 1024 then (⟨(Fr.put s.data.toList).toArray⟩, 0) else (⟨#[]⟩, 18)
theorem fput_any (s : ByteArray) (hs : s.size ≤ maxLen) (w : World) : Calls Try.prog 32 #[.string s] w fun e w' => e = .returned (.tuple #[.string (fp s).1, .int .i64 (fp s).2]) ∧ Below w.heap.size w w' := by
  by_cases h : s.size ≤ 1024
  · rw [show fp s = (⟨(Fr.put s.data.toList).toArray⟩, 0) by simp [fp, h]]
    by_cases h0 : s.size = 0
    · have : s = ⟨#[]⟩ := by apply ByteArray.ext; exact Array.eq_empty_of_size_eq_zero h0
      subst this
      exact put_zero w
    · exact put_good s h (by omega) w
  · rw [show fp s = (⟨#[]⟩, 18) by simp [fp, h]]
    exact (put_long s hs (by omega) w).mono fun _ _ ⟨he, hw⟩ => ⟨he, by rw [← hw]; exact Below.refl _ _⟩
end Go.Proofs.Ytgffoepnkpkhaaa
