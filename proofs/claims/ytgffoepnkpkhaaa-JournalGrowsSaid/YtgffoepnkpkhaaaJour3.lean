/- The walk of complinelaw12.made: a disk with some records. -/
import Derived.Test.YtgffoepnkpkhaaaJour2
import Derived.Deep.RegionHeld3
import Derived.Deep.RegionLaw
namespace Go.Proofs.Ytgffoepnkpkhaaa
open Go.RowKit

def Short (l : List ByteArray) : Prop := ∀ s ∈ l, s.size ≤ 100
def MadePost (l : List ByteArray) (w : World) (e : Ending) (w' : World) : Prop :=
  (Short l → e = .returned (.tuple #[dval ⟨frames l, ⟨#[]⟩, -1, false⟩, .bool true])) ∧ (¬ Short l → ∃ d, e = .returned (.tuple #[dval d, .bool false])) ∧ Below w.heap.size w w'
structure MadeRel (l : List ByteArray) (w wr : World) (k : Nat) : Prop where
  d : Held wr (w.heap.size + 1) ⟨frames (l.take k), ⟨#[]⟩, -1, false⟩
  r : Held wr w.heap.size ⟨⟨#[]⟩, ⟨#[]⟩, 0, false⟩
  low : Below w.heap.size w wr
  all : Short (l.take k)
theorem short_snoc {l : List ByteArray} {k : Nat} (h : k < l.length) (hall : Short (l.take k)) (hk : l[k].size ≤ 100) : Short (l.take (k + 1)) := by
  intro s hs
  rw [List.take_succ_eq_append_getElem h, List.mem_append, List.mem_singleton] at hs
  rcases hs with hs | rfl
  · exact hall s hs
  · exact hk
theorem short_big {l : List ByteArray} (h : Short l) : ∀ s ∈ l, s.size ≤ 1024 := fun s hs => by have := h s hs; omega
theorem hfree0 {W : World} {g : Nat} {k : Dk} (h : Held W g k) : W.frozen? ⟨g, 0, none⟩ = false := by
  unfold Held at h
  simp [World.frozen?, h]
set_option maxHeartbeats 4000000 in
set_option maxRecDepth 100000 in
theorem made_any (v : Value) (l : List ByteArray) (hl : l.length ≤ 12) (hms : ∀ s ∈ l, s.size ≤ maxLen) (w : World) (hS : Strs w v l) : Calls Try.prog 43 #[v] w (MadePost l w) := by
  obtain ⟨a, cap, rfl, hc1, hc2, hcell⟩ := hS
  unfold maxLen at hc2 hms
  have HCELL := Lib.hid hcell
  have HMS := Lib.hid hms
  clear hcell hms
  have h0 : MadeRel l w ((w.alloc (.cells (dcells ⟨⟨#[]⟩, ⟨#[]⟩, 0, false⟩) 32)).alloc (.cells (dcells ⟨⟨#[]⟩, ⟨#[]⟩, -1, false⟩) 32)) 0 :=
    ⟨heap_alloc2_new _ _ _, heap_alloc2_old _ _ _, ((Below.refl _ _).alloc (Nat.le_refl _) _).alloc (by simp) _, by intro s hs; simp at hs⟩
  dsimp only [dcells] at h0
  go_enter Try.func43, Try.ntmps43
  go_wp2
  generalize ((w.alloc (.cells #[.string ⟨#[]⟩, .string ⟨#[]⟩, .int .i64 0, .bool false] 32)).alloc (.cells #[.string ⟨#[]⟩, .string ⟨#[]⟩, .int .i64 (-1), .bool false] 32)) = W1 at *
  go_loopw [5] (fun i wr => ∃ k : Nat, k ≤ l.length ∧ i = .int .i64 k ∧ MadeRel l w wr k) (fun i _ => l.length - (intOf i).toNat)
  case atStart => exact ⟨0, Nat.zero_le _, rfl, h0⟩
  case round =>
    obtain ⟨k, hk, rfl, hd, hr, hbel, hall⟩ := hrel
    have HALL := Lib.hid hall
    have HD := Lib.hid hd
    have HR := Lib.hid hr
    have hfs := frames_size _ (short_big hall)
    have htk : (l.take k).length ≤ 12 := by rw [List.length_take]; omega
    have hltD := hd.lt
    obtain ⟨p0, p1, p2, p3⟩ := hd.cells
    clear hall hd hr
    have hne1 : w.heap.size + 1 ≠ w.heap.size := by omega
    by_cases hlt : k < l.length
    · obtain ⟨b, off, rfl, hbl, hcl⟩ := HCELL.out (by omega)
      have hc0 := hcl k hlt
      have g0 := (hbel.cell (p := ⟨b, off + k, none⟩) hbl).trans hc0
      have hxm := HMS.out l[k] (List.getElem_mem hlt)
      have hi1 : (0 : Int) ≤ (k : Int) := by omega
      have hi2 : (k : Int) < (l.length : Int) := by omega
      clear hcl
      by_cases hx : l[k].size ≤ 100
      · have HF := Lib.hid (frames_take l k hlt)
        have HSH := Lib.hid (short_snoc hlt HALL.out hx)
        generalize l[k] = x at *
        have hsum : ¬ (9223372036854775807 < (frames (l.take k)).size + (8 + x.size)) := by omega
        generalize frames (l.take k) = fr at *
        go_wp2_with fail
        go_region_with ((go_at_call 35; refine (refput_any x (by omega) _).mono ?_; rintro e x1 ⟨rfl, c1⟩; have HD1 := Lib.hid (Held.keep (W := wr.drew) HD.out c1); have HR1 := Lib.hid (Held.keep (W := wr.drew) HR.out c1); obtain ⟨e0, e1, e2, e3⟩ := HD1.out.cells; have f0 := hfree0 HD1.out; have b1 := hbel.drew.trans (c1.mono hbel.drew.size); have hps : (ByteArray.mk (Fr.put x.data.toList).toArray).size = 8 + x.size := by (show (Fr.put x.data.toList).toArray.size = _; rw [List.size_toArray, Fr.put_len]; simp)))
        all_goals
          have HD2 := Lib.hid (show Held (x1.setCell ⟨w.heap.size + 1, 0, none⟩ (.string (fr ++ ⟨(Fr.put x.data.toList).toArray⟩))) (w.heap.size + 1) ⟨fr ++ ⟨(Fr.put x.data.toList).toArray⟩, ⟨#[]⟩, -1, false⟩ from heap_setCell_same _ (w.heap.size + 1) 0 _ 32 _ HD1.out)
          have HR2 := Lib.hid (show Held (x1.setCell ⟨w.heap.size + 1, 0, none⟩ (.string (fr ++ ⟨(Fr.put x.data.toList).toArray⟩))) w.heap.size ⟨⟨#[]⟩, ⟨#[]⟩, 0, false⟩ from (Below.heap_setCell x1 ⟨w.heap.size + 1, 0, none⟩ _ w.heap.size (by simp)).trans HR1.out)
          have b2 := b1.setCell (p := ⟨w.heap.size + 1, 0, none⟩) (by simp) (.string (fr ++ ⟨(Fr.put x.data.toList).toArray⟩))
          clear HD1 HR1 b1 c1 e0 e1 e2 e3 f0 p0 p1 p2 p3 HD HR hbel g0 hc0 hps
          generalize (x1.setCell ⟨w.heap.size + 1, 0, none⟩ (.string (fr ++ ⟨(Fr.put x.data.toList).toArray⟩))) = W3 at *
          go_wp2_with fail
          go_roundw
          case rel => exact ⟨k + 1, by omega, by go_num, by rw [← HF.out]; exact HD2.out, HR2.out, b2, HSH.out⟩
          case measure => simp [intOf]; omega
      · have HNS : Hid (¬ Short l) := Lib.hid (fun h => hx (h _ (List.getElem_mem hlt)))
        generalize l[k] = x at *
        generalize frames (l.take k) = fr at *
        go_wp2_with (refine store_dk rfl _ _ rfl rfl w w.heap.size ⟨fr, ⟨#[]⟩, -1, false⟩ rfl rfl _ HR.out rfl hbel (Nat.le_refl _) ?_; intro W5 P5; obtain ⟨q0, q1, q2, q3⟩ := Held.cells (Put4.held P5))
        exact bodyPost_ret (v := .tuple #[dval ⟨fr, ⟨#[]⟩, -1, false⟩, .bool false]) (by simp [results, Try.results43, go_sem, q0, q1, q2, q3]) rfl ⟨fun h => absurd h HNS.out, fun _ => ⟨_, rfl⟩, P5.low⟩
    · rw [List.take_of_length_le (by omega)] at HALL HD p0
      generalize hfr : frames l = fr at *
      have HFR := Lib.hid hfr
      clear hfr
      go_wp2_with (refine store_dk rfl _ _ rfl rfl w w.heap.size ⟨fr, ⟨#[]⟩, -1, false⟩ rfl rfl _ HR.out rfl hbel (Nat.le_refl _) ?_; intro W5 P5; obtain ⟨q0, q1, q2, q3⟩ := Held.cells (Put4.held P5))
      exact bodyPost_ret (v := .tuple #[dval ⟨fr, ⟨#[]⟩, -1, false⟩, .bool true]) (by simp [results, Try.results43, go_sem, q0, q1, q2, q3]) rfl ⟨fun _ => by rw [HFR.out], fun h => absurd HALL.out h, P5.low⟩
end Go.Proofs.Ytgffoepnkpkhaaa
