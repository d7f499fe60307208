/- Helpers of all laws of this seat: what the row's condition on codec.words gives; the door's own heap meets it. -/
import Derived.Test.YtcdbnabbhlnigaaDoorRows
import Derived.Test.YtcdbnabbhlnigaaDoorCards
import Derived.Test.YtcdbnabbhlnigaaDoorTie
import Derived.Test.YtcdbnabbhlnigaaDoorWord
import Derived.WalkKit
import Derived.ProofKit
import Derived.LaidMore
import Derived.OpenShut
import Derived.ShutString
import Derived.ChangeSame
import Derived.Stop.Joined
import Derived.SevenTiedAt
import Derived.Carry
namespace Go.Proofs.YtcdbnabbhlnigaaDoor
open Go.ChangeShapes Go.WideShapes Go.ChangeAt Go.RowKit

theorem own : ownKnob Tryd.prog.godebug = none := by kernel_rfl
theorem gWords : Tryd.prog.globalNamed "compline/codec.words" = some 0 := by kernel_rfl
theorem tWords : (Tryd.prog.globals[0]?).map (·.type) = some 45 := by kernel_rfl
def wlaid : List (String × DataW Unit) := [("compline/codec.words", Rows.laid_compline_codec_words)]
theorem door_met (os : Os) (args : Array Value) : laidMetH Tryd.prog wlaid ((World.doorLaid Tryd.prog 400 os).forCall (fun _ _ => 0) ⟨#[], args, []⟩).memory :=
  laidMetH_of_parts3 (fuel := 8) (laidMet_of_run' 8 (by kernel_rfl) (by kernel_rfl)) (by kernel_rfl) (by kernel_rfl)
theorem laid_at (i : Nat) (hi : i < 11) : ∃ l : List UInt8, (wd i).data.toList = l ∧ ([.lit (.string []), .lit (.string [111, 112, 101, 110]), .lit (.string [116, 114, 97, 100, 101]), .lit (.string [99, 97, 110, 99, 101, 108]), .lit (.string [112, 97, 121]), .lit (.string [100, 101, 108, 105, 118, 101, 114]), .lit (.string [114, 101, 99, 97, 108, 108]), .lit (.string [98, 105, 100]), .lit (.string [116, 111, 112]), .lit (.string [100, 114, 97, 119]), .lit (.string [116, 105, 99, 107])] : List (DataW Unit))[i]? = some (.lit (.string l)) := by
  obtain rfl | rfl | rfl | rfl | rfl | rfl | rfl | rfl | rfl | rfl | rfl : i = 0 ∨ i = 1 ∨ i = 2 ∨ i = 3 ∨ i = 4 ∨ i = 5 ∨ i = 6 ∨ i = 7 ∨ i = 8 ∨ i = 9 ∨ i = 10 := by omega
  all_goals exact ⟨_, rfl, rfl⟩
theorem of_laid {W : World} (h : laidMetH Tryd.prog wlaid W) : Words W := by
  rw [MakeChecks.laidMetH_plain _ _ _ (by kernel_rfl)] at h
  obtain ⟨ps, ⟨g0, t0, cs0, f0, p0, q0, hg0, ht0, hv0, hd0, _, _⟩, _, _⟩ := h
  obtain rfl := Option.some.inj (gWords.symm.trans hg0)
  obtain rfl := Option.some.inj (tWords.symm.trans ht0)
  obtain ⟨xs, m1, rfl, hx1, hlen, hn, hel⟩ := DataW.trod_array Tryd.underlying45 hd0
  have c9 : Tryd.prog.cellsOf 9 = 1 := by kernel_rfl
  have c45 : Tryd.prog.cellsOf 45 = 11 := by kernel_rfl
  rw [c45] at hlen
  have hc : ∀ i, i < 11 → W.cell? ⟨0, i, none⟩ = some (.string (wd i)) := by
    intro i hi
    have hi2 := hel i hi
    rw [c9, Nat.mul_one] at hi2
    have hxi : xs[i]? = some (xs[i]'(by omega)) := List.getElem?_eq_getElem (by omega)
    rw [hxi] at hi2
    obtain ⟨s, e1, e2, _⟩ := DataW.trod_string Tryd.underlying9 hi2
    obtain ⟨l, hl1, hl2⟩ := laid_at i hi
    have hd : (xs.map (·.1))[i]? = some (.lit (.string l)) := by
      have := congrArg Prod.fst hx1
      rw [← hl2]
      exact congrArg (fun z => match z with | .agg ys => ys[i]? | _ => none) this.symm
    rw [List.getElem?_map, hxi] at hd
    rw [e2] at hd
    simp at hd
    have hs : s = wd i := by
      apply ByteArray.ext
      apply Array.ext'
      rw [hl1, ← hd]
    have hcell := World.var?_cell hg0 hv0 i
    rw [hcell]
    have hdr : (cs0.toList.drop i).take 1 = [cs0.toList[i]'(by omega)] := by
      rw [List.drop_eq_getElem_cons (by omega)]; rfl
    rw [hdr] at e1
    simp at e1
    rw [← hs, ← e1]
    simp
  refine ⟨?_, hc⟩
  have h0 := hc 0 (by omega)
  rcases Nat.lt_or_ge 0 W.heap.size with h' | h'
  · exact h'
  · simp [World.cell?, Array.getElem?_eq_none h'] at h0
end Go.Proofs.YtcdbnabbhlnigaaDoor
