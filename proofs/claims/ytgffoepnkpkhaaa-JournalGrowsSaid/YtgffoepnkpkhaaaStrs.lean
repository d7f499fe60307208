/- A slice of strings that came in; its beginnings. -/
import Derived.Test.YtgffoepnkpkhaaaTorn
import Derived.SliceStrings
import Derived.WideShapes
namespace Go.Proofs.Ytgffoepnkpkhaaa
open Go.ChangeShapes Go.RowKit

theorem plain_of_cell {W : World} {x : Addr} {v : Value} (h : W.cell? x = some v) : x = ⟨x.block, x.off, none⟩ := by
  obtain ⟨b, o, s⟩ := x
  cases s with
  | none => rfl
  | some s =>
    unfold World.cell? at h
    simp at h
    split at h <;> simp_all
theorem lt_of_cell {W : World} {b o : Nat} {v : Value} (h : W.cell? ⟨b, o, none⟩ = some v) : b < W.heap.size := by
  rcases Nat.lt_or_ge b W.heap.size with h' | h'
  · exact h'
  · simp [World.cell?, Array.getElem?_eq_none h'] at h
section
variable {H : Type} {enc : TypeId × Value → H}
theorem open_strs {W : World} {a : Option Addr} {n c : Nat} {d : DataW H} {p : List MemPlace} (h : DataW.Trod enc Try.prog W 0 (fun _ => true) true 54 (.slice a n c) d p) :
    ∃ l : List ByteArray, l.length = n ∧ Strs W (.slice a n c) l ∧ ∀ s ∈ l, s.size ≤ maxLen := by
  obtain ⟨fuel, hf⟩ := h
  rcases open_strings Try.underlying54 Try.underlying9 (by kernel_rfl) hf with ⟨hcs, _⟩ | ⟨x, l, c', ss, hcs, _, hl, hm, hss, _, hi, hs⟩
  · simp [Value.cells] at hcs
    obtain ⟨rfl, rfl, rfl⟩ := hcs
    exact ⟨[], rfl, ⟨none, 0, rfl, by simp, by decide, fun h => by simp at h⟩, by simp⟩
  · simp [Value.cells] at hcs
    obtain ⟨rfl, rfl, rfl⟩ := hcs
    simp only [if_true] at hss
    have hlen : (ss.take n).length = n := by rw [List.length_take]; omega
    refine ⟨ss.take n, hlen, ⟨some x, c, by rw [hlen], by omega, hm, fun h0 => ?_⟩, fun s h => hs s (List.mem_of_mem_take h)⟩
    have z0 := hi 0 (by omega)
    have hx : x = ⟨x.block, x.off, none⟩ := plain_of_cell (v := .string (ss.getD 0 ByteArray.empty)) (by simpa [Addr.add] using z0)
    refine ⟨x.block, x.off, by rw [← hx], ?_, fun i hin => ?_⟩
    · rw [hx] at z0
      exact lt_of_cell z0
    · have zi := hi i (by omega)
      rw [hx] at zi
      have : (ss.take n)[i] = ss.getD i ByteArray.empty := by
        rw [List.getElem_take, List.getD_eq_getElem?_getD, List.getElem?_eq_getElem (by omega)]; rfl
      rw [this, ← Go.WideShapes.add_plain]
      exact zi
end
theorem Strs.take {W : World} {a : Option Addr} {cap : Nat} {l : List ByteArray} (h : Strs W (.slice a l.length cap) l) (j : Nat) (hj : j ≤ l.length) : Strs W (.slice a j cap) (l.take j) := by
  obtain ⟨a', cap', hv, h1, h2, hc⟩ := h
  have hl : (l.take j).length = j := by rw [List.length_take]; omega
  obtain ⟨rfl, _, rfl⟩ : a = a' ∧ l.length = l.length ∧ cap = cap' := by simpa using hv
  refine ⟨a, cap, by rw [hl], by omega, h2, fun h0 => ?_⟩
  obtain ⟨b, off, ha, hlt, hcl⟩ := hc (by omega)
  refine ⟨b, off, ha, hlt, fun i hi => ?_⟩
  rw [List.getElem_take]
  exact hcl i (by omega)
/-- as lists of bytes -/
def lists (l : List ByteArray) : List (List UInt8) := l.map fun s => s.data.toList
theorem lists_len (l : List ByteArray) : (lists l).length = l.length := by simp [lists]
theorem recs_lists (l : List ByteArray) : recs (lists l) = l := by
  simp only [recs, lists, List.map_map]
  conv => rhs; rw [← List.map_id l]
  apply List.map_congr_left
  intro s _
  rfl
theorem lists_take (l : List ByteArray) (j : Nat) : lists (l.take j) = (lists l).take j := by simp [lists, List.map_take]
theorem lists_at (l : List ByteArray) (j : Nat) (h : j < l.length) : (lists l)[j]'(by rw [lists_len]; exact h) = l[j].data.toList := by simp [lists]
theorem lists_append (l m : List ByteArray) : lists (l ++ m) = lists l ++ lists m := by simp [lists]
/-- the frames of some records -/
def frames (l : List ByteArray) : ByteArray := ⟨(Fr.cat (lists l)).toArray⟩
theorem frames_list (l : List ByteArray) : (frames l).data.toList = Fr.cat (lists l) := rfl
theorem frames_nil : frames [] = ⟨#[]⟩ := rfl
theorem frames_snoc (l : List ByteArray) (x : ByteArray) : frames l ++ ⟨(Fr.put x.data.toList).toArray⟩ = frames (l ++ [x]) := by
  apply ByteArray.ext
  apply Array.ext'
  rw [list_cat, frames_list, frames_list, lists_append]
  exact (Fr.cat_snoc _ _).symm
theorem frames_take (l : List ByteArray) (k : Nat) (h : k < l.length) : frames (l.take k) ++ ⟨(Fr.put l[k].data.toList).toArray⟩ = frames (l.take (k + 1)) := by
  rw [frames_snoc, List.take_succ_eq_append_getElem h]
theorem frames_size (l : List ByteArray) (h : ∀ s ∈ l, s.size ≤ 1024) : (frames l).size ≤ 1032 * l.length := by
  show (Fr.cat (lists l)).toArray.size ≤ _
  rw [List.size_toArray]
  induction l with
  | nil => simp [lists, Fr.cat]
  | cons x l ih =>
    have h1 := h x (by simp)
    have h2 := ih (fun s hs => h s (by simp [hs]))
    have h3 : (Fr.put x.data.toList).length = 8 + x.size := by rw [Fr.put_len]; simp
    simp only [lists, List.map_cons, Fr.cat, List.length_append, List.length_cons] at h2 ⊢
    omega
def offs (l : List ByteArray) (j : Nat) : Nat := Fr.off (lists l) j
theorem offs_zero (l : List ByteArray) : offs l 0 = 0 := Fr.off_zero _
theorem offs_succ (l : List ByteArray) (j : Nat) (h : j < l.length) : offs l (j + 1) = offs l j + 8 + l[j].size := by
  unfold offs
  rw [Fr.off_succ _ j (by rw [lists_len]; exact h), lists_at l j h]
  simp
theorem offs_len (l : List ByteArray) : offs l l.length = (frames l).size := by
  unfold offs
  have := Fr.off_len (lists l)
  rw [lists_len] at this
  rw [this, frames]
  show _ = (Fr.cat (lists l)).toArray.size
  simp
/-- frames that are cut off -/
theorem torn_all (l : List ByteArray) (hl : ∀ s ∈ l, s.size ≤ 1024) (j k : Nat) (hj : j ≤ l.length) (h1 : offs l j ≤ k) (h2 : k ≤ (frames l).size) (h3 : j = l.length ∨ k < offs l (j + 1)) :
    recs (Fr.all ((frames l).extract 0 k).data.toList).1 = l.take j ∧ (Fr.all ((frames l).extract 0 k).data.toList).2.1 = offs l j ∧ (Fr.all ((frames l).extract 0 k).data.toList).2.2 = if offs l j < k then 4 else 0 := by
  have ht := Fr.torn j (lists l) k (by
    intro x hx
    simp only [lists, List.mem_map] at hx
    obtain ⟨s, hs, rfl⟩ := hx
    have := hl s hs
    simpa using this) (by rw [lists_len]; exact hj) h1 (by
      have : (frames l).size = (Fr.cat (lists l)).length := by show (Fr.cat (lists l)).toArray.size = _; simp
      omega) (by rw [lists_len]; exact h3)
  have e : ((frames l).extract 0 k).data.toList = (Fr.cat (lists l)).take k := by rw [list_extract, frames_list]; simp
  rw [e, ht]
  dsimp only
  refine ⟨?_, rfl, rfl⟩
  rw [← lists_take, recs_lists]
theorem whole_all (l : List ByteArray) (hl : ∀ s ∈ l, s.size ≤ 1024) : recs (Fr.all (frames l).data.toList).1 = l ∧ (Fr.all (frames l).data.toList).2.1 = (frames l).size ∧ (Fr.all (frames l).data.toList).2.2 = 0 := by
  have h := Fr.all_cat (lists l) (by
    intro x hx
    simp only [lists, List.mem_map] at hx
    obtain ⟨s, hs, rfl⟩ := hx
    have := hl s hs
    simpa using this)
  rw [frames_list, h]
  refine ⟨recs_lists l, ?_, rfl⟩
  show _ = (Fr.cat (lists l)).toArray.size
  simp
end Go.Proofs.Ytgffoepnkpkhaaa
