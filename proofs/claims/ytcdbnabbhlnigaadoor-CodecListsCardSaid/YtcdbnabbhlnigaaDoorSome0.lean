/- A slice of commands that a walk makes; a slice of commands that came in. -/
import Derived.Test.YtcdbnabbhlnigaaDoorSame
import Derived.Test.YtcdbnabbhlnigaaDoorOpen2
import Derived.Laws.AppendOwn
import Derived.Deep.SlicePairs
namespace Go.Proofs.YtcdbnabbhlnigaaDoor
open Go.RowKit

def c7 (c : Cm) : List Value := [.int .i64 c.kd, .int .i64 c.id, .int .i64 c.mb, .int .i64 c.ot, .int .i64 c.sc, .int .i64 c.qt, .int .i64 c.pr]
def cs7 (cs : List Cm) : List Value := (cs.map c7).flatten
theorem cs7_snoc (cs : List Cm) (c : Cm) : cs7 (cs ++ [c]) = cs7 cs ++ c7 c := by simp [cs7]
theorem cs7_len (cs : List Cm) : (cs7 cs).length = cs.length * 7 := by
  induction cs with
  | nil => rfl
  | cons c cs ih =>
    simp only [cs7, List.map_cons, List.flatten_cons, List.length_append, List.length_cons] at ih ⊢
    rw [ih]; simp [c7]; omega
theorem cs7_at (cs : List Cm) : ∀ (i : Nat) (h : i < cs.length) (j : Nat), j < 7 → (cs7 cs)[i * 7 + j]? = (c7 cs[i])[j]? := by
  induction cs with
  | nil => intro i h; simp at h
  | cons c cs ih =>
    intro i h j hj
    have hc : cs7 (c :: cs) = c7 c ++ cs7 cs := by simp [cs7]
    rw [hc]
    cases i with
    | zero => rw [List.getElem?_append_left (by simp [c7]; omega)]; simp
    | succ i =>
      rw [List.getElem?_append_right (by simp [c7]; omega)]
      have := ih i (by simpa using h) j hj
      rw [show (i + 1) * 7 + j - (c7 c).length = i * 7 + j from by simp [c7]; omega, this]
      rfl
theorem Cms.own {W : World} {base : Nat} {v : Value} {cs : List Cm} (h : W.ownsRow base 29 7 v cs.length (cs7 cs)) : Cms W v cs := by
  obtain ⟨hl, hv⟩ := h
  rcases hv with ⟨rfl, h0⟩ | ⟨g, cap, cur, rfl, _, hg, h1, h2, h3, h4⟩
  · exact ⟨none, 0, by rw [h0], by omega, by unfold maxLen; omega, fun h => by omega⟩
  · refine ⟨some ⟨g, 0, none⟩, cap, rfl, h1, h2, fun h0 => ⟨g, 0, rfl, ?_, fun i hi => ?_⟩⟩
    · rcases Nat.lt_or_ge g W.heap.size with h' | h'
      · exact h'
      · simp [Array.getElem?_eq_none h'] at hg
    · have hk : ∀ j, j < 7 → W.cell? ⟨g, 0 + i * 7 + j, none⟩ = (c7 cs[i])[j]? := by
        intro j hj
        have e1 := cs7_at cs i hi j hj
        have hlt : i * 7 + j < cs.length * 7 := by omega
        rw [← h4, List.getElem?_take, if_pos hlt] at e1
        rw [← e1]
        simp [World.cell?, hg]
      refine ⟨?_, ?_, ?_, ?_, ?_, ?_, ?_⟩
      · exact hk 0 (by omega)
      · exact hk 1 (by omega)
      · exact hk 2 (by omega)
      · exact hk 3 (by omega)
      · exact hk 4 (by omega)
      · exact hk 5 (by omega)
      · exact hk 6 (by omega)
theorem own_only {w w' : World} {b base : Nat} {v : Value} {n : Nat} {xs : List Value} (h : w.ownsRow base 29 7 v n xs) (ho : Only b w w') (hb : b < base) : w'.ownsRow base 29 7 v n xs := by
  obtain ⟨hl, hv⟩ := h
  refine ⟨hl, ?_⟩
  rcases hv with hv | ⟨g, cap, cur, rfl, hg0, hg, hr⟩
  · exact Or.inl hv
  · refine Or.inr ⟨g, cap, cur, rfl, hg0, ?_, hr⟩
    have hlt : g < w.heap.size := by
      rcases Nat.lt_or_ge g w.heap.size with h' | h'
      · exact h'
      · simp [Array.getElem?_eq_none h'] at hg
    rw [ho.far g hlt (by omega), hg]
theorem own_base {w : World} {base : Nat} {v : Value} {n : Nat} {xs : List Value} (h : w.ownsRow base 29 7 v n xs) : ∀ k, v.ownBlock = some k → base ≤ k := fun k hk => (h.lt k hk).1
theorem Cms.nil (W : World) : Cms W (.slice none 0 0) [] := ⟨none, 0, rfl, by simp, by unfold maxLen; omega, fun h => by simp at h⟩
theorem Cms.alloc {W : World} {v : Value} {cs : List Cm} (h : Cms W v cs) (o : Obj) : Cms (W.alloc o) v cs := h.keep ((Below.refl _ _).alloc (Nat.le_refl _) _)
section
open Go.Joins Go.ChangeShapes Go.WideShapes Go.Deep
variable {H : Type} {enc : TypeId × Value → H}
theorem plain_of_cell {W : World} {x : Addr} {v : Value} (h : W.cell? x = some v) : x = ⟨x.block, x.off, none⟩ := by
  obtain ⟨b, o, s⟩ := x
  cases s with
  | none => rfl
  | some s =>
    unfold World.cell? at h
    simp at h
    split at h <;> simp_all
theorem lt_of_cell {W : World} {b o : Nat} {v : Value} (h : W.cell? ⟨b, o, none⟩ = some v) : b < W.heap.size := by
  rcases Nat.lt_or_ge b W.heap.size with h' | h'
  · exact h'
  · simp [World.cell?, Array.getElem?_eq_none h'] at h
theorem one_cmd {W : World} {n c fuel : Nat} {x : Addr} {dp : DataW H × List MemPlace} (hf : DataW.trod enc Tryd.prog W 0 (fun _ => true) true fuel 39 [.slice (some x) n c] = some dp) (i : Nat) (hi : i < n) :
    ∃ y : Cm, (W.cell? (x.add (i * 7 + 0)) = some (.int .i64 y.kd) ∧ W.cell? (x.add (i * 7 + 1)) = some (.int .i64 y.id) ∧ W.cell? (x.add (i * 7 + 2)) = some (.int .i64 y.mb) ∧ W.cell? (x.add (i * 7 + 3)) = some (.int .i64 y.ot) ∧ W.cell? (x.add (i * 7 + 4)) = some (.int .i64 y.sc) ∧ W.cell? (x.add (i * 7 + 5)) = some (.int .i64 y.qt) ∧ W.cell? (x.add (i * 7 + 6)) = some (.int .i64 y.pr)) ∧ y.Fit := by
  rcases open_slice_fields Tryd.underlying39 Tryd.underlying29 (by kernel_rfl) (by kernel_rfl) hf with ⟨hcs, _⟩ | ⟨x', l, c', m, D, Pl, hcs, _, hl, hm, hmm, _, hi'⟩
  · simp at hcs
  · simp at hcs
    obtain ⟨rfl, rfl, rfl⟩ := hcs
    simp only [if_true] at hmm
    obtain ⟨ys, n', _, _, hyl, hat⟩ := hi' i (by omega)
    obtain ⟨v0, y0, z0, _, t0⟩ := hat 0 _ rfl
    obtain ⟨v1, y1, z1, _, t1⟩ := hat 1 _ rfl
    obtain ⟨v2, y2, z2, _, t2⟩ := hat 2 _ rfl
    obtain ⟨v3, y3, z3, _, t3⟩ := hat 3 _ rfl
    obtain ⟨v4, y4, z4, _, t4⟩ := hat 4 _ rfl
    obtain ⟨v5, y5, z5, _, t5⟩ := hat 5 _ rfl
    obtain ⟨v6, y6, z6, _, t6⟩ := hat 6 _ rfl
    obtain ⟨a0, e0, _, w0⟩ := DataW.trod_int Tryd.underlying3 t0
    obtain ⟨a1, e1, _, w1⟩ := DataW.trod_int Tryd.underlying2 t1
    obtain ⟨a2, e2, _, w2⟩ := DataW.trod_int Tryd.underlying3 t2
    obtain ⟨a3, e3, _, w3⟩ := DataW.trod_int Tryd.underlying3 t3
    obtain ⟨a4, e4, _, w4⟩ := DataW.trod_int Tryd.underlying3 t4
    obtain ⟨a5, e5, _, w5⟩ := DataW.trod_int Tryd.underlying2 t5
    obtain ⟨a6, e6, _, w6⟩ := DataW.trod_int Tryd.underlying2 t6
    simp at e0 e1 e2 e3 e4 e5 e6
    subst e0 e1 e2 e3 e4 e5 e6
    exact ⟨⟨a0, a1, a2, a3, a4, a5, a6⟩, ⟨z0, z1, z2, z3, z4, z5, z6⟩, fit64 w0, fit64 w1, fit64 w2, fit64 w3, fit64 w4, fit64 w5, fit64 w6⟩
theorem open_cmds {W : World} {a : Option Addr} {n c : Nat} {d : DataW H} {p : List MemPlace} (h : DataW.Trod enc Tryd.prog W 0 (fun _ => true) true 39 (.slice a n c) d p) : ∃ l : List Cm, l.length = n ∧ Cms W (.slice a n c) l ∧ FitAll l := by
  obtain ⟨fuel, hf⟩ := h
  have hf' : DataW.trod enc Tryd.prog W 0 (fun _ => true) true fuel 39 [.slice a n c] = some (d, p) := by simpa [Value.cells] using hf
  rcases open_slice_fields Tryd.underlying39 Tryd.underlying29 (by kernel_rfl) (by kernel_rfl) hf' with ⟨hcs, _⟩ | ⟨x, l, c', m, D, Pl, hcs, _, hl, hm, hmm, _, hi⟩
  · simp at hcs
    obtain ⟨rfl, rfl, rfl⟩ := hcs
    exact ⟨[], rfl, Cms.nil W, fun c hc => by simp at hc⟩
  · simp at hcs
    obtain ⟨rfl, rfl, rfl⟩ := hcs
    have hall : ∀ i, ∃ y : Cm, i < n → ((W.cell? (x.add (i * 7 + 0)) = some (.int .i64 y.kd) ∧ W.cell? (x.add (i * 7 + 1)) = some (.int .i64 y.id) ∧ W.cell? (x.add (i * 7 + 2)) = some (.int .i64 y.mb) ∧ W.cell? (x.add (i * 7 + 3)) = some (.int .i64 y.ot) ∧ W.cell? (x.add (i * 7 + 4)) = some (.int .i64 y.sc) ∧ W.cell? (x.add (i * 7 + 5)) = some (.int .i64 y.qt) ∧ W.cell? (x.add (i * 7 + 6)) = some (.int .i64 y.pr)) ∧ y.Fit) := by
      intro i
      by_cases hin : i < n
      · obtain ⟨y, hy⟩ := one_cmd hf' i hin
        exact ⟨y, fun _ => hy⟩
      · exact ⟨zeroC, fun h => absurd h hin⟩
    obtain ⟨f, hff⟩ := Classical.axiomOfChoice hall
    have hlen : ((List.range n).map f).length = n := by simp
    refine ⟨(List.range n).map f, hlen, ⟨some x, c, by rw [hlen], by rw [hlen]; exact hl, hm, fun h0 => ?_⟩, fun y hy => ?_⟩
    · rw [hlen] at h0
      obtain ⟨⟨z0, _⟩, _⟩ := hff 0 h0
      have hx : x = ⟨x.block, x.off, none⟩ := plain_of_cell (v := .int .i64 (f 0).kd) (by simpa [Addr.add] using z0)
      refine ⟨x.block, x.off, by rw [← hx], ?_, fun i hin => ?_⟩
      · rw [hx] at z0
        exact lt_of_cell (o := x.off + (0 * 7 + 0)) (by rw [← add_plain]; exact z0)
      · rw [hlen] at hin
        obtain ⟨⟨g0, g1, g2, g3, g4, g5, g6⟩, _⟩ := hff i hin
        rw [hx, add_plain] at g0 g1 g2 g3 g4 g5 g6
        simp only [List.getElem_map, List.getElem_range]
        exact ⟨g0, by rw [Nat.add_assoc]; exact g1, by rw [Nat.add_assoc]; exact g2, by rw [Nat.add_assoc]; exact g3, by rw [Nat.add_assoc]; exact g4, by rw [Nat.add_assoc]; exact g5, by rw [Nat.add_assoc]; exact g6⟩
    · simp only [List.mem_map, List.mem_range] at hy
      obtain ⟨i, hi, rfl⟩ := hy
      exact (hff i hi).2
end
end Go.Proofs.YtcdbnabbhlnigaaDoor
