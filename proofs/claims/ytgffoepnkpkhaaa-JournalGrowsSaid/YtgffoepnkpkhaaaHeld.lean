/- A disk that lies in a block of its own, carried over calls that write nothing old. -/
import Derived.Test.YtgffoepnkpkhaaaDisk6
namespace Go.Proofs.Ytgffoepnkpkhaaa
open Go.RowKit

def Held (W : World) (g : Nat) (k : Dk) : Prop := W.heap[g]? = some (.cells (dcells k) 32 (0, 0))
theorem Held.lt {W : World} {g : Nat} {k : Dk} (h : Held W g k) : g < W.heap.size := by
  unfold Held at h
  rcases Nat.lt_or_ge g W.heap.size with h' | h'
  · exact h'
  · simp [Array.getElem?_eq_none h'] at h
theorem Held.keep {W W' : World} {g : Nat} {k : Dk} (h : Held W g k) (hb : Below W.heap.size W W') : Held W' g k := (hb.block g h.lt).trans h
theorem Held.alloc {W : World} {g : Nat} {k : Dk} (h : Held W g k) (o : Obj) : Held (W.alloc o) g k := (Below.heap_alloc W o g h.lt).trans h
theorem Held.new (W : World) (k : Dk) : Held (W.alloc (.cells (dcells k) 32)) W.heap.size k := heap_alloc_new _ _
theorem Held.cells {W : World} {g : Nat} {s u : ByteArray} {f : Int} {d : Bool} (h : Held W g ⟨s, u, f, d⟩) :
    W.cell? ⟨g, 0, none⟩ = some (.string s) ∧ W.cell? ⟨g, 1, none⟩ = some (.string u) ∧ W.cell? ⟨g, 2, none⟩ = some (.int .i64 f) ∧ W.cell? ⟨g, 3, none⟩ = some (.bool d) := row4 h
theorem Held.far {w0 w W : World} {g j : Nat} {k q : Dk} (h : Held w j q) (hp : Put4 w0 w g k W) (hj : j ≠ g) : Held W j q := (hp.far j hj).trans h
theorem Put4.held {w0 w W : World} {g : Nat} {k : Dk} (hp : Put4 w0 w g k W) : Held W g k := hp.row
end Go.Proofs.Ytgffoepnkpkhaaa
