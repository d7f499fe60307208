/- The page's example of layer 9. -/
import Derived.Test.YtgffoepnkpkhaaaDisk5
import Derived.Great.BuildSlice
import Derived.Laws.CopyOwn
namespace Go.Proofs.Ytgffoepnkpkhaaa
open Go.RowKit

theorem row4 {W : World} {g : Nat} {a b c d : Value} {t : TypeId} (h : W.heap[g]? = some (.cells #[a, b, c, d] t (0, 0))) :
    W.cell? ⟨g, 0, none⟩ = some a ∧ W.cell? ⟨g, 1, none⟩ = some b ∧ W.cell? ⟨g, 2, none⟩ = some c ∧ W.cell? ⟨g, 3, none⟩ = some d := by
  refine ⟨?_, ?_, ?_, ?_⟩ <;> simp [World.cell?, h]
/-- a store of a whole disk into a block of the call's own -/
theorem stored4 {w w2 : World} {g : Nat} {old cs : Array Value} {t : TypeId} (h : w2.heap[g]? = some (.cells old t (0, 0))) (hb : Below w.heap.size w w2) (hg : w.heap.size ≤ g) :
    (w2.setRow g cs).heap[g]? = some (.cells cs t (0, 0)) ∧ Below w.heap.size w (w2.setRow g cs) ∧ (w2.setRow g cs).heap.size = w2.heap.size ∧ g < w2.heap.size :=
  ⟨setRow_heap _ _ _ _ _ _ h, below_setRow hb hg _, by simp, by
    rcases Nat.lt_or_ge g w2.heap.size with h' | h'
    · exact h'
    · simp [Array.getElem?_eq_none h'] at h⟩
@[reducible] def dcells (k : Dk) : Array Value := #[.string k.s, .string k.u, .int .i64 k.f, .bool k.d]
/-- what a store of a whole disk leaves -/
structure Put4 (w0 : World) (w : World) (g : Nat) (k : Dk) (W : World) : Prop where
  row : W.heap[g]? = some (.cells (dcells k) 32 (0, 0))
  low : Below w0.heap.size w0 W
  size : W.heap.size = w.heap.size
  far : ∀ i, i ≠ g → W.heap[i]? = w.heap[i]?
theorem Put4.c0 {w0 w W : World} {g : Nat} {k : Dk} (h : Put4 w0 w g k W) : W.cell? ⟨g, 0, none⟩ = some (.string k.s) := (row4 h.row).1
theorem Put4.c1 {w0 w W : World} {g : Nat} {k : Dk} (h : Put4 w0 w g k W) : W.cell? ⟨g, 1, none⟩ = some (.string k.u) := (row4 h.row).2.1
theorem Put4.c2 {w0 w W : World} {g : Nat} {k : Dk} (h : Put4 w0 w g k W) : W.cell? ⟨g, 2, none⟩ = some (.int .i64 k.f) := (row4 h.row).2.2.1
theorem Put4.c3 {w0 w W : World} {g : Nat} {k : Dk} (h : Put4 w0 w g k W) : W.cell? ⟨g, 3, none⟩ = some (.bool k.d) := (row4 h.row).2.2.2
theorem Put4.lt {w0 w W : World} {g : Nat} {k : Dk} (h : Put4 w0 w g k W) : g < W.heap.size := by
  rcases Nat.lt_or_ge g W.heap.size with h' | h'
  · exact h'
  · have := h.row; simp [Array.getElem?_eq_none h'] at this
theorem store_dk {ops : Array Oper} {rest : List Oper} {o : Oper} {a : Act} {w : World} {Q : Exit → Act → World → Prop} (hgd : o.guard = none) (x y : Operand) (ho : o.op = .store 32 x y)
    (hd : o.dst = none) (w0 : World) (g : Nat) (k : Dk) (hx : a.eval x = .pointer (some ⟨g, 0, none⟩)) (hy : a.eval y = .agg (dcells k)) (old : Array Value) (hg : w.heap[g]? = some (.cells old 32 (0, 0))) (hold : old.size = 4)
    (hb : Below w0.heap.size w0 w) (hB : w0.heap.size ≤ g) (h : ∀ W, Put4 w0 w g k W → wpList Try.prog ops Q rest a W) : wpList Try.prog ops Q (o :: rest) a w :=
  wpList_store_rowTo hgd 32 x y ho hd g (dcells k) hx hy 32 old hg (by kernel_rfl) hold (by simp [Value.oneCell']) (h _ ⟨setRow_heap _ _ _ _ _ _ hg, below_setRow hb hB _, by simp, fun i hi => setRow_other _ _ _ _ hi⟩)
theorem new_at (w : World) (o : Obj) : (w.alloc o).heap[w.heap.size]? = some o := heap_alloc_new w o
theorem aw1 : Dk.write ⟨⟨#[]⟩, ⟨#[]⟩, 1, false⟩ ⟨#[97, 98]⟩ = (⟨⟨#[]⟩, ⟨#[97, 98]⟩, 0, false⟩, 0) := by rfl
theorem aw2 : Dk.write ⟨⟨#[]⟩, ⟨#[97, 98]⟩, 0, false⟩ ⟨#[99, 100]⟩ = (⟨⟨#[]⟩, ⟨#[97, 98, 99, 100]⟩, 0, true⟩, 16) := by rfl
theorem aw3 : Dk.crash ⟨⟨#[]⟩, ⟨#[97, 98, 99, 100]⟩, 0, true⟩ 3 = (⟨⟨#[97, 98, 99]⟩, ⟨#[]⟩, -1, false⟩, 0) := by rfl
set_option maxHeartbeats 1000000 in
theorem awake9_any (w : World) : Calls Try.prog 20 #[] w fun e w' => e = .returned (.bool true) ∧ Below w.heap.size w w' := by
  go_enter Try.func20, Try.ntmps20
  go_wp2_with fail
  refine (write_any ⟨⟨#[]⟩, ⟨#[]⟩, 1, false⟩ ⟨by decide, by decide, by decide, by decide⟩ ⟨#[97, 98]⟩ (by decide) _).mono ?_
  rintro e w1 ⟨rfl, b1⟩
  rw [aw1]
  unfold dval
  dsimp only
  go_wp2_with fail
  refine (write_any ⟨⟨#[]⟩, ⟨#[97, 98]⟩, 0, false⟩ ⟨by decide, by decide, by decide, by decide⟩ ⟨#[99, 100]⟩ (by decide) _).mono ?_
  rintro e w2 ⟨rfl, c2⟩
  rw [aw2]
  unfold dval
  dsimp only
  have hg := (c2.block w1.heap.size (by simp)).trans (new_at w1 _)
  have b2 : Below w.heap.size w w2 := (b1.alloc b1.size _).trans (c2.mono (by have := b1.size; simp; omega))
  have hlt := b1.size
  have HG := Lib.hid hg
  clear hg c2
  generalize w1.heap.size = g at *
  clear b1
  go_wp2_with (refine store_dk rfl _ _ rfl rfl w g ⟨⟨#[]⟩, ⟨#[97, 98, 99, 100]⟩, 0, true⟩ rfl rfl _ HG.out rfl b2 hlt ?_; intro W3 P3; have p0 := P3.c0; have p1 := P3.c1; have p2 := P3.c2; have p3 := P3.c3; dsimp only at p0 p1 p2 p3)
  refine (crashd_any ⟨⟨#[]⟩, ⟨#[97, 98, 99, 100]⟩, 0, true⟩ ⟨by decide, by decide, by decide, by decide⟩ 3 _).mono ?_
  rintro e w4 ⟨rfl, c4⟩
  rw [aw3]
  unfold dval
  dsimp only
  have hg4 := Lib.hid ((c4.block g P3.lt).trans P3.row)
  have b4 : Below w.heap.size w w4 := P3.low.trans (c4.mono P3.low.size)
  clear c4 P3 p0 p1 p2 p3 b2 HG
  go_wp2_with (refine store_dk rfl _ _ rfl rfl w g ⟨⟨#[97, 98, 99]⟩, ⟨#[]⟩, -1, false⟩ rfl rfl _ hg4.out rfl b4 hlt ?_; intro W5 P5; have p0 := P5.c0; have p1 := P5.c1; have p2 := P5.c2; have p3 := P5.c3; dsimp only at p0 p1 p2 p3)
  go_ret
  exact ⟨rfl, P5.low⟩
end Go.Proofs.Ytgffoepnkpkhaaa
