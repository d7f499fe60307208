/- The walks of codec.read: what it reads, as rdC says. -/
import Derived.Test.YtcdbnabbhlnigaaDoorRef2
import Derived.Test.YtcdbnabbhlnigaaDoorRead2
import Derived.Great.BuildSlice
import Derived.Laws.CopyOwn
import Derived.Shelf.Abstract
namespace Go.Proofs.YtcdbnabbhlnigaaDoor
open Go.RowKit

theorem Only.new {br g : Nat} {w u v : World} (h : Only br w u) (k : Only g u v) (hg : w.heap.size ≤ g) : Only br w v :=
  ⟨k.os.trans h.os, k.tape.trans h.tape, k.output.trans h.output, Nat.le_trans h.size k.size, fun i hi hb => (k.far i (Nat.lt_of_lt_of_le hi h.size) (by omega)).trans (h.far i hi hb)⟩
theorem Only.alloc {br : Nat} {w u : World} (h : Only br w u) (o : Obj) : Only br w (u.alloc o) := h.trans (Only.below ((Below.refl _ _).alloc (Nat.le_refl _) _))
theorem Boxed.far {u v : World} {g b : Nat} {c : Cm} (h : Boxed u g c) (k : Only b u v) (hg : g ≠ b) : Boxed v g c := (k.far g h.lt hg).trans h
theorem Vals.far {u v : World} {g b : Nat} {c : Cm} (h : Vals u g c) (k : Only b u v) (hg : g ≠ b) : Vals v g c := (k.far g h.lt hg).trans h
theorem Boxed.alloc {W : World} {g : Nat} {c : Cm} (h : Boxed W g c) (o : Obj) : Boxed (W.alloc o) g c := h.keep ((Below.refl _ _).alloc (Nat.le_refl _) _)
theorem Vals.alloc {W : World} {g : Nat} {c : Cm} (h : Vals W g c) (o : Obj) : Vals (W.alloc o) g c := h.keep ((Below.refl _ _).alloc (Nat.le_refl _) _)
theorem Rdr.alloc {T : TypeId} {w : World} {b : Nat} {s : ByteArray} {e : Int} (h : Rdr T w b s e) (o : Obj) : Rdr T (w.alloc o) b s e := h.keep ((Below.refl _ _).alloc (Nat.le_refl _) _)
/-- what a store of a whole command leaves -/
structure Put7 (w : World) (g : Nat) (k : Cm) (W : World) : Prop where
  row : Boxed W g k
  only : Only g w W
  size : W.heap.size = w.heap.size
theorem only_setRow {w : World} {g : Nat} (cs : Array Value) : Only g w (w.setRow g cs) :=
  ⟨(below_setRow (Below.refl g w) (Nat.le_refl _) cs).os, (below_setRow (Below.refl g w) (Nat.le_refl _) cs).tape, (below_setRow (Below.refl g w) (Nat.le_refl _) cs).output, by simp, fun i _ hi => setRow_other _ _ _ _ hi⟩
theorem store_cm {ops : Array Oper} {rest : List Oper} {o : Oper} {a : Act} {w : World} {Q : Exit → Act → World → Prop} (hgd : o.guard = none) (x y : Operand) (ho : o.op = .store 29 x y)
    (hd : o.dst = none) (g : Nat) (k : Cm) (hx : a.eval x = .pointer (some ⟨g, 0, none⟩)) (hy : a.eval y = .agg (ccells k)) (old : Cm) (hg : Boxed w g old)
    (h : ∀ W, Put7 w g k W → wpList Tryd.prog ops Q rest a W) : wpList Tryd.prog ops Q (o :: rest) a w :=
  wpList_store_rowTo hgd 29 x y ho hd g (ccells k) hx hy 29 (ccells old) hg (by kernel_rfl) rfl (by simp [Value.oneCell']) (h _ ⟨setRow_heap _ _ _ _ _ _ hg, only_setRow _, by simp⟩)
theorem set_any (j : Nat) (hj : j < 6) (b : Nat) (c : Cm) (n : Int) (w : World) (hb : Boxed w b c) :
    Calls Tryd.prog (40 + j) #[.pointer (some ⟨b, 0, none⟩), .int .i64 n] w fun e w' => e = .returned (.tuple #[]) ∧ Boxed w' b (setJ c j n) ∧ Only b w w' := by
  obtain ⟨kd, id, mb, ot, sc, qt, pr⟩ := c
  obtain ⟨p0, p1, p2, p3, p4, p5, p6⟩ := hb.cells
  have f1 := hb.free 1
  have f2 := hb.free 2
  have f3 := hb.free 3
  have f4 := hb.free 4
  have f5 := hb.free 5
  have f6 := hb.free 6
  have HB := Lib.hid hb
  clear hb
  obtain rfl | rfl | rfl | rfl | rfl | rfl : j = 0 ∨ j = 1 ∨ j = 2 ∨ j = 3 ∨ j = 4 ∨ j = 5 := by omega
  · show Calls Tryd.prog 40 _ w _
    go_enter Tryd.func40, Tryd.ntmps40
    go_wp2
    go_end0
    exact ⟨rfl, heap_setCell_same _ b 1 _ 29 _ HB.out, (Only.refl b w).set 1 _⟩
  · show Calls Tryd.prog 41 _ w _
    go_enter Tryd.func41, Tryd.ntmps41
    go_wp2
    go_end0
    exact ⟨rfl, heap_setCell_same _ b 2 _ 29 _ HB.out, (Only.refl b w).set 2 _⟩
  · show Calls Tryd.prog 42 _ w _
    go_enter Tryd.func42, Tryd.ntmps42
    go_wp2
    go_end0
    exact ⟨rfl, heap_setCell_same _ b 3 _ 29 _ HB.out, (Only.refl b w).set 3 _⟩
  · show Calls Tryd.prog 43 _ w _
    go_enter Tryd.func43, Tryd.ntmps43
    go_wp2
    go_end0
    exact ⟨rfl, heap_setCell_same _ b 4 _ 29 _ HB.out, (Only.refl b w).set 4 _⟩
  · show Calls Tryd.prog 44 _ w _
    go_enter Tryd.func44, Tryd.ntmps44
    go_wp2
    go_end0
    exact ⟨rfl, heap_setCell_same _ b 5 _ 29 _ HB.out, (Only.refl b w).set 5 _⟩
  · show Calls Tryd.prog 45 _ w _
    go_enter Tryd.func45, Tryd.ntmps45
    go_wp2
    go_end0
    exact ⟨rfl, heap_setCell_same _ b 6 _ 29 _ HB.out, (Only.refl b w).set 6 _⟩
theorem enters_set (j : Nat) (hj : j < 6) (args : Array Value) (w : World) : (callFunc (40 + j) args).run Tryd.prog w = .ok (.enter (40 + j) args) w := by
  obtain rfl | rfl | rfl | rfl | rfl | rfl : j = 0 ∨ j = 1 ∨ j = 2 ∨ j = 3 ∨ j = 4 ∨ j = 5 := by omega
  · exact enters_of Tryd.func40 (by kernel_rfl) rfl args w
  · exact enters_of Tryd.func41 (by kernel_rfl) rfl args w
  · exact enters_of Tryd.func42 (by kernel_rfl) rfl args w
  · exact enters_of Tryd.func43 (by kernel_rfl) rfl args w
  · exact enters_of Tryd.func44 (by kernel_rfl) rfl args w
  · exact enters_of Tryd.func45 (by kernel_rfl) rfl args w
end Go.Proofs.YtcdbnabbhlnigaaDoor
