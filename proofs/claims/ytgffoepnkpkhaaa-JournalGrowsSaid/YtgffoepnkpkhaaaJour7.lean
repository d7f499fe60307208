/- What JournalGrows asks beside the walks: plain laws of its rounds. -/
import Derived.Test.YtgffoepnkpkhaaaBase
import Derived.Test.YtgffoepnkpkhaaaJour6
import Derived.Deep.SlicePairs
import Derived.Deep.RegionHeld3
import Derived.IntWalk
import Derived.OpenShut
import Derived.BigQuiet
namespace Go.Proofs.Ytgffoepnkpkhaaa.journalGrows
open Go.ChangeShapes Go.WideShapes Go.ChangeAt Go.RowKit Go.Deep
theorem low' {P : Program} {f : FuncId} {args : Array Value} {w0 W : World} {R : Ending} (hb : Below w0.heap.size w0 W) (h : Calls P f args W fun e w' => e = R ∧ Below W.heap.size W w') :
    Calls P f args W fun e w' => e = R ∧ Below w0.heap.size w0 w' := h.mono fun _ _ ⟨he, hc⟩ => ⟨he, hb.trans (hc.mono hb.size)⟩
theorem same_self (v v' : Value) (l : List ByteArray) (w : World) (h1 : Strs w v l) (h2 : Strs w v' l) : Calls Try.prog 39 #[v, v'] w fun e w' => e = .returned (.bool true) ∧ Below w.heap.size w w' := by
  have h := same_any v v' l l w h1 h2
  rw [show decide (l = l) = true from by simp] at h
  exact h
theorem short_app {l m : List ByteArray} (h1 : Short l) (h2 : Short m) : Short (l ++ m) := by
  intro s hs
  rw [List.mem_append] at hs
  rcases hs with hs | hs
  · exact h1 s hs
  · exact h2 s hs
theorem short_take {l : List ByteArray} (h : Short l) (k : Nat) : Short (l.take k) := fun s hs => h s (List.mem_of_mem_take hs)
/-- the copy of the first list -/
structure Rel1 (l : List ByteArray) (w W0 wr : World) (k : Nat) (v : Value) : Prop where
  own : wr.ownsRow W0.heap.size 9 1 v (l.take k).length (sv (l.take k))
  low : Below W0.heap.size W0 wr
/-- the growth -/
structure Rel2 (l m : List ByteArray) (w : World) (B gd gw : Nat) (wr : World) (k : Nat) (v : Value) : Prop where
  own : wr.ownsRow B 9 1 v (l ++ m.take k).length (sv (l ++ m.take k))
  d : Held wr gd ⟨frames (l ++ m.take k), ⟨#[]⟩, -1, false⟩
  was : Held wr gw ⟨frames l, ⟨#[]⟩, -1, false⟩
  low : Below w.heap.size w wr
  top : B ≤ wr.heap.size
theorem step_one {l : List ByteArray} {w W0 wr w2 : World} {k : Nat} {x : ByteArray} {v v' : Value} (h : k < l.length) (hx : l[k] = x) (hown : wr.ownsRow W0.heap.size 9 1 v (l.take k).length (sv (l.take k))) (hb : Below W0.heap.size W0 wr)
    (hown' : w2.ownsRow W0.heap.size 9 1 v' (k + 1) (sv (l.take k) ++ [.string x])) (hgrow : (wr.alloc (.cells #[.string x] 9)).grownBy w2 v.ownBlock) : Rel1 l w W0 w2 (k + 1) v' := by
  refine ⟨?_, (hb.alloc hb.size _).grown hgrow (by have := hb.size; simp; omega) (own_from hown)⟩
  have hln : (l.take (k + 1)).length = k + 1 := by rw [List.length_take]; omega
  rw [hln, List.take_succ_eq_append_getElem h, hx, sv_append]
  exact hown'
theorem hfree {W : World} {g : Nat} {k : Dk} (h : Held W g k) :
    W.frozen? ⟨g, 0, none⟩ = false ∧ W.frozen? ⟨g, 1, none⟩ = false ∧ W.frozen? ⟨g, 2, none⟩ = false ∧ W.frozen? ⟨g, 3, none⟩ = false := by
  unfold Held at h
  refine ⟨?_, ?_, ?_, ?_⟩ <;> simp [World.frozen?, h]
theorem low_a {w wr x1 : World} (h : Below w.heap.size w wr) (c1 : Below wr.drew.heap.size wr.drew x1) : Below w.heap.size w x1 := h.drew.trans (c1.mono h.drew.size)
theorem low_b {w wr x1 : World} {o : Obj} (h : Below w.heap.size w wr) (c1 : Below (wr.alloc o).drew.heap.size (wr.alloc o).drew x1) : Below w.heap.size w x1 :=
  (h.alloc h.size o).drew.trans (c1.mono (h.alloc h.size o).drew.size)
theorem held_a {wr x1 : World} {g : Nat} {k : Dk} (h : Held wr g k) (c1 : Below wr.drew.heap.size wr.drew x1) : Held x1 g k := Held.keep (W := wr.drew) h c1
theorem held_b {wr x1 : World} {o : Obj} {g : Nat} {k : Dk} (h : Held wr g k) (c1 : Below (wr.alloc o).drew.heap.size (wr.alloc o).drew x1) : Held x1 g k := Held.keep (W := (wr.alloc o).drew) (Held.alloc h o) c1
theorem held_n {wr x1 : World} (c1 : Below (wr.alloc (.cells #[.string ⟨#[]⟩, .string ⟨#[]⟩, .int .i64 0, .bool false] 32)).drew.heap.size (wr.alloc (.cells #[.string ⟨#[]⟩, .string ⟨#[]⟩, .int .i64 0, .bool false] 32)).drew x1) : Held x1 wr.heap.size ⟨⟨#[]⟩, ⟨#[]⟩, 0, false⟩ :=
  Held.keep (W := (wr.alloc (.cells #[.string ⟨#[]⟩, .string ⟨#[]⟩, .int .i64 0, .bool false] 32)).drew) (heap_alloc_new wr _) c1
theorem app_in (L : List ByteArray) (x : ByteArray) (h : Short L) (hn : L.length ≤ 24) (hx : x.size ≤ 100) (W : World) :
    Calls Try.prog 44 #[dval ⟨frames L, ⟨#[]⟩, -1, false⟩, .string x] W fun e w' => e = .returned (.tuple #[dval ⟨frames (L ++ [x]), ⟨#[]⟩, -1, false⟩, .int .i64 0]) ∧ Below W.heap.size W w' := by
  have hfs := frames_small L h hn
  have h1 := append_ok ⟨frames L, ⟨#[]⟩, -1, false⟩ ⟨by show (frames L).size ≤ _; omega, rfl, by simp, by simp, rfl⟩ (whole_all L (short_big h)).2.1 x (by omega) W
  rw [app_frames L x h hn hx] at h1
  exact h1
def SS (gd b o : Nat) (L : List ByteArray) (x : ByteArray) (W' : World) : Prop := W'.cell? ⟨gd, 0, none⟩ = some (.string (frames L)) ∧ W'.cell? ⟨gd, 1, none⟩ = some (.string ⟨#[]⟩) ∧ W'.cell? ⟨gd, 2, none⟩ = some (.int .i64 (-1)) ∧ W'.cell? ⟨gd, 3, none⟩ = some (.bool false) ∧ W'.cell? ⟨b, o, none⟩ = some (.string x)
/-- what is known behind the call, whether the new block was made ahead of it or not -/
theorem arm_facts {w wr W x1 : World} {gd b o : Nat} {L : List ByteArray} {x : ByteArray} (hd : Held wr gd ⟨frames L, ⟨#[]⟩, -1, false⟩) (hbel : Below w.heap.size w wr) (hbl : b < w.heap.size) (hc : w.cell? ⟨b, o, none⟩ = some (.string x)) (c1 : Below W.heap.size W x1)
    (hW : W = wr.drew ∨ W = (wr.alloc (.cells #[.string ⟨#[]⟩, .string ⟨#[]⟩, .int .i64 0, .bool false] 32)).drew := by first | exact Or.inl rfl | exact Or.inr rfl) :
    (x1.cell? ⟨gd, 0, none⟩ = some (.string (frames L)) ∧ x1.cell? ⟨gd, 1, none⟩ = some (.string ⟨#[]⟩) ∧ x1.cell? ⟨gd, 2, none⟩ = some (.int .i64 (-1)) ∧ x1.cell? ⟨gd, 3, none⟩ = some (.bool false) ∧ x1.cell? ⟨b, o, none⟩ = some (.string x)) ∧
    Below w.heap.size w x1 ∧ Held x1 gd ⟨frames L, ⟨#[]⟩, -1, false⟩ := by
  rcases hW with rfl | rfl
  · have hb := low_a hbel c1
    have h := held_a hd c1
    exact ⟨⟨h.cells.1, h.cells.2.1, h.cells.2.2.1, h.cells.2.2.2, (hb.cell (p := ⟨b, o, none⟩) hbl).trans hc⟩, hb, h⟩
  · have hb := low_b hbel c1
    have h := held_b hd c1
    exact ⟨⟨h.cells.1, h.cells.2.1, h.cells.2.2.1, h.cells.2.2.2, (hb.cell (p := ⟨b, o, none⟩) hbl).trans hc⟩, hb, h⟩
theorem set4_far {x1 : World} {g k o : Nat} {v0 v1 v2 v3 : Value} (h : k ≠ g) : ((((x1.setCell ⟨g, 0, none⟩ v0).setCell ⟨g, 1, none⟩ v1).setCell ⟨g, 2, none⟩ v2).setCell ⟨g, 3, none⟩ v3).cell? ⟨k, o, none⟩ = x1.cell? ⟨k, o, none⟩ := by
  refine World.cell?_of_block (w := x1) ?_
  show _ = x1.heap[k]?
  rw [Below.heap_setCell _ _ _ _ h, Below.heap_setCell _ _ _ _ h, Below.heap_setCell _ _ _ _ h, Below.heap_setCell _ _ _ _ h]
theorem keep4 {x1 : World} {g gd b o : Nat} {v0 v1 v2 v3 : Value} {L : List ByteArray} {x : ByteArray} (h : x1.cell? ⟨gd, 0, none⟩ = some (.string (frames L)) ∧ x1.cell? ⟨gd, 1, none⟩ = some (.string ⟨#[]⟩) ∧ x1.cell? ⟨gd, 2, none⟩ = some (.int .i64 (-1)) ∧ x1.cell? ⟨gd, 3, none⟩ = some (.bool false) ∧ x1.cell? ⟨b, o, none⟩ = some (.string x)) (h1 : gd < g) (h2 : b < g) :
    ((((x1.setCell ⟨g, 0, none⟩ v0).setCell ⟨g, 1, none⟩ v1).setCell ⟨g, 2, none⟩ v2).setCell ⟨g, 3, none⟩ v3).cell? ⟨gd, 0, none⟩ = some (.string (frames L)) ∧ ((((x1.setCell ⟨g, 0, none⟩ v0).setCell ⟨g, 1, none⟩ v1).setCell ⟨g, 2, none⟩ v2).setCell ⟨g, 3, none⟩ v3).cell? ⟨gd, 1, none⟩ = some (.string ⟨#[]⟩) ∧ ((((x1.setCell ⟨g, 0, none⟩ v0).setCell ⟨g, 1, none⟩ v1).setCell ⟨g, 2, none⟩ v2).setCell ⟨g, 3, none⟩ v3).cell? ⟨gd, 2, none⟩ = some (.int .i64 (-1)) ∧ ((((x1.setCell ⟨g, 0, none⟩ v0).setCell ⟨g, 1, none⟩ v1).setCell ⟨g, 2, none⟩ v2).setCell ⟨g, 3, none⟩ v3).cell? ⟨gd, 3, none⟩ = some (.bool false) ∧ ((((x1.setCell ⟨g, 0, none⟩ v0).setCell ⟨g, 1, none⟩ v1).setCell ⟨g, 2, none⟩ v2).setCell ⟨g, 3, none⟩ v3).cell? ⟨b, o, none⟩ = some (.string x) := by
  rw [set4_far (by omega), set4_far (by omega), set4_far (by omega), set4_far (by omega), set4_far (by omega)]
  exact h
theorem held_set {x : World} {g : Nat} {d k : Dk} (h : Held x g d) :
    Held ((((x.setCell ⟨g, 0, none⟩ (.string k.s)).setCell ⟨g, 1, none⟩ (.string k.u)).setCell ⟨g, 2, none⟩ (.int .i64 k.f)).setCell ⟨g, 3, none⟩ (.bool k.d)) g k :=
  heap_setCell_same _ g 3 _ 32 _ (heap_setCell_same _ g 2 _ 32 _ (heap_setCell_same _ g 1 _ 32 _ (heap_setCell_same _ g 0 _ 32 _ h)))
theorem below_set {w x : World} {g : Nat} {k : Dk} (h : Below w.heap.size w x) (hg : w.heap.size ≤ g) :
    Below w.heap.size w ((((x.setCell ⟨g, 0, none⟩ (.string k.s)).setCell ⟨g, 1, none⟩ (.string k.u)).setCell ⟨g, 2, none⟩ (.int .i64 k.f)).setCell ⟨g, 3, none⟩ (.bool k.d)) :=
  (((h.setCell (p := ⟨g, 0, none⟩) hg _).setCell (p := ⟨g, 1, none⟩) hg _).setCell (p := ⟨g, 2, none⟩) hg _).setCell (p := ⟨g, 3, none⟩) hg _
theorem far_set4 {x1 : World} {g k : Nat} {v0 v1 v2 v3 : Value} (h : k ≠ g) : ((((x1.setCell ⟨g, 0, none⟩ v0).setCell ⟨g, 1, none⟩ v1).setCell ⟨g, 2, none⟩ v2).setCell ⟨g, 3, none⟩ v3).heap[k]? = x1.heap[k]? := by
  rw [Below.heap_setCell _ _ _ _ h, Below.heap_setCell _ _ _ _ h, Below.heap_setCell _ _ _ _ h, Below.heap_setCell _ _ _ _ h]
theorem size_set4 {x1 : World} {g : Nat} {v0 v1 v2 v3 : Value} : ((((x1.setCell ⟨g, 0, none⟩ v0).setCell ⟨g, 1, none⟩ v1).setCell ⟨g, 2, none⟩ v2).setCell ⟨g, 3, none⟩ v3).heap.size = x1.heap.size := by simp
theorem own_heap {w w' : World} {base : Nat} {e : TypeId} {size : Nat} {v : Value} {n : Nat} {xs : List Value} (h : w.ownsRow base e size v n xs) (hk : ∀ g, v.ownBlock = some g → w'.heap[g]? = w.heap[g]?) : w'.ownsRow base e size v n xs := by
  obtain ⟨h1, h2⟩ := h
  refine ⟨h1, ?_⟩
  rcases h2 with h2 | ⟨g, cap, cur, rfl, hg, hh, r⟩
  · exact Or.inl h2
  · exact Or.inr ⟨g, cap, cur, rfl, hg, (hk g rfl).trans hh, r⟩
/-- behind the appending call: the new disk lies in block gx -/
structure Mid (l L : List ByteArray) (x : ByteArray) (w : World) (B gd gw : Nat) (u : Value) (X : World) (gx : Nat) : Prop where
  low : Below w.heap.size w X
  d : Held X gd ⟨frames L, ⟨#[]⟩, -1, false⟩
  was : Held X gw ⟨frames l, ⟨#[]⟩, -1, false⟩
  new : Held X gx ⟨frames (L ++ [x]), ⟨#[]⟩, -1, false⟩
  own : X.ownsRow B 9 1 u L.length (sv L)
  top : B ≤ X.heap.size
theorem mid1 {l L : List ByteArray} {x : ByteArray} {w wr x1 : World} {B gd gw : Nat} {u : Value} (hbel : Below w.heap.size w wr) (hd : Held wr gd ⟨frames L, ⟨#[]⟩, -1, false⟩) (hw : Held wr gw ⟨frames l, ⟨#[]⟩, -1, false⟩) (hown : wr.ownsRow B 9 1 u L.length (sv L)) (htop : B ≤ wr.heap.size) (c1 : Below wr.drew.heap.size wr.drew x1) :
    Mid l L x w B gd gw u (x1.alloc (.cells #[.string (frames (L ++ [x])), .string ⟨#[]⟩, .int .i64 (-1), .bool false] 32)) x1.heap.size := by
  have hs : wr.heap.size ≤ x1.heap.size := c1.size
  have hb := low_a hbel c1
  refine ⟨hb.alloc hb.size _, (held_a hd c1).alloc _, (held_a hw c1).alloc _, heap_alloc_new _ _, (own_keep (w := wr.drew) hown c1).alloc _, ?_⟩
  simp; omega
theorem mid2 {l L : List ByteArray} {x : ByteArray} {w wr x1 : World} {B gd gw : Nat} {u : Value} (hbel : Below w.heap.size w wr) (hd : Held wr gd ⟨frames L, ⟨#[]⟩, -1, false⟩) (hw : Held wr gw ⟨frames l, ⟨#[]⟩, -1, false⟩) (hown : wr.ownsRow B 9 1 u L.length (sv L)) (htop : B ≤ wr.heap.size)
    (c1 : Below (wr.alloc (.cells #[.string ⟨#[]⟩, .string ⟨#[]⟩, .int .i64 0, .bool false] 32)).drew.heap.size (wr.alloc (.cells #[.string ⟨#[]⟩, .string ⟨#[]⟩, .int .i64 0, .bool false] 32)).drew x1) :
    Mid l L x w B gd gw u ((((x1.setCell ⟨wr.heap.size, 0, none⟩ (.string (frames (L ++ [x])))).setCell ⟨wr.heap.size, 1, none⟩ (.string ⟨#[]⟩)).setCell ⟨wr.heap.size, 2, none⟩ (.int .i64 (-1))).setCell ⟨wr.heap.size, 3, none⟩ (.bool false)) wr.heap.size := by
  have hs : wr.heap.size + 1 ≤ x1.heap.size := by have := c1.size; simp at this; omega
  have hb := low_b hbel c1
  have h1 := held_b hd c1
  have h2 := held_b hw c1
  have l1 := hd.lt
  have l2 := hw.lt
  refine ⟨below_set (k := ⟨frames (L ++ [x]), ⟨#[]⟩, -1, false⟩) hb hbel.size, (far_set4 (by omega)).trans h1, (far_set4 (by omega)).trans h2, held_set (k := ⟨frames (L ++ [x]), ⟨#[]⟩, -1, false⟩) (held_n c1), ?_, ?_⟩
  · refine own_heap (own_keep (w := (wr.alloc (.cells #[.string ⟨#[]⟩, .string ⟨#[]⟩, .int .i64 0, .bool false] 32)).drew) (hown.alloc _) c1) fun g hg => far_set4 ?_
    have := (hown.lt g hg).2
    omega
  · rw [size_set4]; omega
theorem step_two {l L : List ByteArray} {m : List ByteArray} {x : ByteArray} {w X W3 w2 : World} {B gd gw j : Nat} {u v' : Value} (hln : l ++ m.take (j + 1) = L ++ [x]) (hw : Held X gw ⟨frames l, ⟨#[]⟩, -1, false⟩) (hown : X.ownsRow B 9 1 u L.length (sv L)) (htop : B ≤ X.heap.size) (P3 : Put4 w X gd ⟨frames (L ++ [x]), ⟨#[]⟩, -1, false⟩ W3) (hne : gd ≠ gw) (h1 : gd < B) (h2 : gw < B) (hB : w.heap.size ≤ B)
    (hown' : w2.ownsRow B 9 1 v' (L.length + 1) (sv L ++ [.string x])) (hgrow : (W3.alloc (.cells #[.string x] 9)).grownBy w2 u.ownBlock) : Rel2 l m w B gd gw w2 (j + 1) v' := by
  have hb3 := P3.low
  have own3 := own_far hown P3 h1
  have hrow := own_from own3
  have hgr : ∀ k, k < W3.heap.size → k < B → w2.heap[k]? = W3.heap[k]? := fun k hk hkB =>
    (hgrow.block k (by simp; omega) (fun e => by have := hrow k e.symm; omega)).trans (Below.heap_alloc W3 _ k hk)
  have hd3 := Put4.held P3
  have hw3 := Held.far hw P3 (Ne.symm hne)
  refine ⟨?_, ?_, ?_, ?_, ?_⟩
  · rw [hln, sv_append, List.length_append]; simpa [sv] using hown'
  · rw [hln]; exact (hgr gd hd3.lt h1).trans hd3
  · exact (hgr gw hw3.lt h2).trans hw3
  · exact (hb3.alloc hb3.size _).grown hgrow (by have := hb3.size; simp; omega) (fun k hk => by have := hrow k hk; omega)
  · have := hgrow.size; have e := P3.size; simp at this; omega
theorem start2 {l m : List ByteArray} {w W wr : World} {gd gw : Nat} {v : Value} (h1 : wr.ownsRow W.heap.size 9 1 v l.length (sv l)) (hb : Below W.heap.size W wr) (hd : Held W gd ⟨frames l, ⟨#[]⟩, -1, false⟩) (hw : Held W gw ⟨frames l, ⟨#[]⟩, -1, false⟩) (hlow : Below w.heap.size w W) :
    Rel2 l m w W.heap.size gd gw wr 0 v := by
  refine ⟨?_, ?_, hw.keep hb, hlow.trans (hb.mono hlow.size), hb.size⟩
  · rw [List.take_zero, List.append_nil]; exact h1
  · rw [List.take_zero, List.append_nil]; exact hd.keep hb

end Go.Proofs.Ytgffoepnkpkhaaa.journalGrows
