/- DiskKeeps holds for every input: what was synced is there behind any crash, and there is nothing that was not written; no condition. -/
import Derived.Test.YtgffoepnkpkhaaaBase
import Derived.Test.YtgffoepnkpkhaaaKeep
import Derived.Test.YtgffoepnkpkhaaaOpen
import Derived.Deep.SlicePairs
import Derived.Deep.RegionHeld3
import Derived.Deep.RegionLaw
import Derived.BigQuiet
import Derived.Carry
namespace Go.Proofs.Ytgffoepnkpkhaaa.diskKeeps
open Go.ChangeShapes Go.WideShapes Go.ChangeAt Go.RowKit Go.Deep
open Go.ChangeMaps (open_string shut_string)

theorem low {P : Program} {f : FuncId} {args : Array Value} {w0 W : World} {R : Ending} (hb : Below w0.heap.size w0 W) (h : Calls P f args W fun e w' => e = R ∧ Below W.heap.size W w') :
    Calls P f args W fun e w' => e = R ∧ Below w0.heap.size w0 w' := h.mono fun _ _ ⟨he, hc⟩ => ⟨he, hb.trans (hc.mono hb.size)⟩
/-- the acts that came in -/
structure Ac where
  k : Int
  s : ByteArray
  n : Int
def Acts (W : World) (v : Value) (l : List Ac) : Prop :=
  ∃ a cap, v = .slice a l.length cap ∧ l.length ≤ cap ∧ cap ≤ maxLen ∧ (0 < l.length → ∃ b off, a = some ⟨b, off, none⟩ ∧ b < W.heap.size ∧
    ∀ i (h : i < l.length), W.cell? ⟨b, off + i * 3, none⟩ = some (.int .i64 l[i].k) ∧ W.cell? ⟨b, off + i * 3 + 1, none⟩ = some (.string l[i].s) ∧ W.cell? ⟨b, off + i * 3 + 2, none⟩ = some (.int .i64 l[i].n) ∧ l[i].s.size ≤ maxLen)
theorem hfree {W : World} {g : Nat} {k : Dk} (h : Held W g k) :
    W.frozen? ⟨g, 0, none⟩ = false ∧ W.frozen? ⟨g, 1, none⟩ = false ∧ W.frozen? ⟨g, 2, none⟩ = false ∧ W.frozen? ⟨g, 3, none⟩ = false := by
  unfold Held at h
  refine ⟨?_, ?_, ?_, ?_⟩ <;> simp [World.frozen?, h]
theorem below_drewN {n : Nat} {w w' : World} (h : Below n w w') (k : Nat) : Below n w (w'.drewN k) := by
  exact ⟨h.1, h.2, h.3, h.4, h.5⟩
theorem held_set {x : World} {g : Nat} {d k : Dk} (h : Held x g d) :
    Held ((((x.setCell ⟨g, 0, none⟩ (.string k.s)).setCell ⟨g, 1, none⟩ (.string k.u)).setCell ⟨g, 2, none⟩ (.int .i64 k.f)).setCell ⟨g, 3, none⟩ (.bool k.d)) g k :=
  heap_setCell_same _ g 3 _ 32 _ (heap_setCell_same _ g 2 _ 32 _ (heap_setCell_same _ g 1 _ 32 _ (heap_setCell_same _ g 0 _ 32 _ h)))
theorem below_set {w x : World} {g : Nat} {k : Dk} (h : Below w.heap.size w x) (hg : w.heap.size ≤ g) :
    Below w.heap.size w ((((x.setCell ⟨g, 0, none⟩ (.string k.s)).setCell ⟨g, 1, none⟩ (.string k.u)).setCell ⟨g, 2, none⟩ (.int .i64 k.f)).setCell ⟨g, 3, none⟩ (.bool k.d)) :=
  (((h.setCell (p := ⟨g, 0, none⟩) hg _).setCell (p := ⟨g, 1, none⟩) hg _).setCell (p := ⟨g, 2, none⟩) hg _).setCell (p := ⟨g, 3, none⟩) hg _
theorem plain_of_cell {W : World} {x : Addr} {v : Value} (h : W.cell? x = some v) : x = ⟨x.block, x.off, none⟩ := by
  obtain ⟨b, o, s⟩ := x
  cases s with
  | none => rfl
  | some s =>
    unfold World.cell? at h
    simp at h
    split at h <;> simp_all
theorem lt_of_cell {W : World} {b o : Nat} {v : Value} (h : W.cell? ⟨b, o, none⟩ = some v) : b < W.heap.size := by
  rcases Nat.lt_or_ge b W.heap.size with h' | h'
  · exact h'
  · simp [World.cell?, Array.getElem?_eq_none h'] at h
section
variable {H : Type} {enc : TypeId × Value → H}
theorem one_act {W : World} {n : Nat} {c : Nat} {x : Addr} {d : DataW H × List MemPlace} {fuel : Nat} (h : DataW.trod enc Try.prog W 0 (fun _ => true) true fuel 40 [.slice (some x) n c] = some d) (i : Nat) (hi : i < n) :
    ∃ y : Ac, W.cell? (x.add (i * 3)) = some (.int .i64 y.k) ∧ W.cell? (x.add (i * 3 + 1)) = some (.string y.s) ∧ W.cell? (x.add (i * 3 + 2)) = some (.int .i64 y.n) ∧ y.s.size ≤ maxLen := by
  rcases open_slice_fields Try.underlying40 Try.underlying42 (by kernel_rfl) (by kernel_rfl) h with ⟨hcs, _⟩ | ⟨x', l, c', m, D, Pl, hcs, _, hl, hm, hmm, _, hf⟩
  · simp at hcs
  · simp at hcs
    obtain ⟨rfl, rfl, rfl⟩ := hcs
    have hmn : n ≤ m := by rw [hmm]; simpa using hl
    obtain ⟨ys, nn, _, _, hys, hj⟩ := hf i (by omega)
    obtain ⟨v0, y0, c0, _, t0⟩ := hj 0 _ rfl
    obtain ⟨v1, y1, c1, _, t1⟩ := hj 1 _ rfl
    obtain ⟨v2, y2, c2, _, t2⟩ := hj 2 _ rfl
    obtain ⟨k0, e0, _, _⟩ := DataW.trod_int Try.underlying3 t0
    obtain ⟨s0, e1, _, ws⟩ := DataW.trod_string Try.underlying9 t1
    obtain ⟨n0, e2, _, _⟩ := DataW.trod_int Try.underlying3 t2
    simp at e0 e1 e2
    subst e0 e1 e2
    exact ⟨⟨k0, s0, n0⟩, c0, c1, c2, ws⟩
theorem open_acts {W : World} {a : Option Addr} {n c : Nat} {d : DataW H} {p : List MemPlace} (h : DataW.Trod enc Try.prog W 0 (fun _ => true) true 40 (.slice a n c) d p) : ∃ l : List Ac, l.length = n ∧ Acts W (.slice a n c) l := by
  obtain ⟨fuel, hf⟩ := h
  have hf' : DataW.trod enc Try.prog W 0 (fun _ => true) true fuel 40 [.slice a n c] = some (d, p) := by simpa [Value.cells] using hf
  rcases open_slice_fields Try.underlying40 Try.underlying42 (by kernel_rfl) (by kernel_rfl) hf' with ⟨hcs, _⟩ | ⟨x, l, c', m, D, Pl, hcs, _, hl, hm, hmm, _, hi⟩
  · simp at hcs
    obtain ⟨rfl, rfl, rfl⟩ := hcs
    exact ⟨[], rfl, none, 0, rfl, by simp, by decide, fun h => by simp at h⟩
  · simp at hcs
    obtain ⟨rfl, rfl, rfl⟩ := hcs
    have hall : ∀ i, ∃ y : Ac, i < n → (W.cell? (x.add (i * 3)) = some (.int .i64 y.k) ∧ W.cell? (x.add (i * 3 + 1)) = some (.string y.s) ∧ W.cell? (x.add (i * 3 + 2)) = some (.int .i64 y.n) ∧ y.s.size ≤ maxLen) := by
      intro i
      by_cases hin : i < n
      · obtain ⟨y, hy⟩ := one_act hf' i hin
        exact ⟨y, fun _ => hy⟩
      · exact ⟨⟨0, ByteArray.empty, 0⟩, fun h => absurd h hin⟩
    obtain ⟨f, hff⟩ := Classical.axiomOfChoice hall
    have hlen : ((List.range n).map f).length = n := by simp
    refine ⟨(List.range n).map f, hlen, some x, c, by rw [hlen], by rw [hlen]; exact hl, hm, fun h0 => ?_⟩
    rw [hlen] at h0
    obtain ⟨z0, _⟩ := hff 0 h0
    have hx : x = ⟨x.block, x.off, none⟩ := plain_of_cell (v := .int .i64 (f 0).k) (by simpa [Addr.add] using z0)
    refine ⟨x.block, x.off, by rw [← hx], ?_, fun i hin => ?_⟩
    · rw [hx] at z0
      exact lt_of_cell (o := x.off + 0 * 3) (by rw [← add_plain]; exact z0)
    · rw [hlen] at hin
      obtain ⟨g0, g1, g2, g3⟩ := hff i hin
      rw [hx, add_plain] at g0 g1 g2
      simp only [List.getElem_map, List.getElem_range]
      exact ⟨g0, by rw [Nat.add_assoc]; exact g1, by rw [Nat.add_assoc]; exact g2, g3⟩
end
def Rel (w wr : World) (g i : Nat) (sv av : Value) : Prop := ∃ (d : Dk) (sure all : ByteArray), sv = .string sure ∧ av = .string all ∧ Kp d sure all i ∧ Held wr g d ∧ Below w.heap.size w wr
set_option maxHeartbeats 4000000 in
set_option maxRecDepth 100000 in
theorem walk (a : Option Addr) (n cap : Nat) (l : List Ac) (fuse : Int) (w : World) (hA : l.length = n ∧ Acts w (.slice a n cap) l) (w1 : (Lit.int .u8 fuse).wf = true) :
    Calls Try.prog 6 #[.slice a n cap, .int .u8 fuse] w fun e w' => e = .returned (.bool true) ∧ Below w.heap.size w w' := by
  obtain ⟨rfl, hS⟩ := hA
  have ha : 0 ≤ fuse ∧ fuse ≤ 255 := by simp [Lit.wf, IntKind.min, IntKind.max, IntKind.signed, IntKind.bits] at w1; omega
  obtain ⟨ha0, ha1⟩ := ha
  clear w1
  obtain ⟨a', cap', hv, hc1, hc2, hcell⟩ := hS
  obtain ⟨rfl, _, rfl⟩ : a = a' ∧ l.length = l.length ∧ cap = cap' := by simpa using hv
  unfold maxLen at hc2
  have HCELL := Lib.hid hcell
  clear hcell hv
  by_cases hn : l.length ≤ 40
  · go_enter Try.func6, Try.ntmps6
    go_wp2
    have h0 : Rel w (w.alloc (.cells #[.string ⟨#[]⟩, .string ⟨#[]⟩, .int .i64 (fuse - 1), .bool false] 32)) w.heap.size 0 (.string ⟨#[]⟩) (.string ⟨#[]⟩) :=
      ⟨⟨⟨#[]⟩, ⟨#[]⟩, fuse - 1, false⟩, ⟨#[]⟩, ⟨#[]⟩, rfl, rfl, ⟨rfl, Nat.le_refl _, rfl, Nat.le_refl _, by show -1 ≤ fuse - 1; omega, by show fuse - 1 ≤ 255; omega⟩, heap_alloc_new _ _, (Below.refl _ _).alloc (Nat.le_refl _) _⟩
    generalize hW1 : (w.alloc (.cells #[.string ⟨#[]⟩, .string ⟨#[]⟩, .int .i64 (fuse - 1), .bool false] 32)) = W1 at *
    clear hW1
    go_loopw [6, 7, 8] (fun sv av i wr => ∃ k : Nat, k ≤ l.length ∧ i = .int .i64 k ∧ Rel w wr w.heap.size k sv av) (fun _ _ i _ => l.length - (intOf i).toNat)
    case atStart => exact ⟨0, Nat.zero_le _, rfl, h0⟩
    case round =>
      obtain ⟨k, hk, rfl, d, sure, all, rfl, rfl, hkp, hhd, hbel⟩ := hrel
      by_cases hlt : k < l.length
      · obtain ⟨b, off, rfl, hbl, hcl⟩ := HCELL.out (by omega)
        obtain ⟨q0, q1, q2, hms⟩ := hcl k hlt
        unfold maxLen at hms
        have HQ0 := Lib.hid q0
        have HQ1 := Lib.hid q1
        have HQ2 := Lib.hid q2
        rw [← hbel.cell (p := ⟨b, off + k * 3, none⟩) hbl] at q0
        rw [← hbel.cell (p := ⟨b, off + k * 3 + 1, none⟩) hbl] at q1
        rw [← hbel.cell (p := ⟨b, off + k * 3 + 2, none⟩) hbl] at q2
        have hi1 : (0 : Int) ≤ (k : Int) := by omega
        have hi2 : (k : Int) < (l.length : Int) := by omega
        have KP := Lib.hid hkp
        have hok := hkp.ok (by omega)
        clear hcl hkp
        generalize l[k].k = ak at *
        generalize l[k].s = aS at *
        generalize l[k].n = an at *
        by_cases hs : aS.size ≤ 50
        · obtain ⟨s0, u0, f0, d0⟩ := d
          obtain ⟨p0, p1, p2, p3⟩ := hhd.cells
          have HOK := Lib.hid hok
          clear hok
          by_cases h00 : ak = 0
          · have hK : (ak == 0) = true := by simpa using h00
            clear h00
            cases d0
            · have HHD := Lib.hid hhd
              clear hhd
              have KP2 := Lib.hid (KP.out.up (t := aS) (by omega) rfl hs)
              have hasz := KP.out.size
              go_wp2_with fail
              go_region_with ((go_at_call 25; refine (write_any ⟨s0, u0, f0, false⟩ HOK.out aS (by omega) _).mono ?_; rintro e x1 ⟨rfl, c1⟩; have HH := Lib.hid (Held.keep (W := wr.drew) HHD.out c1); obtain ⟨e0, e1, e2, e3⟩ := HH.out.cells; obtain ⟨e4, e5, e6, e7⟩ := hfree HH.out))
              all_goals
                have B2 := below_set (k := (Dk.write ⟨s0, u0, f0, false⟩ aS).1) (g := w.heap.size) (hbel.drew.trans (c1.mono hbel.drew.size)) (Nat.le_refl _)
                have HH2 := Lib.hid (held_set (k := (Dk.write ⟨s0, u0, f0, false⟩ aS).1) HH.out)
                clear c1 HH e0 e1 e2 e3 e4 e5 e6 e7 p0 p1 p2 p3 HOK hbel HHD
                generalize (Dk.write ⟨s0, u0, f0, false⟩ aS).2 = er at *
                generalize (Dk.write ⟨s0, u0, f0, false⟩ aS).1 = d2 at *
                have q1' := (B2.cell (p := ⟨b, off + k * 3 + 1, none⟩) hbl).trans HQ1.out
                clear q0 q1 q2
                generalize ((((x1.setCell ⟨w.heap.size, 0, none⟩ (.string d2.s)).setCell ⟨w.heap.size, 1, none⟩ (.string d2.u)).setCell ⟨w.heap.size, 2, none⟩ (.int .i64 d2.f)).setCell ⟨w.heap.size, 3, none⟩ (.bool d2.d)) = W2 at *
                obtain ⟨s2, u2, f2, dd2⟩ := d2
                obtain ⟨p0, p1, p2, p3⟩ := HH2.out.cells
                have hcat : s2 ++ u2 = all ++ aS := KP2.out.cat
                have hpre : s2.extract 0 (sure).size = sure := KP2.out.pre
                have hle : (sure).size ≤ s2.size := KP2.out.le
                have HCAT := Lib.hid hcat
                have hsml := (KP2.out.small (by omega)).2
                dsimp only at hsml
                clear hcat
                go_wp2_with fail
                refine (bytesd_any ⟨s2, u2, f2, dd2⟩ (KP2.out.ok (by omega)) _).mono ?_
                rintro e y1 ⟨rfl, rfl⟩
                dsimp only
                rw [HCAT.out]
                have B3 := B2.alloc B2.size (.cells #[.string s2, .string u2, .int .i64 f2, .bool dd2] 32)
                have HH3 := Lib.hid (HH2.out.alloc (.cells #[.string s2, .string u2, .int .i64 f2, .bool dd2] 32))
                generalize (W2.alloc (.cells #[.string s2, .string u2, .int .i64 f2, .bool dd2] 32)) = W3 at *
                clear p0 p1 p2 p3 HH2 B2
                obtain ⟨p0, p1, p2, p3⟩ := HH3.out.cells
                go_wp2_with fail
                go_roundw
                case rel => exact ⟨k + 1, by omega, by go_num, _, _, _, rfl, rfl, KP2.out, HH3.out, B3⟩
                case measure => simp [intOf]; omega
            · have HHD := Lib.hid hhd
              clear hhd
              have KP2 := Lib.hid (KP.out.down (t := aS) (by omega) rfl)
              have hasz := KP.out.size
              go_wp2_with fail
              go_region_with ((go_at_call 25; refine (write_any ⟨s0, u0, f0, true⟩ HOK.out aS (by omega) _).mono ?_; rintro e x1 ⟨rfl, c1⟩; have HH := Lib.hid (Held.keep (W := wr.drew) HHD.out c1); obtain ⟨e0, e1, e2, e3⟩ := HH.out.cells; obtain ⟨e4, e5, e6, e7⟩ := hfree HH.out))
              all_goals
                have B2 := below_set (k := (Dk.write ⟨s0, u0, f0, true⟩ aS).1) (g := w.heap.size) (hbel.drew.trans (c1.mono hbel.drew.size)) (Nat.le_refl _)
                have HH2 := Lib.hid (held_set (k := (Dk.write ⟨s0, u0, f0, true⟩ aS).1) HH.out)
                clear c1 HH e0 e1 e2 e3 e4 e5 e6 e7 p0 p1 p2 p3 HOK hbel HHD
                generalize (Dk.write ⟨s0, u0, f0, true⟩ aS).2 = er at *
                generalize (Dk.write ⟨s0, u0, f0, true⟩ aS).1 = d2 at *
                have q1' := (B2.cell (p := ⟨b, off + k * 3 + 1, none⟩) hbl).trans HQ1.out
                clear q0 q1 q2
                generalize ((((x1.setCell ⟨w.heap.size, 0, none⟩ (.string d2.s)).setCell ⟨w.heap.size, 1, none⟩ (.string d2.u)).setCell ⟨w.heap.size, 2, none⟩ (.int .i64 d2.f)).setCell ⟨w.heap.size, 3, none⟩ (.bool d2.d)) = W2 at *
                obtain ⟨s2, u2, f2, dd2⟩ := d2
                obtain ⟨p0, p1, p2, p3⟩ := HH2.out.cells
                have hcat : s2 ++ u2 = all := KP2.out.cat
                have hpre : s2.extract 0 (sure).size = sure := KP2.out.pre
                have hle : (sure).size ≤ s2.size := KP2.out.le
                have HCAT := Lib.hid hcat
                have hsml := (KP2.out.small (by omega)).2
                dsimp only at hsml
                clear hcat
                go_wp2_with fail
                refine (bytesd_any ⟨s2, u2, f2, dd2⟩ (KP2.out.ok (by omega)) _).mono ?_
                rintro e y1 ⟨rfl, rfl⟩
                dsimp only
                rw [HCAT.out]
                have B3 := B2.alloc B2.size (.cells #[.string s2, .string u2, .int .i64 f2, .bool dd2] 32)
                have HH3 := Lib.hid (HH2.out.alloc (.cells #[.string s2, .string u2, .int .i64 f2, .bool dd2] 32))
                generalize (W2.alloc (.cells #[.string s2, .string u2, .int .i64 f2, .bool dd2] 32)) = W3 at *
                clear p0 p1 p2 p3 HH2 B2
                obtain ⟨p0, p1, p2, p3⟩ := HH3.out.cells
                go_wp2_with fail
                go_roundw
                case rel => exact ⟨k + 1, by omega, by go_num, _, _, _, rfl, rfl, KP2.out, HH3.out, B3⟩
                case measure => simp [intOf]; omega
          · have hK : (ak == 0) = false := by simpa using h00
            by_cases h11 : ak = 1
            · have hK1 : (ak == 1) = true := by simpa using h11
              have hasz := KP.out.size
              clear h11 h00
              go_wp2_with fail
              refine (sync_any ⟨s0, u0, f0, d0⟩ HOK.out _).mono ?_
              rintro e x1 ⟨rfl, c1⟩
              have HH := Lib.hid (hhd.keep c1)
              have B1 := hbel.trans (c1.mono hbel.size)
              clear hhd hbel c1 p0 p1 p2 p3 q0 q1 q2 HOK
              have hsy := KP.out.sync (by omega)
              unfold dval
              dsimp only
              rcases hsy with ⟨h0, kp2⟩ | ⟨h0, kp2⟩
              · have KP2 := Lib.hid kp2
                clear kp2
                rw [h0]
                clear h0
                skip
                generalize (Dk.sync ⟨s0, u0, f0, d0⟩).1 = d2 at *
                obtain ⟨s2, u2, f2, dd2⟩ := d2
                have hcat : s2 ++ u2 = all := KP2.out.cat
                have hpre : s2.extract 0 (all).size = all := KP2.out.pre
                have hle : (all).size ≤ s2.size := KP2.out.le
                have HCAT := Lib.hid hcat
                have hsml := (KP2.out.small (by omega)).2
                dsimp only at hsml
                clear hcat
                go_wp2_with (refine store_dk rfl _ _ rfl rfl w w.heap.size ⟨s2, u2, f2, dd2⟩ rfl rfl _ HH.out rfl B1 (Nat.le_refl _) ?_; intro W2 P2; have HH2 := Lib.hid (Put4.held P2); have B2 := P2.low; clear P2 B1 HH; obtain ⟨p0, p1, p2, p3⟩ := HH2.out.cells)
                refine (bytesd_any ⟨s2, u2, f2, dd2⟩ (KP2.out.ok (by omega)) _).mono ?_
                rintro e y1 ⟨rfl, rfl⟩
                dsimp only
                rw [HCAT.out]
                have B3 := B2.alloc B2.size (.cells #[.string s2, .string u2, .int .i64 f2, .bool dd2] 32)
                have HH3 := Lib.hid (HH2.out.alloc (.cells #[.string s2, .string u2, .int .i64 f2, .bool dd2] 32))
                generalize (W2.alloc (.cells #[.string s2, .string u2, .int .i64 f2, .bool dd2] 32)) = W3 at *
                clear p0 p1 p2 p3 HH2 B2
                obtain ⟨p0, p1, p2, p3⟩ := HH3.out.cells
                go_wp2_with fail
                go_roundw
                case rel => exact ⟨k + 1, by omega, by go_num, _, _, _, rfl, rfl, KP2.out, HH3.out, B3⟩
                case measure => simp [intOf]; omega
              · have KP2 := Lib.hid kp2
                clear kp2
                have hne : (Dk.sync ⟨s0, u0, f0, d0⟩).2 ≠ 0 := h0
                have hne2 : ((Dk.sync ⟨s0, u0, f0, d0⟩).2 == 0) = false := by simpa using hne
                clear hne
                clear h0
                generalize (Dk.sync ⟨s0, u0, f0, d0⟩).2 = er at *
                generalize (Dk.sync ⟨s0, u0, f0, d0⟩).1 = d2 at *
                obtain ⟨s2, u2, f2, dd2⟩ := d2
                have hcat : s2 ++ u2 = all := KP2.out.cat
                have hpre : s2.extract 0 (sure).size = sure := KP2.out.pre
                have hle : (sure).size ≤ s2.size := KP2.out.le
                have HCAT := Lib.hid hcat
                have hsml := (KP2.out.small (by omega)).2
                dsimp only at hsml
                clear hcat
                go_wp2_with (refine store_dk rfl _ _ rfl rfl w w.heap.size ⟨s2, u2, f2, dd2⟩ rfl rfl _ HH.out rfl B1 (Nat.le_refl _) ?_; intro W2 P2; have HH2 := Lib.hid (Put4.held P2); have B2 := P2.low; clear P2 B1 HH; obtain ⟨p0, p1, p2, p3⟩ := HH2.out.cells)
                refine (bytesd_any ⟨s2, u2, f2, dd2⟩ (KP2.out.ok (by omega)) _).mono ?_
                rintro e y1 ⟨rfl, rfl⟩
                dsimp only
                rw [HCAT.out]
                have B3 := B2.alloc B2.size (.cells #[.string s2, .string u2, .int .i64 f2, .bool dd2] 32)
                have HH3 := Lib.hid (HH2.out.alloc (.cells #[.string s2, .string u2, .int .i64 f2, .bool dd2] 32))
                generalize (W2.alloc (.cells #[.string s2, .string u2, .int .i64 f2, .bool dd2] 32)) = W3 at *
                clear p0 p1 p2 p3 HH2 B2
                obtain ⟨p0, p1, p2, p3⟩ := HH3.out.cells
                go_wp2_with fail
                go_roundw
                case rel => exact ⟨k + 1, by omega, by go_num, _, _, _, rfl, rfl, KP2.out, HH3.out, B3⟩
                case measure => simp [intOf]; omega
            · have hK1 : (ak == 1) = false := by simpa using h11
              have hasz := KP.out.size
              have HHD := Lib.hid hhd
              clear h11 h00 hhd
              obtain ⟨hc0, hcz, kp2⟩ := KP.out.crash an (by omega)
              have KP2 := Lib.hid kp2
              have HC0 := Lib.hid hc0
              clear kp2 hc0
              go_wp2_with fail
              go_region_with ((go_at_call 21; refine (crashd_any ⟨s0, u0, f0, d0⟩ HOK.out an _).mono ?_; rintro e x1 ⟨rfl, c1⟩; rw [HC0.out]; have HH := Lib.hid (Held.keep (W := wr.drew) HHD.out c1); obtain ⟨e0, e1, e2, e3⟩ := HH.out.cells; obtain ⟨e4, e5, e6, e7⟩ := hfree HH.out))
              all_goals
                have B2 := below_set (k := (Dk.crash ⟨s0, u0, f0, d0⟩ an).1) (g := w.heap.size) (hbel.drew.trans (c1.mono hbel.drew.size)) (Nat.le_refl _)
                have HH2 := Lib.hid (held_set (k := (Dk.crash ⟨s0, u0, f0, d0⟩ an).1) HH.out)
                clear c1 HH e0 e1 e2 e3 e4 e5 e6 e7 p0 p1 p2 p3 HOK hbel HHD HC0
                generalize (Dk.crash ⟨s0, u0, f0, d0⟩ an).1 = d2 at *
                clear q0 q1 q2
                generalize ((((x1.setCell ⟨w.heap.size, 0, none⟩ (.string d2.s)).setCell ⟨w.heap.size, 1, none⟩ (.string d2.u)).setCell ⟨w.heap.size, 2, none⟩ (.int .i64 d2.f)).setCell ⟨w.heap.size, 3, none⟩ (.bool d2.d)) = W2 at *
                obtain ⟨s2, u2, f2, dd2⟩ := d2
                obtain ⟨p0, p1, p2, p3⟩ := HH2.out.cells
                dsimp only at hcz
                have hi3 : (0 : Int) ≤ (s2.size : Int) := by omega
                have hi4 : (s2.size : Int) ≤ (all.size : Int) := by omega
                go_wp2_with fail
                go_quiet (fail)
                have B2' := below_drewN B2 nq
                have HH2' : Hid (Held (W2.drewN nq) w.heap.size ⟨s2, u2, f2, dd2⟩) := Lib.hid HH2.out
                clear HH2 B2 p0 p1 p2 p3
                generalize (W2.drewN nq) = W4 at *
                obtain ⟨p0, p1, p2, p3⟩ := HH2'.out.cells
                have hcat : s2 ++ u2 = all.extract 0 s2.size := KP2.out.cat
                have hpre : s2.extract 0 (all.extract 0 s2.size).size = all.extract 0 s2.size := KP2.out.pre
                have hle : (all.extract 0 s2.size).size ≤ s2.size := KP2.out.le
                have HCAT := Lib.hid hcat
                have HPRE := Lib.hid hpre
                have hsml := (KP2.out.small (by omega)).2
                dsimp only at hsml
                have KP3 : Hid (Kp ⟨s2, u2, f2, dd2⟩ (all.extract 0 s2.size) (all.extract 0 s2.size) (k + 1)) := Lib.hid KP2.out
                clear hcat hpre KP2
                generalize all.extract 0 s2.size = all2 at *
                have hpre2 : s2.extract 0 all2.size = all2 := HPRE.out
                go_wp2_with fail
                refine (bytesd_any ⟨s2, u2, f2, dd2⟩ (KP3.out.ok (by omega)) _).mono ?_
                rintro e y1 ⟨rfl, rfl⟩
                dsimp only
                rw [HCAT.out]
                have B3 := B2'.alloc B2'.size (.cells #[.string s2, .string u2, .int .i64 f2, .bool dd2] 32)
                have HH3 := Lib.hid (HH2'.out.alloc (.cells #[.string s2, .string u2, .int .i64 f2, .bool dd2] 32))
                generalize (W4.alloc (.cells #[.string s2, .string u2, .int .i64 f2, .bool dd2] 32)) = W3 at *
                clear p0 p1 p2 p3 HH2' B2'
                obtain ⟨p0, p1, p2, p3⟩ := HH3.out.cells
                go_wp2_with fail
                go_roundw
                case rel => exact ⟨k + 1, by omega, by go_num, _, _, _, rfl, rfl, KP3.out, HH3.out, B3⟩
                case measure => simp [intOf]; omega
        · skip
          go_wp2_with fail
          refine (low hbel (awake9_any _)).mono ?_
          rintro e x1 ⟨rfl, b1⟩
          go_wp2_with fail
          go_ret
          exact ⟨rfl, b1⟩
      · clear hhd
        go_wp2_with fail
        refine (low hbel (awake9_any _)).mono ?_
        rintro e x1 ⟨rfl, b1⟩
        go_wp2_with fail
        go_ret
        exact ⟨rfl, b1⟩
  · go_enter Try.func6, Try.ntmps6
    go_wp2_with fail
    refine (awake9_any _).mono ?_
    rintro e x1 ⟨rfl, b1⟩
    go_wp2_with fail
    go_ret
    exact ⟨rfl, b1⟩

theorem laidOut : laidOutB Try.prog = true := by kernel_rfl
set_option maxRecDepth 100000 in
theorem lifted (os : Os) (started : os.Started) (H : Type) (enc : TypeId × Value → H) :
    ReturnsInHanded {} Try.checked os 6 .any (Rows.diskKeepsSpec.pre6 enc Try.prog Try.f6 Rows.diskKeepsRow.domain false) (Rows.diskKeepsSpec.post enc Try.prog Try.f6 false true false false) := by
  refine returnsInHanded_of_change (C := Try.checked) own started (by kernel_rfl) Try.func6
    (ChangeSpec.witness6 (enc := enc) (C := Try.checked) false ⟨#[], #[.slice none 0 0, .int .u8 0], []⟩ 8 (by kernel_rfl) (by kernel_rfl) (by kernel_rfl) (by kernel_rfl)) ?_
  intro W base args ds gs before hval0 hW hcnd _
  have hval : ∀ (j : Nat) t v, Try.f6.params[j]? = some t → args[j]? = some v → Value.okWide Try.prog W .any base t v := hval0
  have hW' := hW
  obtain ⟨p, q, hA0, hV, rfl, hfz, hnd⟩ := hW
  have hA : DataW.TrodAll enc Try.prog W 0 (fun _ => true) true Try.f6.params.toList args.toList ds p := hA0
  rw [Try.params6] at hA hval
  obtain ⟨v0, vs0, d0, ds0, p0, q0, hargs, rfl, rfl, h0, r0⟩ := trodAll_cons hA
  obtain ⟨v1, vs1, d1, ds1, p1, q1, rfl, rfl, rfl, h1, r1⟩ := trodAll_cons r0
  obtain ⟨rfl, rfl, rfl⟩ := trodAll_nil r1
  obtain rfl : args = #[v0, v1] := by cases args; simp_all
  obtain ⟨rfl, rfl⟩ := trodVars_none hV
  obtain ⟨a0, len0, cap0, rfl⟩ := okWide_slice Try.underlying40 (hval 0 40 v0 rfl rfl)
  have k0 := h0
  have lt0 : ∀ x ∈ p0, x.block < W.heap.size := by obtain ⟨m, hm⟩ := k0; exact DataW.trod_lt m _ _ _ hm
  obtain ⟨l0, w0⟩ := open_acts h0
  obtain ⟨a1, rfl, rfl, rfl, w1⟩ := open_int Try.underlying5 (hval 1 5 v1 rfl rfl) h1
  clear hA0 hval0
  refine (walk a0 len0 cap0 l0 a1 W w0 w1).mono fun e W' ⟨he, bel⟩ => ?_
  subst he
  exact ⟨_, rfl, _, _, _, [], _, [], hW', trodAll_mk1 (shut_bool Try.underlying4 _), (trodAll_cons_mk (Below.trod laidOut (by kernel_rfl) (of_decide_eq_true (by kernel_rfl)) k0 bel lt0) (trodAll_cons_mk (shut_int Try.underlying5 w1) trodAll_mk0)), rfl, bel.frame _, fun h => by cases h⟩

theorem over : Rows.diskKeepsRow.holds Try.pinned (OpenSpec.ofChange Rows.diskKeepsSpec) :=
  OpenClaim.holds_of_wide 6 Try.f6 rfl rfl rfl rfl rfl rfl rfl ⟨rfl, rfl, rfl, rfl, rfl⟩ rfl rfl rfl rfl rfl (by kernel_rfl) Try.func6 (by kernel_rfl)
    (of_decide_eq_true (by kernel_rfl)) (by unfold Func.isWrapper; first | (rw [if_pos (by decide +kernel)]; kernel_rfl) | (rw [if_neg (by decide +kernel)]; exact ⟨rfl, rfl⟩))
    (fun os started H enc _ => lifted os started H enc)

theorem proved : Rows.DiskKeepsSaid :=
  over
end Go.Proofs.Ytgffoepnkpkhaaa.diskKeeps
#print axioms Go.Proofs.Ytgffoepnkpkhaaa.diskKeeps.proved
