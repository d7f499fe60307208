/- The walks of codec.has, values, Check, Put. -/
import Derived.Test.YtcdbnabbhlnigaaDoorCm
import Derived.Test.YtcdbnabbhlnigaaDoorBld
import Derived.Test.YtcdbnabbhlnigaaDoorNum2
import Derived.Below
import Derived.Laws.EntriesVeiled
namespace Go.Proofs.YtcdbnabbhlnigaaDoor
open Go.RowKit

theorem low {P : Program} {f : FuncId} {args : Array Value} {w0 W : World} {R : Ending} (hb : Below w0.heap.size w0 W) (h : Calls P f args W fun e w' => e = R ∧ Below W.heap.size W w') :
    Calls P f args W fun e w' => e = R ∧ Below w0.heap.size w0 w' := h.mono fun _ _ ⟨he, hc⟩ => ⟨he, hb.trans (hc.mono hb.size)⟩
set_option maxHeartbeats 1000000 in
theorem has_any (k : Int) (w : World) : Calls Tryd.prog 22 #[.int .i64 k] w fun e w' => e = .returned (.tuple #[.int .i64 ((hasOf k).1 : Nat), .bool (hasOf k).2]) ∧ w = w' := by
  by_cases h : k = 2 ∨ k = 7 ∨ k = 5 ∨ k = 6 ∨ k = 4 ∨ k = 8 ∨ k = 9 ∨ k = 1 ∨ k = 10 ∨ k = 3
  · rcases h with rfl | rfl | rfl | rfl | rfl | rfl | rfl | rfl | rfl | rfl
    all_goals
      go_enter Tryd.func22, Tryd.ntmps22
      go_wp2
      go_ret2
      exact ⟨rfl, rfl⟩
  · have e : hasOf k = (0, false) := by unfold hasOf; simp only [not_or] at h; simp [h]
    have h1 : (k == 2) = false := by simp; omega
    have h2 : (k == 7) = false := by simp; omega
    have h3 : (k == 5) = false := by simp; omega
    have h4 : (k == 6) = false := by simp; omega
    have h5 : (k == 4) = false := by simp; omega
    have h6 : (k == 8) = false := by simp; omega
    have h7 : (k == 9) = false := by simp; omega
    have h8 : (k == 1) = false := by simp; omega
    have h9 : (k == 10) = false := by simp; omega
    have h10 : (k == 3) = false := by simp; omega
    rw [e]
    clear h e
    go_enter Tryd.func22, Tryd.ntmps22
    go_wp2
    go_ret2
    exact ⟨rfl, rfl⟩
@[reducible] def cval (c : Cm) : Value := .agg #[.int .i64 c.kd, .int .i64 c.id, .int .i64 c.mb, .int .i64 c.ot, .int .i64 c.sc, .int .i64 c.qt, .int .i64 c.pr]
@[reducible] def ccells (c : Cm) : Array Value := #[.int .i64 c.kd, .int .i64 c.id, .int .i64 c.mb, .int .i64 c.ot, .int .i64 c.sc, .int .i64 c.qt, .int .i64 c.pr]
def setF (j : Nat) : Value := .func (Fn.func (40 + j)) #[] #[]
/-- the six values in a row -/
def vcells (c : Cm) : Array Value := #[.int .i64 1, .int .i64 c.id, .func (Fn.func 40) #[] #[], .int .i64 2, .int .i64 c.mb, .func (Fn.func 41) #[] #[], .int .i64 4, .int .i64 c.ot, .func (Fn.func 42) #[] #[], .int .i64 8, .int .i64 c.sc, .func (Fn.func 43) #[] #[], .int .i64 16, .int .i64 c.qt, .func (Fn.func 44) #[] #[], .int .i64 32, .int .i64 c.pr, .func (Fn.func 45) #[] #[]]
def Vals (W : World) (g : Nat) (c : Cm) : Prop := W.heap[g]? = some (.cells (vcells c) 60 (0, 0))
theorem lt_of_block {W : World} {g : Nat} {o : Obj} (h : W.heap[g]? = some o) : g < W.heap.size := by
  rcases Nat.lt_or_ge g W.heap.size with h' | h'
  · exact h'
  · simp [Array.getElem?_eq_none h'] at h
theorem Vals.lt {W : World} {g : Nat} {c : Cm} (h : Vals W g c) : g < W.heap.size := lt_of_block h
theorem Vals.cel {W : World} {g : Nat} {c : Cm} (h : Vals W g c) : ∀ j, j < 6 → W.cell? ⟨g, j * 3, none⟩ = some (.int .i64 (bitOf j : Nat)) ∧ W.cell? ⟨g, j * 3 + 1, none⟩ = some (.int .i64 (c.at j)) ∧ W.cell? ⟨g, j * 3 + 2, none⟩ = some (setF j) := by
  intro j hj
  have hh : W.heap[g]? = some (.cells (vcells c) 60 (0, 0)) := h
  obtain rfl | rfl | rfl | rfl | rfl | rfl : j = 0 ∨ j = 1 ∨ j = 2 ∨ j = 3 ∨ j = 4 ∨ j = 5 := by omega
  all_goals exact ⟨by rw [Lib.cell_of_heap hh]; rfl, by rw [Lib.cell_of_heap hh]; rfl, by rw [Lib.cell_of_heap hh]; rfl⟩
theorem Vals.keep {W W' : World} {g : Nat} {c : Cm} (h : Vals W g c) (hb : Below W.heap.size W W') : Vals W' g c := (hb.block g h.lt).trans h
theorem Vals.kept {W W' : World} {g b : Nat} {c : Cm} (h : Vals W g c) (hk : Lib.OthersKept 5 (some b) W W') (hg : g ≠ b) : Vals W' g c :=
  hk g _ h (by simpa using hg) (by intro c fz e; injection e with _ e2; exact absurd e2 (by decide))
/-- a command in a block of its own -/
def Boxed (W : World) (g : Nat) (c : Cm) : Prop := W.heap[g]? = some (.cells (ccells c) 29 (0, 0))
theorem Boxed.lt {W : World} {g : Nat} {c : Cm} (h : Boxed W g c) : g < W.heap.size := lt_of_block h
theorem Boxed.keep {W W' : World} {g : Nat} {c : Cm} (h : Boxed W g c) (hb : Below W.heap.size W W') : Boxed W' g c := (hb.block g h.lt).trans h
theorem Boxed.kept {W W' : World} {g b : Nat} {c : Cm} (h : Boxed W g c) (hk : Lib.OthersKept 5 (some b) W W') (hg : g ≠ b) : Boxed W' g c :=
  hk g _ h (by simpa using hg) (by intro c fz e; injection e with _ e2; exact absurd e2 (by decide))
theorem Boxed.new (W : World) (c : Cm) : Boxed (W.alloc (.cells (ccells c) 29)) W.heap.size c := heap_alloc_new _ _
theorem Boxed.cells {W : World} {g : Nat} {c : Cm} (h : Boxed W g c) : W.cell? ⟨g, 0, none⟩ = some (.int .i64 c.kd) ∧ W.cell? ⟨g, 1, none⟩ = some (.int .i64 c.id) ∧ W.cell? ⟨g, 2, none⟩ = some (.int .i64 c.mb) ∧ W.cell? ⟨g, 3, none⟩ = some (.int .i64 c.ot) ∧
    W.cell? ⟨g, 4, none⟩ = some (.int .i64 c.sc) ∧ W.cell? ⟨g, 5, none⟩ = some (.int .i64 c.qt) ∧ W.cell? ⟨g, 6, none⟩ = some (.int .i64 c.pr) := by
  have hh : W.heap[g]? = some (.cells (ccells c) 29 (0, 0)) := h
  exact ⟨by rw [Lib.cell_of_heap hh]; rfl, by rw [Lib.cell_of_heap hh]; rfl, by rw [Lib.cell_of_heap hh]; rfl, by rw [Lib.cell_of_heap hh]; rfl, by rw [Lib.cell_of_heap hh]; rfl, by rw [Lib.cell_of_heap hh]; rfl, by rw [Lib.cell_of_heap hh]; rfl⟩
def ValsPost (c : Cm) (w : World) (e : Ending) (w' : World) : Prop := ∃ g, e = .returned (.slice (some ⟨g, 0, none⟩) 6 6) ∧ Vals w' g c ∧ w.heap.size < g ∧ Below w.heap.size w w'
set_option maxHeartbeats 1000000 in
set_option maxRecDepth 100000 in
theorem values_any (c : Cm) (w : World) : Calls Tryd.prog 25 #[cval c] w (ValsPost c w) := by
  obtain ⟨kd, id, mb, ot, sc, qt, pr⟩ := c
  go_enter Tryd.func25, Tryd.ntmps25
  go_wp2
  go_ret
  refine ⟨w.heap.size + 1, rfl, ?_, Nat.lt_succ_self _, ((Below.refl _ _).alloc (Nat.le_refl _) _).alloc (by simp) _⟩
  exact heap_alloc2_new _ _ _
theorem bits_and : ∀ b : Fin 64, ∀ j : Fin 6, bits .and .i64 ((b.val : Nat) : Int) ((bitOf j.val : Nat) : Int) = if hasF b.val j.val then ((bitOf j.val : Nat) : Int) else 0 := by decide +kernel
theorem bits_yes (b j : Nat) (hb : b < 64) (hj : j < 6) (h : hasF b j = true) : (bits .and .i64 (b : Int) (bitOf j : Int) == 0) = false ∧ (bits .and .i64 (b : Int) (bitOf j : Int) != 0) = true := by
  have := bits_and ⟨b, hb⟩ ⟨j, hj⟩
  simp only [h, if_true] at this
  rw [this]
  have h2 : 0 < bitOf j := Nat.two_pow_pos j
  constructor
  · simp; omega
  · simp; omega
theorem bits_no (b j : Nat) (hb : b < 64) (hj : j < 6) (h : hasF b j = false) : (bits .and .i64 (b : Int) (bitOf j : Int) == 0) = true ∧ (bits .and .i64 (b : Int) (bitOf j : Int) != 0) = false := by
  have := bits_and ⟨b, hb⟩ ⟨j, hj⟩
  simp only [h] at this
  rw [this]
  exact ⟨rfl, rfl⟩
/-- the error of a command's form -/
def Cm.err (c : Cm) : Int := if c.right then 0 else 3
def CheckRel (c : Cm) (w wr : World) (g k : Nat) : Prop := fine (hasOf c.kd).1 c k = true ∧ Vals wr g c ∧ Below w.heap.size w wr
set_option maxHeartbeats 2000000 in
set_option maxRecDepth 100000 in
theorem check_any (c : Cm) (w : World) : Calls Tryd.prog 13 #[cval c] w fun e w' => e = .returned (.int .i64 c.err) ∧ Below w.heap.size w w' := by
  have hlt := hasOf_lt c.kd
  by_cases hk : (hasOf c.kd).2 = true
  · have HR : Hid (c.right = fine (hasOf c.kd).1 c 6) := Lib.hid (by unfold Cm.right; rw [hk]; rfl)
    have HK := Lib.hid hk
    clear hk
    go_enter Tryd.func13, Tryd.ntmps13
    go_wp2_with fail
    refine (has_any _ _).mono ?_
    rintro e w1 ⟨rfl, rfl⟩
    rw [HK.out]
    go_wp2_with fail
    refine (values_any c _).mono ?_
    rintro e w2 ⟨g, rfl, hv, _, c2⟩
    have b2 : Below w.heap.size w w2 := ((Below.refl w.heap.size w).alloc (Nat.le_refl _) _).trans (c2.mono (by simp))
    clear c2
    generalize hbb : (hasOf c.kd).1 = bb at *
    have HBB := Lib.hid hbb
    clear hbb
    go_wp2_with fail
    go_loopw [18] (fun i wr => ∃ k : Nat, k ≤ 6 ∧ i = .int .i64 k ∧ CheckRel c w wr g k) (fun i _ => 6 - (intOf i).toNat)
    case atStart => exact ⟨0, Nat.zero_le _, rfl, rfl, hv, b2⟩
    case round =>
      obtain ⟨k, hk, rfl, hfine, hvals, hbel⟩ := hrel
      rw [HBB.out] at hfine
      have HFI := Lib.hid hfine
      have hgl := hvals.lt
      clear hfine
      by_cases hlt6 : k < 6
      · obtain ⟨q0, q1, q2⟩ := hvals.cel k hlt6
        unfold setF at q2
        have HV := Lib.hid hvals
        have hs6 : (k : Int) < 6 := by omega
        clear hvals hv
        have hfs := fine_succ bb c k
        rw [HFI.out] at hfs
        cases hh : hasF bb k
        · obtain ⟨t1, t2⟩ := bits_no bb k hlt hlt6 hh
          rw [hh] at hfs
          have HFS := Lib.hid hfs
          clear hfs hh
          by_cases hz : c.at k = 0
          · have hzb : (c.at k != 0) = false := by simp [hz]
            have HZ := Lib.hid hz
            clear hz
            go_wp2_with fail
            go_roundw
            case rel => exact ⟨k + 1, by omega, by go_num, by rw [HBB.out, HFS.out]; simp [HZ.out], HV.out.keep ((Below.refl _ _).alloc (Nat.le_refl _) _), hbel.alloc hbel.size _⟩
            case measure => simp [intOf]; omega
          · have hzb : (c.at k != 0) = true := by simpa using hz
            have HE : Hid (c.err = 3) := Lib.hid (by
              unfold Cm.err
              rw [HR.out, if_neg]
              rw [fine_false bb c (k + 1) (by rw [HFS.out]; simpa using hz) 6 (by omega)]
              simp)
            clear hz
            go_wp2_with fail
            go_ret
            exact ⟨by rw [HE.out]; rfl, hbel.alloc hbel.size _⟩
        · obtain ⟨t1, t2⟩ := bits_yes bb k hlt hlt6 hh
          rw [hh] at hfs
          have HFS := Lib.hid hfs
          clear hfs hh
          go_wp2_with fail
          go_roundw
          case rel => exact ⟨k + 1, by omega, by go_num, by rw [HBB.out, HFS.out]; rfl, HV.out.keep ((Below.refl _ _).alloc (Nat.le_refl _) _), hbel.alloc hbel.size _⟩
          case measure => simp [intOf]; omega
      · obtain rfl : k = 6 := by omega
        have HE : Hid (c.err = 0) := Lib.hid (by unfold Cm.err; rw [HR.out, HFI.out]; rfl)
        clear hvals hv
        go_wp2_with fail
        go_ret
        exact ⟨by rw [HE.out]; rfl, hbel⟩
  · have hk2 : (hasOf c.kd).2 = false := by simpa using hk
    have HE : Hid (c.err = 3) := Lib.hid (by unfold Cm.err Cm.right; rw [hk2]; rfl)
    have HK := Lib.hid hk2
    clear hk hk2
    rw [HE.out]
    go_enter Tryd.func13, Tryd.ntmps13
    go_wp2_with fail
    refine (has_any _ _).mono ?_
    rintro e w1 ⟨rfl, rfl⟩
    rw [HK.out]
    go_wp2_with fail
    go_ret
    exact ⟨rfl, (Below.refl _ _).alloc (Nat.le_refl _) _⟩
/-- what Put returns -/
def Cm.text (c : Cm) : ByteArray := if c.right then ⟨c.bytes.toArray⟩ else ⟨#[]⟩
theorem cells_snoc (l m : List UInt8) : Lib.byteCells l ++ Lib.strCells ⟨m.toArray⟩ = Lib.byteCells (l ++ m) := by
  simp [Lib.byteCells, Lib.strCells]
theorem enc_len (k z : Nat) : (Vint.enc k z).length ≤ k + 1 := (Vint.enc_len k z).2
theorem put_len (n : Int) : (Vint.put n).length ≤ 10 := enc_len 9 _
theorem put_size (n : Int) : (ByteArray.mk (Vint.put n).toArray).size ≤ 10 := by show (Vint.put n).toArray.size ≤ 10; rw [List.size_toArray]; exact put_len n
theorem vals_len (b : Nat) (c : Cm) (j : Nat) : (vals b c j).length ≤ 10 * j := by
  induction j with
  | zero => simp [vals]
  | succ j ih =>
    rw [vals_succ, List.length_append]
    have := put_len (c.at j)
    split
    · omega
    · simp; omega
theorem own_keep {w w' : World} {base : Nat} {e : TypeId} {size : Nat} {v : Value} {n : Nat} {xs : List Value} (h : w.ownsRow base e size v n xs) (hb : Below w.heap.size w w') : w'.ownsRow base e size v n xs := by
  obtain ⟨h1, h2⟩ := h
  refine ⟨h1, ?_⟩
  rcases h2 with h2 | ⟨g, cap, cur, hv, hg, hh, r⟩
  · exact Or.inl h2
  · refine Or.inr ⟨g, cap, cur, hv, hg, ?_, r⟩
    have hlt : g < w.heap.size := by
      rcases Nat.lt_or_ge g w.heap.size with h' | h'
      · exact h'
      · simp [Array.getElem?_eq_none h'] at hh
    exact (hb.block g hlt).trans hh
theorem bat_keep {T e : TypeId} {B b : Nat} {p : Value} {bs : List Value} {w w' : World} (h : Lib.BuilderAt T e B b p bs w) (hb : Below w.heap.size w w') : Lib.BuilderAt T e B b p bs w' := by
  have hlt := h.lt
  obtain ⟨hB, v, hbk, hown, hne⟩ := h
  exact ⟨hB, v, (hb.block b hlt).trans hbk, own_keep hown hb, hne⟩
theorem bld_keep {T e : TypeId} {B b : Nat} {bs : List Value} {w w' : World} (h : Lib.IsBuilder T e B b bs w) (hb : Below w.heap.size w w') : Lib.IsBuilder T e B b bs w' := by
  rcases h with h | h
  · exact Or.inl (bat_keep h hb)
  · exact Or.inr (bat_keep h hb)
theorem bld_lt {T e : TypeId} {B b : Nat} {bs : List Value} {w : World} (h : Lib.IsBuilder T e B b bs w) : b < w.heap.size := by
  rcases h with h | h
  · exact h.lt
  · exact h.lt
/-- the loop of Put: the builder b holds the kind's bytes and those of the first k values -/
structure CPutRel (c : Cm) (w wr : World) (b g k : Nat) : Prop where
  bld : Lib.IsBuilder 50 5 b b (Lib.byteCells (Vint.put c.kd ++ vals (hasOf c.kd).1 c k)) wr
  row : Vals wr g c
  low : Below w.heap.size w wr
  top : b ≤ wr.heap.size
set_option maxHeartbeats 2000000 in
set_option maxRecDepth 100000 in
theorem cput_any (c : Cm) (hc : c.Fit) (w : World) : Calls Tryd.prog 11 #[cval c] w fun e w' => e = .returned (.tuple #[.string c.text, .int .i64 c.err]) ∧ Below w.heap.size w w' := by
  have HFIT := Lib.hid hc
  obtain ⟨k1, k2⟩ := hc.kd
  have hlt := hasOf_lt c.kd
  clear hc
  by_cases hr : c.right = true
  · have HT : Hid (c.text = ⟨c.bytes.toArray⟩) := Lib.hid (by unfold Cm.text; rw [if_pos hr])
    have HE : Hid (c.err = 0) := Lib.hid (by unfold Cm.err; rw [if_pos hr])
    have HK : Hid ((hasOf c.kd).2 = true) := Lib.hid (by unfold Cm.right at hr; simp at hr; exact hr.1)
    clear hr
    rw [HT.out, HE.out]
    go_enter Tryd.func11, Tryd.ntmps11
    go_wp2_with fail
    refine (check_any c _).mono ?_
    rintro e w1 ⟨rfl, c1⟩
    rw [HE.out]
    have hx1 : Boxed w1 w.heap.size c := (Boxed.new w c).keep c1
    have b1 : Below w.heap.size w w1 := ((Below.refl w.heap.size w).alloc (Nat.le_refl _) _).trans (c1.mono (by simp))
    clear c1
    obtain ⟨p0, p1, p2, p3, p4, p5, p6⟩ := hx1.cells
    go_wp2_with fail
    refine (has_any _ _).mono ?_
    rintro e w2 ⟨rfl, rfl⟩
    rw [HK.out]
    have hx2 : Boxed (w1.alloc (.cells #[.pointer none, .slice none 0 0] 50)) w.heap.size c := hx1.keep ((Below.refl _ _).alloc (Nat.le_refl _) _)
    have hbl2 : Lib.IsBuilder 50 5 w1.heap.size w1.heap.size [] (w1.alloc (.cells #[.pointer none, .slice none 0 0] 50)) := Lib.fresh_isBuilder 50 5 w1
    have b2 := b1.alloc b1.size (.cells #[.pointer none, .slice none 0 0] 50)
    have hltb := hx1.lt
    go_wp2_with fail
    clear p0 p1 p2 p3 p4 p5 p6 hx1 b1
    generalize hbk : w1.heap.size = bk at *
    generalize (w1.alloc (.cells #[.pointer none, .slice none 0 0] 50)) = W2 at *
    clear hbk
    refine (put_any c.kd k1 k2 _).mono ?_
    rintro e w3 ⟨rfl, c3⟩
    have hx3 := hx2.keep c3
    have hbl3 := bld_keep hbl2 c3
    have b3 := b2.trans (c3.mono b2.size)
    have hbk3 : bk ≤ w3.heap.size := Nat.le_of_lt (bld_lt hbl3)
    clear c3 hx2 hbl2 b2
    have hps := put_size c.kd
    go_wp2_with fail
    refine (bwrite bk bk [] _ _ hbl3 (by simp only [List.length_nil]; omega) hbk3).mono ?_
    rintro e w4 ⟨rfl, hat, c4, k4⟩
    have hx4 := hx3.kept k4 (by omega)
    have hbl4 : Lib.IsBuilder 50 5 bk bk (Lib.byteCells (Vint.put c.kd)) w4 := Or.inr (by
      have := hat
      rw [List.nil_append] at this
      exact this)
    have b4 : Below w.heap.size w w4 := b3.trans (c4.mono (by omega))
    clear c4 k4 hat hx3 hbl3 b3
    obtain ⟨p0, p1, p2, p3, p4, p5, p6⟩ := hx4.cells
    go_wp2_with fail
    refine (values_any c _).mono ?_
    rintro e w5 ⟨g, rfl, hv, hg, c5⟩
    have b5 := b4.trans (c5.mono b4.size)
    have hbl5 := bld_keep hbl4 c5
    have hgb : g ≠ bk := by have := bld_lt hbl4; omega
    have hbt : bk ≤ w5.heap.size := Nat.le_of_lt (bld_lt hbl5)
    clear c5 hbl4 b4 hx4 p0 p1 p2 p3 p4 p5 p6 hg
    have h0 : CPutRel c w w5 bk g 0 := ⟨by rw [show vals (hasOf c.kd).1 c 0 = [] from rfl, List.append_nil]; exact hbl5, hv, b5, hbt⟩
    clear hv b5 hbl5
    generalize hbb : (hasOf c.kd).1 = bb at *
    have HBB := Lib.hid hbb
    clear hbb
    go_wp2_with fail
    go_loopw [28] (fun i wr => ∃ k : Nat, k ≤ 6 ∧ i = .int .i64 k ∧ CPutRel c w wr bk g k) (fun i _ => 6 - (intOf i).toNat)
    case atStart => exact ⟨0, Nat.zero_le _, rfl, h0⟩
    case round =>
      obtain ⟨k, hk, rfl, hbld, hvals, hbel, htop⟩ := hrel
      rw [HBB.out] at hbld
      have hgl := hvals.lt
      by_cases hlt6 : k < 6
      · obtain ⟨q0, q1, q2⟩ := hvals.cel k hlt6
        unfold setF at q2
        obtain ⟨v1, v2⟩ := HFIT.out.at k
        have HV := Lib.hid hvals
        have hs6 : (k : Int) < 6 := by omega
        clear hvals
        have hvs := vals_succ bb c k
        have hvl := vals_len bb c k
        have hkl := put_len c.kd
        cases hh : hasF bb k
        · obtain ⟨t1, t2⟩ := bits_no bb k hlt hlt6 hh
          rw [hh] at hvs
          have HVS := Lib.hid hvs
          clear hvs hh
          go_wp2_with fail
          go_roundw
          case rel =>
            refine ⟨k + 1, by omega, by go_num, ?_, HV.out.keep ((Below.refl _ _).alloc (Nat.le_refl _) _), hbel.alloc hbel.size _, by simp; omega⟩
            rw [HBB.out, HVS.out]
            simp only [Bool.false_eq_true, if_false, List.append_nil]
            exact bld_keep hbld ((Below.refl _ _).alloc (Nat.le_refl _) _)
          case measure => simp [intOf]; omega
        · obtain ⟨t1, t2⟩ := bits_yes bb k hlt hlt6 hh
          rw [hh] at hvs
          have HVS := Lib.hid hvs
          have HB6 := Lib.hid (bld_keep hbld ((Below.refl _ _).alloc (Nat.le_refl _) (.cells #[.int .i64 (bitOf k : Nat), .int .i64 (c.at k), .func (Fn.func (40 + k)) #[] #[]] 60)))
          have HV6 := Lib.hid (HV.out.keep ((Below.refl _ _).alloc (Nat.le_refl _) (.cells #[.int .i64 (bitOf k : Nat), .int .i64 (c.at k), .func (Fn.func (40 + k)) #[] #[]] 60)))
          have b6 := hbel.alloc hbel.size (.cells #[.int .i64 (bitOf k : Nat), .int .i64 (c.at k), .func (Fn.func (40 + k)) #[] #[]] 60)
          clear hvs hh
          go_wp2_with fail
          refine (put_any (c.at k) v1 v2 _).mono ?_
          rintro e w7 ⟨rfl, c7⟩
          have HB7 := Lib.hid (bld_keep HB6.out c7)
          have HV7 := Lib.hid (HV6.out.keep c7)
          have b7 := b6.trans (c7.mono b6.size)
          have hpz := put_size (c.at k)
          have hbk7 : bk ≤ w7.heap.size := Nat.le_of_lt (bld_lt HB7.out)
          clear c7 b6 HB6 HV6
          go_wp2_with fail
          refine (bwrite bk bk _ _ _ HB7.out (by rw [Lib.byteCells_length, List.length_append]; omega) hbk7).mono ?_
          rintro e w8 ⟨rfl, hat, c8, k8⟩
          have HV8 := Lib.hid (HV7.out.kept k8 hgb)
          have b8 : Below w.heap.size w w8 := b7.trans (c8.mono (by omega))
          have hbl8 : Lib.IsBuilder 50 5 bk bk (Lib.byteCells (Vint.put c.kd ++ vals bb c (k + 1))) w8 := Or.inr (by
            rw [HVS.out, if_pos trivial, ← List.append_assoc]
            rw [cells_snoc] at hat
            exact hat)
          have htop8 : bk ≤ w8.heap.size := Nat.le_of_lt (bld_lt hbl8)
          have HBL8 := Lib.hid hbl8
          clear c8 k8 hat b7 hbl8 HB7 HV7
          go_wp2_with fail
          go_roundw
          case rel => exact ⟨k + 1, by omega, by go_num, by rw [HBB.out]; exact HBL8.out, HV8.out, b8, htop8⟩
          case measure => simp [intOf]; omega
      · obtain rfl : k = 6 := by omega
        clear hvals
        have HBL := Lib.hid hbld
        clear hbld
        go_wp2_with fail
        refine (Tryd.Builder_String_any bk bk (Vint.put c.kd ++ vals bb c 6) _ HBL.out htop).mono ?_
        rintro e w9 ⟨rfl, c9⟩
        go_wp2_with fail
        go_ret2
        refine ⟨?_, hbel.trans (c9.mono (by omega))⟩
        unfold Cm.bytes
        rw [HBB.out]
        rfl
  · have HT : Hid (c.text = ⟨#[]⟩) := Lib.hid (by unfold Cm.text; rw [if_neg hr])
    have HE : Hid (c.err = 3) := Lib.hid (by unfold Cm.err; rw [if_neg hr])
    clear hr
    rw [HT.out, HE.out]
    go_enter Tryd.func11, Tryd.ntmps11
    go_wp2_with fail
    refine (check_any c _).mono ?_
    rintro e w1 ⟨rfl, c1⟩
    rw [HE.out]
    go_wp2_with fail
    go_ret2
    exact ⟨rfl, ((Below.refl w.heap.size w).alloc (Nat.le_refl _) _).trans (c1.mono (by simp))⟩
end Go.Proofs.YtcdbnabbhlnigaaDoor
