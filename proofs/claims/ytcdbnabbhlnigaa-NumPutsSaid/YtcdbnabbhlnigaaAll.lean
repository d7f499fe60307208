/- The walks of num.All, of the reference's All and Text; a slice of int64. -/
import Derived.Test.YtcdbnabbhlnigaaBld
import Derived.Test.YtcdbnabbhlnigaaNum3
namespace Go.Proofs.Ytcdbnabbhlnigaa
open Go.ChangeShapes Go.RowKit

theorem plain_of_cell {W : World} {x : Addr} {v : Value} (h : W.cell? x = some v) : x = ⟨x.block, x.off, none⟩ := by
  obtain ⟨b, o, s⟩ := x
  cases s with
  | none => rfl
  | some s =>
    unfold World.cell? at h
    simp at h
    split at h <;> simp_all
theorem lt_of_cell {W : World} {b o : Nat} {v : Value} (h : W.cell? ⟨b, o, none⟩ = some v) : b < W.heap.size := by
  rcases Nat.lt_or_ge b W.heap.size with h' | h'
  · exact h'
  · simp [World.cell?, Array.getElem?_eq_none h'] at h
theorem low {P : Program} {f : FuncId} {args : Array Value} {w0 W : World} {R : Ending} (hb : Below w0.heap.size w0 W) (h : Calls P f args W fun e w' => e = R ∧ Below W.heap.size W w') :
    Calls P f args W fun e w' => e = R ∧ Below w0.heap.size w0 w' := h.mono fun _ _ ⟨he, hc⟩ => ⟨he, hb.trans (hc.mono hb.size)⟩
/-- a slice of numbers that reads as a list -/
def Nums (w : World) (v : Value) (zs : List Int) : Prop :=
  ∃ a cap, v = .slice a zs.length cap ∧ zs.length ≤ cap ∧ cap ≤ maxLen ∧ (0 < zs.length → ∃ b off, a = some ⟨b, off, none⟩ ∧ b < w.heap.size ∧ ∀ i (h : i < zs.length), w.cell? ⟨b, off + i, none⟩ = some (.int .i64 zs[i]))
theorem Nums.keep {w w' : World} {v : Value} {zs : List Int} (h : Nums w v zs) (hb : Below w.heap.size w w') : Nums w' v zs := by
  obtain ⟨a, cap, hv, h1, h2, hc⟩ := h
  refine ⟨a, cap, hv, h1, h2, fun h0 => ?_⟩
  obtain ⟨b, off, ha, hlt, hcl⟩ := hc h0
  exact ⟨b, off, ha, Nat.lt_of_lt_of_le hlt hb.size, fun i hi => (hb.cell (p := ⟨b, off + i, none⟩) hlt).trans (hcl i hi)⟩
/-- every one is an int64 -/
def Fit (zs : List Int) : Prop := ∀ z ∈ zs, -9223372036854775808 ≤ z ∧ z ≤ 9223372036854775807
/-- the bytes of all -/
def puts (zs : List Int) : List UInt8 := (zs.map Vint.put).flatten
theorem puts_snoc (zs : List Int) (z : Int) : puts (zs ++ [z]) = puts zs ++ Vint.put z := by simp [puts]
theorem puts_take (zs : List Int) (k : Nat) (h : k < zs.length) : puts (zs.take (k + 1)) = puts (zs.take k) ++ Vint.put zs[k] := by
  rw [List.take_succ_eq_append_getElem h, puts_snoc]
theorem enc_len (k z : Nat) : (Vint.enc k z).length ≤ k + 1 := by
  induction k generalizing z with
  | zero => simp [Vint.enc]
  | succ k ih =>
    unfold Vint.enc
    split
    · simp
    · have := ih (z / 128); simp; omega
theorem put_len (n : Int) : (Vint.put n).length ≤ 10 := enc_len 9 _
theorem puts_len (zs : List Int) : (puts zs).length ≤ 10 * zs.length := by
  induction zs with
  | nil => simp [puts]
  | cons z zs ih =>
    have h := put_len z
    simp only [puts, List.map_cons, List.flatten_cons, List.length_append, List.length_cons] at ih ⊢
    omega
theorem cells_snoc (l m : List UInt8) : Lib.byteCells l ++ Lib.strCells ⟨m.toArray⟩ = Lib.byteCells (l ++ m) := by
  simp [Lib.byteCells, Lib.strCells]
theorem own_keep {w w' : World} {base : Nat} {e : TypeId} {size : Nat} {v : Value} {n : Nat} {xs : List Value} (h : w.ownsRow base e size v n xs) (hb : Below w.heap.size w w') : w'.ownsRow base e size v n xs := by
  obtain ⟨h1, h2⟩ := h
  refine ⟨h1, ?_⟩
  rcases h2 with h2 | ⟨g, cap, cur, hv, hg, hh, r⟩
  · exact Or.inl h2
  · refine Or.inr ⟨g, cap, cur, hv, hg, ?_, r⟩
    have hlt : g < w.heap.size := by
      rcases Nat.lt_or_ge g w.heap.size with h' | h'
      · exact h'
      · simp [Array.getElem?_eq_none h'] at hh
    exact (hb.block g hlt).trans hh
theorem bat_keep {T e : TypeId} {B b : Nat} {p : Value} {bs : List Value} {w w' : World} (h : Lib.BuilderAt T e B b p bs w) (hb : Below w.heap.size w w') : Lib.BuilderAt T e B b p bs w' := by
  have hlt := h.lt
  obtain ⟨hB, v, hbk, hown, hne⟩ := h
  exact ⟨hB, v, (hb.block b hlt).trans hbk, own_keep hown hb, hne⟩
theorem bld_keep {T e : TypeId} {B b : Nat} {bs : List Value} {w w' : World} (h : Lib.IsBuilder T e B b bs w) (hb : Below w.heap.size w w') : Lib.IsBuilder T e B b bs w' := by
  rcases h with h | h
  · exact Or.inl (bat_keep h hb)
  · exact Or.inr (bat_keep h hb)
def AllRel (zs : List Int) (w wr : World) (k : Nat) : Prop := Lib.IsBuilder 59 5 w.heap.size w.heap.size (Lib.byteCells (puts (zs.take k))) wr ∧ Below w.heap.size w wr
set_option maxHeartbeats 2000000 in
set_option maxRecDepth 100000 in
theorem all_any (v : Value) (zs : List Int) (w : World) (hv : Nums w v zs) (hf : Fit zs) (hn : zs.length ≤ 1000000) :
    Calls Try.prog 21 #[v] w fun e w' => e = .returned (.string ⟨(puts zs).toArray⟩) ∧ Below w.heap.size w w' := by
  obtain ⟨a, cap, rfl, hc1, hc2, hcell⟩ := hv
  unfold maxLen at hc2
  have HCELL := Lib.hid hcell
  have HF := Lib.hid hf
  clear hcell hf
  go_enter Try.func21, Try.ntmps21
  go_wp2
  have h0 : AllRel zs w (w.alloc (.cells #[.pointer none, .slice none 0 0] 59)) 0 := ⟨Lib.fresh_isBuilder 59 5 w, (Below.refl _ _).alloc (Nat.le_refl _) _⟩
  generalize (w.alloc (.cells #[.pointer none, .slice none 0 0] 59)) = W1 at *
  go_loopw [8] (fun i wr => ∃ k : Nat, k ≤ zs.length ∧ i = .int .i64 k ∧ AllRel zs w wr k) (fun i _ => zs.length - (intOf i).toNat)
  case atStart => exact ⟨0, Nat.zero_le _, rfl, h0⟩
  case round =>
    obtain ⟨k, hk, rfl, hbld, hbel⟩ := hrel
    by_cases hlt : k < zs.length
    · obtain ⟨b, off, rfl, hbl, hcl⟩ := HCELL.out (by omega)
      have g0 := (hbel.cell (p := ⟨b, off + k, none⟩) hbl).trans (hcl k hlt)
      obtain ⟨z1, z2⟩ := HF.out zs[k] (List.getElem_mem hlt)
      have HP := Lib.hid (puts_take zs k hlt)
      have hl1 := puts_len (zs.take k)
      have hl2 : (zs.take k).length ≤ k := List.length_take_le _ _
      clear hcl
      generalize zs[k] = z at *
      have hz := put_len z
      go_wp2_with fail
      refine (put_any z z1 z2 _).mono ?_
      rintro e x1 ⟨rfl, c1⟩
      have b1 := hbel.trans (c1.mono hbel.size)
      have hbld1 := bld_keep hbld c1
      have hps : (ByteArray.mk (Vint.put z).toArray).size ≤ 10 := by show (Vint.put z).toArray.size ≤ 10; rw [List.size_toArray]; exact hz
      have hbl2 : (Lib.byteCells (puts (zs.take k))).length + (ByteArray.mk (Vint.put z).toArray).size ≤ 140737488355328 := by rw [Lib.byteCells_length]; omega
      have hb1s := b1.size
      clear hbld c1 hbel
      go_wp2_with fail
      refine (bwrite w.heap.size w.heap.size _ (ByteArray.mk (Vint.put z).toArray) _ hbld1 hbl2 hb1s).mono ?_
      rintro e x2 ⟨rfl, hat, c2⟩
      rw [cells_snoc, ← HP.out] at hat
      have hrel2 : AllRel zs w x2 (k + 1) := ⟨Or.inr hat, b1.trans c2⟩
      clear hat c2 hbld1 b1
      go_wp2_with fail
      go_roundw
      case rel => exact ⟨k + 1, by omega, by go_num, hrel2⟩
      case measure => simp [intOf]; omega
    · rw [List.take_of_length_le (by omega)] at hbld
      have hbs := hbel.size
      go_wp2_with fail
      refine (Try.Builder_String_any w.heap.size w.heap.size (puts zs) _ hbld hbs).mono ?_
      rintro e x2 ⟨rfl, c2⟩
      go_wp2_with fail
      go_ret
      exact ⟨rfl, hbel.trans c2⟩
theorem nil_cat (l : List UInt8) : (ByteArray.mk (l.toArray)) = ⟨l.toArray⟩ := rfl
set_option maxHeartbeats 2000000 in
set_option maxRecDepth 100000 in
theorem refall_any (v : Value) (zs : List Int) (w : World) (hv : Nums w v zs) (hf : Fit zs) (hn : zs.length ≤ 1000000) :
    Calls Try.prog 22 #[v] w fun e w' => e = .returned (.string ⟨(puts zs).toArray⟩) ∧ Below w.heap.size w w' := by
  obtain ⟨a, cap, rfl, hc1, hc2, hcell⟩ := hv
  unfold maxLen at hc2
  have HCELL := Lib.hid hcell
  have HF := Lib.hid hf
  clear hcell hf
  go_enter Try.func22, Try.ntmps22
  go_wp2
  go_loopw [3, 4] (fun s i wr => ∃ k : Nat, k ≤ zs.length ∧ i = .int .i64 k ∧ s = .string ⟨(puts (zs.take k)).toArray⟩ ∧ Below w.heap.size w wr) (fun _ i _ => zs.length - (intOf i).toNat)
  case atStart => exact ⟨0, Nat.zero_le _, rfl, rfl, Below.refl _ _⟩
  case round =>
    obtain ⟨k, hk, rfl, rfl, hbel⟩ := hrel
    by_cases hlt : k < zs.length
    · obtain ⟨b, off, rfl, hbl, hcl⟩ := HCELL.out (by omega)
      have g0 := (hbel.cell (p := ⟨b, off + k, none⟩) hbl).trans (hcl k hlt)
      obtain ⟨z1, z2⟩ := HF.out zs[k] (List.getElem_mem hlt)
      have HP := Lib.hid (puts_take zs k hlt)
      have hl1 := puts_len (zs.take k)
      have hl2 : (zs.take k).length ≤ k := List.length_take_le _ _
      clear hcl
      generalize zs[k] = z at *
      have hz := put_len z
      have hps : (ByteArray.mk (Vint.put z).toArray).size ≤ 10 := by show (Vint.put z).toArray.size ≤ 10; rw [List.size_toArray]; exact hz
      have hpl : (ByteArray.mk (puts (zs.take k)).toArray).size ≤ 10000000 := by show (puts (zs.take k)).toArray.size ≤ 10000000; rw [List.size_toArray]; omega
      go_wp2_with fail
      refine (low hbel (refput_any z z1 z2 _)).mono ?_
      rintro e x1 ⟨rfl, b1⟩
      go_wp2_with fail
      rw [cat_lists, ← HP.out]
      go_roundw
      case rel => exact ⟨k + 1, by omega, by go_num, rfl, b1⟩
      case measure => simp [intOf]; omega
    · rw [List.take_of_length_le (by omega)]
      go_wp2_with fail
      go_ret
      exact ⟨rfl, hbel⟩
set_option maxHeartbeats 400000 in
set_option maxRecDepth 100000 in
theorem reftext_any (s : ByteArray) (hs : s.size ≤ 1000000000000) (w : World) :
    Calls Try.prog 24 #[.string s] w fun e w' => e = .returned (.string ((⟨(Vint.put (s.size : Int)).toArray⟩ : ByteArray) ++ s)) ∧ Below w.heap.size w w' := by
  have hz := put_len (s.size : Int)
  have hps : (ByteArray.mk (Vint.put (s.size : Int)).toArray).size ≤ 10 := by show (Vint.put (s.size : Int)).toArray.size ≤ 10; rw [List.size_toArray]; exact hz
  go_enter Try.func24, Try.ntmps24
  go_wp2_with fail
  refine (refput_any (s.size : Int) (by omega) (by omega) _).mono ?_
  rintro e x1 ⟨rfl, b1⟩
  go_wp2_with fail
  go_ret
  exact ⟨rfl, b1⟩
end Go.Proofs.Ytcdbnabbhlnigaa
