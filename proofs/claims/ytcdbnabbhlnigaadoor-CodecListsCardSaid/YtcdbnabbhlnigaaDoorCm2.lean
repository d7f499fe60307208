/- The plain laws of commands by letters: what is put is read, what is read has just these bytes. -/
import Derived.Test.YtcdbnabbhlnigaaDoorCm
import Derived.Test.YtcdbnabbhlnigaaDoorRead
namespace Go.Proofs.YtcdbnabbhlnigaaDoor

def zeroC : Cm := ⟨0, 0, 0, 0, 0, 0, 0⟩
/-- what a kind has, as letters -/
def lettersOf (k : Int) : List UInt8 :=
  if k = 2 then [105, 109, 111, 115, 113, 112] else if k = 7 then [109, 115, 113, 112] else if k = 5 then [109, 115, 113] else if k = 6 then [109, 115, 113] else
  if k = 4 then [109, 113] else if k = 8 then [109, 113] else if k = 9 then [109, 113] else if k = 1 then [] else if k = 10 then [] else
  if k = 3 then [105] else [63]
def valL (c : Cm) (l : UInt8) : Int := if l = 105 then c.id else if l = 109 then c.mb else if l = 111 then c.ot else if l = 115 then c.sc else if l = 113 then c.qt else c.pr
def setL (c : Cm) (l : UInt8) (n : Int) : Cm :=
  if l = 105 then { c with id := n } else if l = 109 then { c with mb := n } else if l = 111 then { c with ot := n } else if l = 115 then { c with sc := n } else
  if l = 113 then { c with qt := n } else if l = 112 then { c with pr := n } else c
def setJ (c : Cm) (j : Nat) (n : Int) : Cm := match j with
  | 0 => { c with id := n }
  | 1 => { c with mb := n }
  | 2 => { c with ot := n }
  | 3 => { c with sc := n }
  | 4 => { c with qt := n }
  | _ => { c with pr := n }
/-- the ten kinds -/
theorem kinds (k : Int) (h : (hasOf k).2 = true) : k = 2 ∨ k = 7 ∨ k = 5 ∨ k = 6 ∨ k = 4 ∨ k = 8 ∨ k = 9 ∨ k = 1 ∨ k = 10 ∨ k = 3 := by
  unfold hasOf at h
  repeat' (split at h; omega)
  simp at h
theorem letters_none (k : Int) (h : (hasOf k).2 = false) : lettersOf k = [63] := by
  unfold hasOf at h
  unfold lettersOf
  repeat' (split at h; simp at h)
  simp [*]
theorem letters_some (k : Int) (h : (hasOf k).2 = true) : lettersOf k ≠ [63] := by
  rcases kinds k h with rfl | rfl | rfl | rfl | rfl | rfl | rfl | rfl | rfl | rfl <;> decide
theorem bytes_letters (c : Cm) (h : (hasOf c.kd).2 = true) : c.bytes = Vint.put c.kd ++ ((lettersOf c.kd).map fun l => Vint.put (valL c l)).flatten := by
  obtain ⟨kd, id, mb, ot, sc, qt, pr⟩ := c
  unfold Cm.bytes
  dsimp only at h ⊢
  rcases kinds kd h with rfl | rfl | rfl | rfl | rfl | rfl | rfl | rfl | rfl | rfl
  all_goals simp [lettersOf, hasOf, vals, hasF, Nat.testBit, valL, Cm.at]
theorem right_letters (c : Cm) (h : (hasOf c.kd).2 = true) : c.right = decide ((lettersOf c.kd).foldl (fun r l => setL r l 0) { c with kd := 0 } = zeroC) := by
  obtain ⟨kd, id, mb, ot, sc, qt, pr⟩ := c
  unfold Cm.right
  dsimp only at h ⊢
  rcases kinds kd h with rfl | rfl | rfl | rfl | rfl | rfl | rfl | rfl | rfl | rfl
  all_goals (simp [lettersOf, hasOf, fine, hasF, Nat.testBit, Cm.at, setL, zeroC]; try (rw [Bool.eq_iff_iff]; simp; try omega))
/-- the state of reading: the command, what is left, the error -/
def stepJ (j : Nat) (st : Cm × ByteArray × Int) : Cm × ByteArray × Int :=
  (setJ st.1 j (tk (fun _ => true) st.2.1 st.2.2).1, (tk (fun _ => true) st.2.1 st.2.2).2.2.1, (tk (fun _ => true) st.2.1 st.2.2).2.2.2)
def stepL (st : Cm × ByteArray × Int) (l : UInt8) : Cm × ByteArray × Int :=
  (setL st.1 l (tk (fun _ => true) st.2.1 st.2.2).1, (tk (fun _ => true) st.2.1 st.2.2).2.2.1, (tk (fun _ => true) st.2.1 st.2.2).2.2.2)
def readV (b : Nat) (st : Cm × ByteArray × Int) (j : Nat) : Cm × ByteArray × Int := match j with
  | 0 => st
  | j + 1 => if hasF b j then stepJ j (readV b st j) else readV b st j
theorem read_letters (k : Int) (h : (hasOf k).2 = true) (st : Cm × ByteArray × Int) : readV (hasOf k).1 st 6 = (lettersOf k).foldl stepL st := by
  rcases kinds k h with rfl | rfl | rfl | rfl | rfl | rfl | rfl | rfl | rfl | rfl
  all_goals simp [lettersOf, hasOf, readV, hasF, Nat.testBit, stepJ, stepL, setJ, setL]
/-- a letter of a value -/
def good (l : UInt8) : Prop := l = 105 ∨ l = 109 ∨ l = 111 ∨ l = 115 ∨ l = 113 ∨ l = 112
theorem val_set_same (c : Cm) (l : UInt8) (n : Int) (h : good l) : valL (setL c l n) l = n := by
  rcases h with rfl | rfl | rfl | rfl | rfl | rfl <;> simp [valL, setL]
theorem val_set_other (c : Cm) (l m : UInt8) (n : Int) (h : good l) (hm : good m) (hn : m ≠ l) : valL (setL c l n) m = valL c m := by
  rcases h with rfl | rfl | rfl | rfl | rfl | rfl <;> rcases hm with rfl | rfl | rfl | rfl | rfl | rfl <;> simp_all [valL, setL]
theorem kd_set (c : Cm) (l : UInt8) (n : Int) : (setL c l n).kd = c.kd := by
  unfold setL
  repeat' split
  all_goals rfl
theorem cm_ext (a b : Cm) (hk : a.kd = b.kd) (h : ∀ l, good l → valL a l = valL b l) : a = b := by
  obtain ⟨k1, a1, a2, a3, a4, a5, a6⟩ := a
  obtain ⟨k2, b1, b2, b3, b4, b5, b6⟩ := b
  have h1 := h 105 (by simp [good])
  have h2 := h 109 (by simp [good])
  have h3 := h 111 (by simp [good])
  have h4 := h 115 (by simp [good])
  have h5 := h 113 (by simp [good])
  have h6 := h 112 (by simp [good])
  simp [valL] at h1 h2 h3 h4 h5 h6 hk
  simp [*]
theorem letters_good (k : Int) (h : (hasOf k).2 = true) : (∀ l ∈ lettersOf k, good l) ∧ (lettersOf k).Nodup := by
  rcases kinds k h with rfl | rfl | rfl | rfl | rfl | rfl | rfl | rfl | rfl | rfl
  all_goals exact ⟨by simp [lettersOf, good], by decide⟩
theorem ba_list {a b : ByteArray} (h : a.data.toList = b.data.toList) : a = b := ByteArray.ext (Array.toList_inj.mp h)
theorem ba_extract (s : ByteArray) (a b : Nat) : (s.extract a b).data.toList = (s.data.toList.drop a).take (b - a) := by
  rw [ByteArray.data_extract, Array.toList_extract, List.extract]
theorem ba_len (a : ByteArray) : a.data.toList.length = a.size := by simp
theorem ba_drop (s : ByteArray) (a : Nat) : (s.extract a s.size).data.toList = s.data.toList.drop a := by
  rw [ba_extract, List.take_of_length_le (by rw [List.length_drop, ba_len]; omega)]
/-- what a number that is read was -/
theorem tk_back {s : ByteArray} {e : Int} (h : (tk (fun _ => true) s e).2.2.2 = 0) :
    e = 0 ∧ In64 (tk (fun _ => true) s e).1 ∧ s.data.toList = Vint.put (tk (fun _ => true) s e).1 ++ (tk (fun _ => true) s e).2.2.1.data.toList := by
  by_cases he : e = 0
  · subst he
    obtain ⟨⟨n, m, e1⟩, hg⟩ : ∃ g, Vint.get s.data.toList = g := ⟨_, rfl⟩
    by_cases h1 : e1 = 0
    · subst h1
      obtain ⟨p1, p2, p3, p4, p5⟩ := Vint.put_get _ _ _ hg
      rw [tk_yes _ s n m hg rfl]
      refine ⟨rfl, ⟨p4, p5⟩, ?_⟩
      dsimp only
      rw [ba_drop, p1, List.take_append_drop]
    · rw [tk_get _ s n m e1 hg h1] at h
      exact absurd h h1
  · rw [tk_err _ s e he] at h
    exact absurd h he
/-- what is put is read -/
theorem tk_forth (s t : ByteArray) (n : Int) (hn : In64 n) (hs : s.data.toList = Vint.put n ++ t.data.toList) : tk (fun _ => true) s 0 = (n, true, t, 0) := by
  have hg := Vint.get_put n t.data.toList hn.1 hn.2
  rw [← hs] at hg
  rw [tk_yes _ s n _ hg rfl]
  have : s.extract (Vint.put n).length s.size = t := by
    apply ba_list
    rw [ba_drop, hs, List.drop_left]
  rw [this]
theorem fold_err (L : List UInt8) : ∀ c s e, e ≠ 0 → (L.foldl stepL (c, s, e)).2.2 = e := by
  induction L with
  | nil => intro c s e _; rfl
  | cons l L ih =>
    intro c s e he
    rw [List.foldl_cons]
    have : stepL (c, s, e) l = (setL c l 0, s, e) := by unfold stepL; dsimp only; rw [tk_err _ s e he]
    rw [this]
    exact ih _ _ _ he
theorem fold_back (L : List UInt8) : ∀ c s, L.Nodup → (∀ l ∈ L, good l) → (L.foldl stepL (c, s, 0)).2.2 = 0 →
    s.data.toList = (L.map fun l => Vint.put (valL (L.foldl stepL (c, s, 0)).1 l)).flatten ++ (L.foldl stepL (c, s, 0)).2.1.data.toList ∧
    (∀ m, good m → m ∉ L → valL (L.foldl stepL (c, s, 0)).1 m = valL c m) ∧ (∀ m ∈ L, In64 (valL (L.foldl stepL (c, s, 0)).1 m)) ∧ (L.foldl stepL (c, s, 0)).1.kd = c.kd := by
  induction L with
  | nil => intro c s _ _ _; exact ⟨by simp, fun m _ _ => rfl, fun m h => by simp at h, rfl⟩
  | cons l L ih =>
    intro c s hnd hg he
    rw [List.foldl_cons] at he ⊢
    obtain ⟨hl, hnd2⟩ := List.nodup_cons.1 hnd
    have hgl := hg l (by simp)
    have he1 : (stepL (c, s, 0) l).2.2 = 0 := by
      rcases Classical.em ((stepL (c, s, 0) l).2.2 = 0) with h | h
      · exact h
      · have := fold_err L (stepL (c, s, 0) l).1 (stepL (c, s, 0) l).2.1 _ h
        exact absurd (this.symm.trans he) h
    obtain ⟨_, b1, b2⟩ := tk_back (s := s) (e := 0) he1
    obtain ⟨i1, i2, i3, i4⟩ := ih (stepL (c, s, 0) l).1 (stepL (c, s, 0) l).2.1 hnd2 (fun m hm => hg m (by simp [hm])) (by
      have e : stepL (c, s, 0) l = ((stepL (c, s, 0) l).1, (stepL (c, s, 0) l).2.1, 0) := Prod.ext rfl (Prod.ext rfl he1)
      rw [← e]; exact he)
    have e : ((stepL (c, s, 0) l).1, (stepL (c, s, 0) l).2.1, (0 : Int)) = stepL (c, s, 0) l := (Prod.ext rfl (Prod.ext rfl he1) : stepL (c, s, 0) l = ((stepL (c, s, 0) l).1, (stepL (c, s, 0) l).2.1, (0 : Int))).symm
    rw [e] at i1 i2 i3 i4
    have hv : valL (List.foldl stepL (stepL (c, s, 0) l) L).1 l = (tk (fun _ => true) s 0).1 := by
      rw [i2 l hgl hl]
      exact val_set_same c l _ hgl
    refine ⟨?_, ?_, ?_, ?_⟩
    · rw [List.map_cons, List.flatten_cons, hv, List.append_assoc, ← i1]
      exact b2
    · intro m hm hn
      simp only [List.mem_cons, not_or] at hn
      rw [i2 m hm hn.2]
      exact val_set_other c l m _ hgl hm hn.1
    · intro m hm
      rcases List.mem_cons.1 hm with rfl | hm
      · rw [hv]; exact b1
      · exact i3 m hm
    · rw [i4]
      exact kd_set c l _
theorem fold_forth (d : Cm) (hd : ∀ l, good l → In64 (valL d l)) (t : ByteArray) (L : List UInt8) : ∀ c s, L.Nodup → (∀ l ∈ L, good l) → s.data.toList = (L.map fun l => Vint.put (valL d l)).flatten ++ t.data.toList →
    (L.foldl stepL (c, s, 0)).2.1 = t ∧ (L.foldl stepL (c, s, 0)).2.2 = 0 ∧ (∀ m, good m → valL (L.foldl stepL (c, s, 0)).1 m = if m ∈ L then valL d m else valL c m) ∧ (L.foldl stepL (c, s, 0)).1.kd = c.kd := by
  induction L with
  | nil => intro c s _ _ hs; exact ⟨ba_list (by simpa using hs), rfl, fun m _ => by simp, rfl⟩
  | cons l L ih =>
    intro c s hnd hg hs
    obtain ⟨hl, hnd2⟩ := List.nodup_cons.1 hnd
    have hgl := hg l (by simp)
    rw [List.map_cons, List.flatten_cons, List.append_assoc] at hs
    have htk := tk_forth s ⟨((L.map fun l => Vint.put (valL d l)).flatten ++ t.data.toList).toArray⟩ (valL d l) (hd l hgl) (by rw [hs])
    have hst : stepL (c, s, 0) l = (setL c l (valL d l), ⟨((L.map fun l => Vint.put (valL d l)).flatten ++ t.data.toList).toArray⟩, 0) := by
      unfold stepL; dsimp only; rw [htk]
    rw [List.foldl_cons, hst]
    obtain ⟨i1, i2, i3, i4⟩ := ih (setL c l (valL d l)) ⟨((L.map fun l => Vint.put (valL d l)).flatten ++ t.data.toList).toArray⟩ hnd2 (fun m hm => hg m (by simp [hm])) rfl
    refine ⟨i1, i2, ?_, by rw [i4]; exact kd_set _ _ _⟩
    intro m hm
    rw [i3 m hm]
    by_cases hml : m ∈ L
    · rw [if_pos hml, if_pos (by simp [hml])]
    · rw [if_neg hml]
      by_cases he : m = l
      · subst he
        rw [if_pos (by simp)]
        exact val_set_same c m _ hm
      · rw [if_neg (by simp [he, hml])]
        exact val_set_other c l m _ hgl hm he
/-- what is read of a command: the command, the error; what is left, the reader's error -/
def rdC (s : ByteArray) (e : Int) : Cm × Int × ByteArray × Int :=
  if (tk (fun _ => true) s e).2.2.2 ≠ 0 then (zeroC, (tk (fun _ => true) s e).2.2.2, (tk (fun _ => true) s e).2.2.1, (tk (fun _ => true) s e).2.2.2) else
  if (hasOf (tk (fun _ => true) s e).1).2 = false then (zeroC, 3, (tk (fun _ => true) s e).2.2.1, 0) else
  if (readV (hasOf (tk (fun _ => true) s e).1).1 (⟨(tk (fun _ => true) s e).1, 0, 0, 0, 0, 0, 0⟩, (tk (fun _ => true) s e).2.2.1, 0) 6).2.2 ≠ 0 then
    (zeroC, (readV (hasOf (tk (fun _ => true) s e).1).1 (⟨(tk (fun _ => true) s e).1, 0, 0, 0, 0, 0, 0⟩, (tk (fun _ => true) s e).2.2.1, 0) 6).2.2,
      (readV (hasOf (tk (fun _ => true) s e).1).1 (⟨(tk (fun _ => true) s e).1, 0, 0, 0, 0, 0, 0⟩, (tk (fun _ => true) s e).2.2.1, 0) 6).2.1,
      (readV (hasOf (tk (fun _ => true) s e).1).1 (⟨(tk (fun _ => true) s e).1, 0, 0, 0, 0, 0, 0⟩, (tk (fun _ => true) s e).2.2.1, 0) 6).2.2) else
  ((readV (hasOf (tk (fun _ => true) s e).1).1 (⟨(tk (fun _ => true) s e).1, 0, 0, 0, 0, 0, 0⟩, (tk (fun _ => true) s e).2.2.1, 0) 6).1, 0,
    (readV (hasOf (tk (fun _ => true) s e).1).1 (⟨(tk (fun _ => true) s e).1, 0, 0, 0, 0, 0, 0⟩, (tk (fun _ => true) s e).2.2.1, 0) 6).2.1, 0)
theorem rd_bad (s : ByteArray) (e n : Int) (q : Bool) (s1 : ByteArray) (e1 : Int) (h : tk (fun _ => true) s e = (n, q, s1, e1)) (he : e1 ≠ 0) : rdC s e = (zeroC, e1, s1, e1) := by
  unfold rdC; rw [h]; dsimp only; rw [if_pos he]
theorem rd_kind (s : ByteArray) (e n : Int) (q : Bool) (s1 : ByteArray) (h : tk (fun _ => true) s e = (n, q, s1, 0)) (hk : (hasOf n).2 = false) : rdC s e = (zeroC, 3, s1, 0) := by
  unfold rdC; rw [h]; dsimp only; rw [if_neg (by simp), if_pos hk]
theorem rd_vals (s : ByteArray) (e n : Int) (q : Bool) (s1 : ByteArray) (h : tk (fun _ => true) s e = (n, q, s1, 0)) (hk : (hasOf n).2 = true) (c : Cm) (s2 : ByteArray) (e2 : Int) (hr : readV (hasOf n).1 (⟨n, 0, 0, 0, 0, 0, 0⟩, s1, 0) 6 = (c, s2, e2)) :
    rdC s e = if e2 ≠ 0 then (zeroC, e2, s2, e2) else (c, 0, s2, 0) := by
  unfold rdC; rw [h]; dsimp only; rw [if_neg (by simp), if_neg (by simp [hk]), hr]
theorem rd_cases (s : ByteArray) (e : Int) : (∃ (er : Int) (s' : ByteArray) (e' : Int), rdC s e = (zeroC, er, s', e') ∧ er ≠ 0) ∨ (∃ (c : Cm) (s' : ByteArray), rdC s e = (c, 0, s', 0) ∧ e = 0 ∧ c.Fit ∧ c.right = true ∧ s.data.toList = c.bytes ++ s'.data.toList) := by
  obtain ⟨⟨n, q, s1, e1⟩, ht⟩ : ∃ t, tk (fun _ => true) s e = t := ⟨_, rfl⟩
  by_cases h1 : e1 = 0
  · subst h1
    obtain ⟨b0, b1, b2⟩ := tk_back (s := s) (e := e) (by rw [ht])
    rw [ht] at b1 b2
    dsimp only at b1 b2
    cases hk : (hasOf n).2
    · exact Or.inl ⟨3, s1, 0, rd_kind s e n q s1 ht hk, by decide⟩
    · obtain ⟨⟨c, s2, e2⟩, hr⟩ : ∃ r, readV (hasOf n).1 (⟨n, 0, 0, 0, 0, 0, 0⟩, s1, 0) 6 = r := ⟨_, rfl⟩
      have hrd := rd_vals s e n q s1 ht hk c s2 e2 hr
      by_cases h2 : e2 = 0
      · subst h2
        rw [if_neg (by simp)] at hrd
        right
        rw [read_letters n hk] at hr
        obtain ⟨g1, g2⟩ := letters_good n hk
        obtain ⟨f1, f2, f3, f4⟩ := fold_back (lettersOf n) ⟨n, 0, 0, 0, 0, 0, 0⟩ s1 g2 g1 (by rw [hr])
        rw [hr] at f1 f2 f3 f4
        dsimp only at f1 f2 f3 f4
        have hz : ∀ l, good l → l ∉ lettersOf n → valL c l = 0 := fun l hl hn => by
          rw [f2 l hl hn]
          rcases hl with rfl | rfl | rfl | rfl | rfl | rfl <;> rfl
        have h64 : ∀ l, good l → In64 (valL c l) := fun l hl => by
          by_cases hm : l ∈ lettersOf n
          · exact f3 l hm
          · rw [hz l hl hm]; unfold In64; omega
        have hfit : c.Fit := by
          refine ⟨by rw [f4]; exact b1, ?_, ?_, ?_, ?_, ?_, ?_⟩
          · exact h64 105 (by simp [good])
          · exact h64 109 (by simp [good])
          · exact h64 111 (by simp [good])
          · exact h64 115 (by simp [good])
          · exact h64 113 (by simp [good])
          · exact h64 112 (by simp [good])
        refine ⟨c, s2, hrd, b0, hfit, ?_, ?_⟩
        · have z1 := hz 105 (by simp [good])
          have z2 := hz 109 (by simp [good])
          have z3 := hz 111 (by simp [good])
          have z4 := hz 115 (by simp [good])
          have z5 := hz 113 (by simp [good])
          have z6 := hz 112 (by simp [good])
          obtain ⟨kd, id, mb, ot, sc, qt, pr⟩ := c
          dsimp only at f4
          subst f4
          unfold Cm.right
          dsimp only
          simp only [valL] at z1 z2 z3 z4 z5 z6
          rcases kinds kd hk with rfl | rfl | rfl | rfl | rfl | rfl | rfl | rfl | rfl | rfl
          all_goals simp_all [lettersOf, hasOf, fine, hasF, Nat.testBit, Cm.at]
        · rw [bytes_letters c (by rw [f4]; exact hk), f4, b2, List.append_assoc, ← f1]
      · rw [if_pos h2] at hrd
        exact Or.inl ⟨e2, s2, e2, hrd, h2⟩
  · exact Or.inl ⟨e1, s1, e1, rd_bad s e n q s1 e1 ht h1, h1⟩
set_option maxHeartbeats 2000000 in
theorem right_zero (c : Cm) (hr : c.right = true) (hk : (hasOf c.kd).2 = true) (l : UInt8) (hl : good l) (hm : l ∉ lettersOf c.kd) : valL c l = 0 := by
  obtain ⟨kd, id, mb, ot, sc, qt, pr⟩ := c
  unfold Cm.right at hr
  dsimp only at hr hk hm
  rcases kinds kd hk with rfl | rfl | rfl | rfl | rfl | rfl | rfl | rfl | rfl | rfl
  all_goals (simp [hasOf, fine, hasF, Nat.testBit, Cm.at] at hr; rcases hl with rfl | rfl | rfl | rfl | rfl | rfl <;> first | (exfalso; revert hm; decide) | (simp [valL]; simp_all))
theorem rd_put (c : Cm) (hf : c.Fit) (hr : c.right = true) (s t : ByteArray) (hs : s.data.toList = c.bytes ++ t.data.toList) : rdC s 0 = (c, 0, t, 0) := by
  have hk : (hasOf c.kd).2 = true := by unfold Cm.right at hr; simp at hr; exact hr.1
  rw [bytes_letters c hk, List.append_assoc] at hs
  have ht := tk_forth s ⟨(((lettersOf c.kd).map fun l => Vint.put (valL c l)).flatten ++ t.data.toList).toArray⟩ c.kd hf.kd hs
  obtain ⟨g1, g2⟩ := letters_good c.kd hk
  have h64 : ∀ l, good l → In64 (valL c l) := fun l hl => by
    rcases hl with rfl | rfl | rfl | rfl | rfl | rfl
    · exact hf.id
    · exact hf.mb
    · exact hf.ot
    · exact hf.sc
    · exact hf.qt
    · exact hf.pr
  obtain ⟨f1, f2, f3, f4⟩ := fold_forth c h64 t (lettersOf c.kd) ⟨c.kd, 0, 0, 0, 0, 0, 0⟩ ⟨(((lettersOf c.kd).map fun l => Vint.put (valL c l)).flatten ++ t.data.toList).toArray⟩ g2 g1 rfl
  rw [← read_letters c.kd hk] at f1 f2 f3 f4
  obtain ⟨⟨d, s2, e2⟩, hv⟩ : ∃ r, readV (hasOf c.kd).1 (⟨c.kd, 0, 0, 0, 0, 0, 0⟩, ⟨(((lettersOf c.kd).map fun l => Vint.put (valL c l)).flatten ++ t.data.toList).toArray⟩, 0) 6 = r := ⟨_, rfl⟩
  rw [hv] at f1 f2 f3 f4
  dsimp only at f1 f2 f3 f4
  subst f1 f2
  rw [rd_vals s 0 c.kd true _ ht hk d s2 0 hv, if_neg (by simp)]
  have hd : d = c := by
    apply cm_ext _ _ f4
    intro l hl
    rw [f3 l hl]
    by_cases hm : l ∈ lettersOf c.kd
    · rw [if_pos hm]
    · rw [if_neg hm]
      rw [right_zero c hr hk l hl hm]
      rcases hl with rfl | rfl | rfl | rfl | rfl | rfl <;> rfl
  rw [hd]
end Go.Proofs.YtcdbnabbhlnigaaDoor
