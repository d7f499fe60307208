/- The plain laws of lists of commands. -/
import Derived.Test.YtcdbnabbhlnigaaDoorGet
namespace Go.Proofs.YtcdbnabbhlnigaaDoor

/-- the bytes of all -/
def catC (cs : List Cm) : List UInt8 := (cs.map Cm.bytes).flatten
def rightAll (cs : List Cm) : Bool := cs.all Cm.right
def FitAll (cs : List Cm) : Prop := ∀ c ∈ cs, c.Fit
/-- what All returns -/
def allOf (cs : List Cm) : ByteArray × Int :=
  if 1024 < cs.length then (⟨#[]⟩, 6) else if rightAll cs = true then (⟨(Vint.put (cs.length : Nat) ++ catC cs).toArray⟩, 0) else (⟨#[]⟩, 3)
theorem catC_snoc (cs : List Cm) (c : Cm) : catC (cs ++ [c]) = catC cs ++ c.bytes := by simp [catC]
theorem rightAll_snoc (cs : List Cm) (c : Cm) : rightAll (cs ++ [c]) = (rightAll cs && c.right) := by simp [rightAll]
theorem rightAll_take {cs : List Cm} (h : rightAll cs = true) (k : Nat) : rightAll (cs.take k) = true := by
  unfold rightAll at h ⊢
  rw [List.all_eq_true] at h ⊢
  exact fun c hc => h c (List.mem_of_mem_take hc)
/-- k commands, one behind the other -/
def rdN (k : Nat) (s : ByteArray) : List Cm × ByteArray × Int := match k with
  | 0 => ([], s, 0)
  | k + 1 => if (rdN k s).2.2 ≠ 0 then rdN k s else
    if (rdC (rdN k s).2.1 0).2.1 ≠ 0 then ((rdN k s).1, (rdC (rdN k s).2.1 0).2.2.1, (rdC (rdN k s).2.1 0).2.1) else ((rdN k s).1 ++ [(rdC (rdN k s).2.1 0).1], (rdC (rdN k s).2.1 0).2.2.1, 0)
theorem rdN_err (k : Nat) (s : ByteArray) (cs : List Cm) (s' : ByteArray) (e : Int) (h : rdN k s = (cs, s', e)) (he : e ≠ 0) : ∀ n, k ≤ n → (rdN n s).2.2 = e := by
  intro n hn
  induction n with
  | zero => obtain rfl : k = 0 := by omega
            rw [h]
  | succ n ih =>
    by_cases e1 : k = n + 1
    · subst e1; rw [h]
    · have := ih (by omega)
      rw [rdN, if_pos (by rw [this]; exact he)]
      exact this
theorem rdN_bad {k : Nat} {s : ByteArray} {cs : List Cm} {s' : ByteArray} {c : Cm} {er : Int} {s2 : ByteArray} {e2 : Int} (h : rdN k s = (cs, s', 0)) (hr : rdC s' 0 = (c, er, s2, e2)) (he : er ≠ 0) : rdN (k + 1) s = (cs, s2, er) := by
  rw [rdN, h]; dsimp only; rw [if_neg (by simp), hr]; dsimp only; rw [if_pos he]
theorem rdN_good {k : Nat} {s : ByteArray} {cs : List Cm} {s' : ByteArray} {c : Cm} {s2 : ByteArray} {e2 : Int} (h : rdN k s = (cs, s', 0)) (hr : rdC s' 0 = (c, 0, s2, e2)) : rdN (k + 1) s = (cs ++ [c], s2, 0) := by
  rw [rdN, h]; dsimp only; rw [if_neg (by simp), hr]; dsimp only; rw [if_neg (by simp)]
theorem rdN_back (k : Nat) (s : ByteArray) : (rdN k s).2.2 = 0 → (rdN k s).1.length = k ∧ FitAll (rdN k s).1 ∧ rightAll (rdN k s).1 = true ∧ s.data.toList = catC (rdN k s).1 ++ (rdN k s).2.1.data.toList := by
  induction k with
  | zero => intro _; exact ⟨rfl, fun c hc => by simp [rdN] at hc, rfl, by simp [rdN, catC]⟩
  | succ k ih =>
    intro h
    obtain ⟨⟨cs, s', e⟩, hk⟩ : ∃ r, rdN k s = r := ⟨_, rfl⟩
    by_cases he : e = 0
    · subst he
      obtain ⟨i1, i2, i3, i4⟩ := ih (by rw [hk])
      rw [hk] at i1 i2 i3 i4
      dsimp only at i1 i2 i3 i4
      rcases rd_cases s' 0 with ⟨er, s2, e2, h1, h2⟩ | ⟨c, s2, h1, _, h3, h4, h5⟩
      · rw [rdN_bad hk h1 h2] at h; exact absurd h h2
      · rw [rdN_good hk h1]
        dsimp only
        refine ⟨by simp [i1], ?_, by rw [rightAll_snoc, i3, h4]; rfl, by rw [catC_snoc, List.append_assoc, ← h5]; exact i4⟩
        intro d hd
        rw [List.mem_append, List.mem_singleton] at hd
        rcases hd with hd | rfl
        · exact i2 d hd
        · exact h3
    · rw [rdN_err k s cs s' e hk he (k + 1) (by omega)] at h
      exact absurd h he
theorem rdN_forth (cs : List Cm) (hf : FitAll cs) (hr : rightAll cs = true) (s : ByteArray) (hs : s.data.toList = catC cs) : ∀ k, k ≤ cs.length → ∃ t : ByteArray, rdN k s = (cs.take k, t, 0) ∧ t.data.toList = catC (cs.drop k) := by
  intro k
  induction k with
  | zero => intro _; exact ⟨s, rfl, by simpa using hs⟩
  | succ k ih =>
    intro hk
    obtain ⟨t, h1, h2⟩ := ih (by omega)
    have hlt : k < cs.length := by omega
    have hd : catC (cs.drop k) = cs[k].bytes ++ catC (cs.drop (k + 1)) := by
      rw [List.drop_eq_getElem_cons hlt]; simp only [catC, List.map_cons, List.flatten_cons]
    have hc := hf cs[k] (List.getElem_mem hlt)
    have hrk : cs[k].right = true := by
      unfold rightAll at hr
      rw [List.all_eq_true] at hr
      exact hr _ (List.getElem_mem hlt)
    have hrd := rd_put cs[k] hc hrk t ⟨(catC (cs.drop (k + 1))).toArray⟩ (by rw [h2, hd])
    refine ⟨⟨(catC (cs.drop (k + 1))).toArray⟩, ?_, rfl⟩
    rw [rdN_good h1 hrd, List.take_succ_eq_append_getElem hlt]
/-- what Some returns -/
def someOf (s : ByteArray) : List Cm × Int :=
  if (tk (upto 1024) s 0).2.2.2 ≠ 0 then ([], (tk (upto 1024) s 0).2.2.2) else
  if (rdN (tk (upto 1024) s 0).1.toNat (tk (upto 1024) s 0).2.2.1).2.2 ≠ 0 then ([], (rdN (tk (upto 1024) s 0).1.toNat (tk (upto 1024) s 0).2.2.1).2.2) else
  if (rdN (tk (upto 1024) s 0).1.toNat (tk (upto 1024) s 0).2.2.1).2.1.size ≠ 0 then ([], 3) else ((rdN (tk (upto 1024) s 0).1.toNat (tk (upto 1024) s 0).2.2.1).1, 0)
theorem tku_back {s : ByteArray} (h : (tk (upto 1024) s 0).2.2.2 = 0) : ∃ n : Nat, (tk (upto 1024) s 0).1 = n ∧ n ≤ 1024 ∧ s.data.toList = Vint.put (n : Int) ++ (tk (upto 1024) s 0).2.2.1.data.toList := by
  obtain ⟨⟨n, m, e1⟩, hg⟩ : ∃ g, Vint.get s.data.toList = g := ⟨_, rfl⟩
  by_cases h1 : e1 = 0
  · subst h1
    by_cases hp : upto 1024 n = true
    · obtain ⟨p1, p2, p3, p4, p5⟩ := Vint.put_get _ _ _ hg
      rw [tk_yes _ s n m hg hp]
      have hp2 : 0 ≤ n ∧ n ≤ 1024 := by simpa [upto] using hp
      obtain ⟨k, rfl⟩ := Int.eq_ofNat_of_zero_le hp2.1
      refine ⟨k, rfl, by omega, ?_⟩
      dsimp only
      rw [ba_drop, p1, List.take_append_drop]
    · rw [tk_no _ s n m hg (by simpa using hp)] at h
      simp at h
  · rw [tk_get _ s n m e1 hg h1] at h
    exact absurd h h1
theorem tku_forth (s t : ByteArray) (n : Nat) (hn : n ≤ 1024) (hs : s.data.toList = Vint.put (n : Int) ++ t.data.toList) : tk (upto 1024) s 0 = ((n : Int), true, t, 0) := by
  have hg := Vint.get_put (n : Int) t.data.toList (by omega) (by omega)
  rw [← hs] at hg
  rw [tk_yes _ s (n : Int) _ hg (by simp [upto]; omega)]
  have : s.extract (Vint.put (n : Int)).length s.size = t := by
    apply ba_list
    rw [ba_drop, hs, List.drop_left]
  rw [this]
theorem some_all (cs : List Cm) (hf : FitAll cs) (hr : rightAll cs = true) (hn : cs.length ≤ 1024) : someOf (allOf cs).1 = (cs, 0) := by
  unfold allOf
  rw [if_neg (by omega), if_pos hr]
  dsimp only
  have ht := tku_forth ⟨(Vint.put (cs.length : Nat) ++ catC cs).toArray⟩ ⟨(catC cs).toArray⟩ cs.length hn rfl
  obtain ⟨t, h1, h2⟩ := rdN_forth cs hf hr ⟨(catC cs).toArray⟩ rfl cs.length (Nat.le_refl _)
  unfold someOf
  rw [ht]
  dsimp only
  rw [if_neg (by simp), Int.toNat_natCast, h1]
  dsimp only
  have hz : t.size = 0 := by
    rw [List.drop_eq_nil_of_le (Nat.le_refl _)] at h2
    have := congrArg List.length h2
    rw [ba_len] at this
    simpa [catC] using this
  rw [if_neg (by simp), if_neg (by simp [hz]), List.take_of_length_le (Nat.le_refl _)]
theorem all_some (s : ByteArray) (h : (someOf s).2 = 0) : FitAll (someOf s).1 ∧ (someOf s).1.length ≤ 1024 ∧ allOf (someOf s).1 = (s, 0) := by
  unfold someOf at h ⊢
  by_cases h1 : (tk (upto 1024) s 0).2.2.2 = 0
  · obtain ⟨n, hn, hn2, hs⟩ := tku_back h1
    rw [if_neg (by simp [h1]), hn, Int.toNat_natCast] at h ⊢
    by_cases h2 : (rdN n (tk (upto 1024) s 0).2.2.1).2.2 = 0
    · obtain ⟨i1, i2, i3, i4⟩ := rdN_back n _ h2
      rw [if_neg (by simp [h2])] at h ⊢
      by_cases h3 : (rdN n (tk (upto 1024) s 0).2.2.1).2.1.size = 0
      · rw [if_neg (by simp [h3])]
        dsimp only
        refine ⟨i2, by omega, ?_⟩
        unfold allOf
        rw [if_neg (by omega), if_pos i3, i1]
        have hnil : (rdN n (tk (upto 1024) s 0).2.2.1).2.1.data.toList = [] := List.eq_nil_of_length_eq_zero (by rw [ba_len]; exact h3)
        rw [hnil, List.append_nil] at i4
        have : (⟨(Vint.put (n : Int) ++ catC (rdN n (tk (upto 1024) s 0).2.2.1).1).toArray⟩ : ByteArray) = s := by
          apply ba_list
          rw [hs, i4]
        rw [this]
      · rw [if_pos h3] at h
        simp at h
    · rw [if_pos h2] at h
      exact absurd h h2
  · rw [if_pos h1] at h
    exact absurd h h1
end Go.Proofs.YtcdbnabbhlnigaaDoor
