/-
  A heap of texts in plain Lean: what goes up, what goes down. No program here.
-/
namespace Go.Proofs.Ytncjgfhipflokaa.Hp

abbrev S := List UInt8
def at_ (l : List S) (k : Nat) : S := l.getD k []
def swapL (l : List S) (i j : Nat) : List S := (l.set i (at_ l j)).set j (at_ l i)
def par (k : Nat) : Nat := (k - 1) / 2
theorem at_get {l : List S} {k : Nat} (h : k < l.length) : at_ l k = l[k] := by simp [at_, List.getD_eq_getElem?_getD, h]
theorem swap_length (l : List S) (i j : Nat) : (swapL l i j).length = l.length := by simp [swapL]
theorem at_set (l : List S) (i k : Nat) (x : S) (h : i < l.length) : at_ (l.set i x) k = if k = i then x else at_ l k := by
  unfold at_
  rw [List.getD_eq_getElem?_getD, List.getD_eq_getElem?_getD, List.getElem?_set]
  by_cases hk : i = k
  · subst hk; simp [h]
  · rw [if_neg hk, if_neg (fun e => hk e.symm)]
theorem at_swap (l : List S) (i j k : Nat) (hi : i < l.length) (hj : j < l.length) : at_ (swapL l i j) k = if k = j then at_ l i else if k = i then at_ l j else at_ l k := by
  unfold swapL
  rw [at_set _ _ _ _ (by simpa using hj), at_set _ _ _ _ hi]
theorem swap_perm (l : List S) (i j : Nat) (hi : i < l.length) (hj : j < l.length) : (swapL l i j).Perm l := by
  unfold swapL
  rw [at_get hi, at_get hj]
  exact List.set_set_perm hi hj
theorem le_of_lt {a b : S} (h : a < b) : a ≤ b := by
  rcases List.le_total a b with h1 | h1
  · exact h1
  · exact absurd h h1
theorem le_of_not {a b : S} (h : ¬ a < b) : b ≤ a := h
theorem le_refl (a : S) : a ≤ a := by rcases List.le_total a a with h | h <;> exact h
theorem tr {a b c : S} (h1 : a ≤ b) (h2 : b ≤ c) : a ≤ c := List.le_trans h1 h2
/-- each is no less than the one above it -/
def HP (l : List S) (n : Nat) : Prop := ∀ k, 0 < k → k < n → at_ l (par k) ≤ at_ l k
theorem par_lt {k : Nat} (h : 0 < k) : par k < k := by unfold par; omega
theorem HP.min {l : List S} {n : Nat} (h : HP l n) : ∀ k, k < n → at_ l 0 ≤ at_ l k := by
  intro k
  induction k using Nat.strongRecOn with
  | _ k ih =>
    intro hk
    rcases Nat.eq_zero_or_pos k with rfl | hp
    · exact le_refl _
    · exact tr (ih (par k) (par_lt hp) (by have := par_lt hp; omega)) (h k hp hk)
/-- all but the one at j -/
def UpI (l : List S) (n j : Nat) : Prop := (∀ k, 0 < k → k < n → k ≠ j → at_ l (par k) ≤ at_ l k) ∧ (0 < j → ∀ k, 0 < k → k < n → par k = j → at_ l (par j) ≤ at_ l k)
theorem UpI.stop {l : List S} {n j : Nat} (h : UpI l n j) (hs : j = 0 ∨ ¬ at_ l j < at_ l (par j)) : HP l n := by
  intro k hk hn
  by_cases e : k = j
  · subst e
    rcases hs with rfl | hs
    · omega
    · exact hs
  · exact h.1 k hk hn e
theorem UpI.step {l : List S} {n j : Nat} (h : UpI l n j) (hn : n ≤ l.length) (hj : 0 < j) (hjn : j < n) (hlt : at_ l j < at_ l (par j)) : UpI (swapL l (par j) j) n (par j) := by
  have hij := par_lt hj
  have hA : ∀ k, at_ (swapL l (par j) j) k = if k = j then at_ l (par j) else if k = par j then at_ l j else at_ l k := fun k => at_swap l (par j) j k (by omega) (by omega)
  refine ⟨fun k hk hkn hne => ?_, fun hi k hk hkn hp => ?_⟩
  · rw [hA, hA]
    have hpk := par_lt hk
    by_cases e : k = j
    · subst e
      rw [if_neg (by omega), if_pos rfl, if_pos rfl]
      exact le_of_lt hlt
    · rw [if_neg e, if_neg hne]
      by_cases e2 : par k = j
      · rw [if_pos e2]
        exact h.2 hj k hk hkn e2
      · rw [if_neg e2]
        by_cases e3 : par k = par j
        · rw [if_pos e3]
          refine tr (le_of_lt hlt) ?_
          rw [← e3]
          exact h.1 k hk hkn e
        · rw [if_neg e3]
          exact h.1 k hk hkn e
  · have hpi := par_lt hi
    have hpk := par_lt hk
    rw [hA, hA, if_neg (by omega), if_neg (by omega)]
    by_cases e : k = j
    · rw [if_pos e]
      exact h.1 (par j) hi (by omega) (by omega)
    · rw [if_neg e, if_neg (by omega)]
      have h1 := h.1 k hk hkn e
      rw [hp] at h1
      exact tr (h.1 (par j) hi (by omega) (by omega)) h1
theorem UpI.start {l : List S} (h : HP l l.length) (x : S) : UpI (l ++ [x]) (l.length + 1) l.length := by
  have hA : ∀ k, k < l.length → at_ (l ++ [x]) k = at_ l k := by
    intro k hk
    simp [at_, List.getD_eq_getElem?_getD, List.getElem?_append_left hk]
  refine ⟨fun k hk hkn hne => ?_, fun _ k hk hkn hp => ?_⟩
  · have := par_lt hk
    rw [hA _ (by omega), hA _ (by omega)]
    exact h k hk (by omega)
  · have := par_lt hk
    omega
/-- all but those below i -/
def DnI (l : List S) (n i : Nat) : Prop := (∀ k, 0 < k → k < n → par k ≠ i → at_ l (par k) ≤ at_ l k) ∧ (0 < i → ∀ k, 0 < k → k < n → par k = i → at_ l (par i) ≤ at_ l k)
theorem DnI.stop {l : List S} {n i : Nat} (h : DnI l n i) (hs : ∀ k, 0 < k → k < n → par k = i → at_ l i ≤ at_ l k) : HP l n := by
  intro k hk hn
  by_cases e : par k = i
  · rw [e]; exact hs k hk hn e
  · exact h.1 k hk hn e
theorem DnI.step {l : List S} {n i j : Nat} (h : DnI l n i) (hn : n ≤ l.length) (hj : 0 < j) (hjn : j < n) (hp : par j = i) (hlt : at_ l j < at_ l i) (hm : ∀ k, 0 < k → k < n → par k = i → at_ l j ≤ at_ l k) : DnI (swapL l i j) n j := by
  have hij : i < j := by have := par_lt hj; omega
  have hA : ∀ k, at_ (swapL l i j) k = if k = j then at_ l i else if k = i then at_ l j else at_ l k := fun k => at_swap l i j k (by omega) (by omega)
  refine ⟨fun k hk hkn hne => ?_, fun _ k hk hkn hpk => ?_⟩
  · have hpk := par_lt hk
    rw [hA, hA, if_neg hne]
    by_cases e1 : par k = i
    · rw [if_pos e1]
      by_cases e : k = j
      · rw [if_pos e]; exact le_of_lt hlt
      · rw [if_neg e, if_neg (by omega)]; exact hm k hk hkn e1
    · rw [if_neg e1]
      by_cases e : k = j
      · subst e; exact absurd hp e1
      · rw [if_neg e]
        by_cases e2 : k = i
        · subst e2
          rw [if_pos rfl]
          exact h.2 hk j hj hjn hp
        · rw [if_neg e2]; exact h.1 k hk hkn e1
  · have hk2 := par_lt hk
    rw [hA, hA, hp, if_neg (by omega), if_pos rfl, if_neg (by omega), if_neg (by omega)]
    have h1 := h.1 k hk hkn (by omega)
    rwa [hpk] at h1
theorem DnI.start {l : List S} {n : Nat} (h : HP l (n + 1)) (hl : l.length = n + 1) : DnI (swapL l 0 n) n 0 := by
  have hA : ∀ k, at_ (swapL l 0 n) k = if k = n then at_ l 0 else if k = 0 then at_ l n else at_ l k := fun k => at_swap l 0 n k (by omega) (by omega)
  refine ⟨fun k hk hkn hne => ?_, fun h0 => absurd h0 (by omega)⟩
  have hpk := par_lt hk
  rw [hA, hA, if_neg (by omega), if_neg hne, if_neg (by omega), if_neg (by omega)]
  exact h k hk (by omega)
theorem par_of {k i : Nat} (hk : 0 < k) (h : par k = i) : k = 2 * i + 1 ∨ k = 2 * i + 2 := by unfold par at h; omega
theorem par_one (i : Nat) : par (2 * i + 1) = i := by unfold par; omega
theorem par_two (i : Nat) : par (2 * i + 2) = i := by unfold par; omega
theorem HP.take {l : List S} {n : Nat} (h : HP l n) : HP (l.take n) n := by
  intro k hk hn
  have hp := par_lt hk
  have hA : ∀ q, q < n → at_ (l.take n) q = at_ l q := by
    intro q hq
    simp [at_, List.getD_eq_getElem?_getD, List.getElem?_take_of_lt hq]
  rw [hA _ (by omega), hA _ hn]
  exact h k hk hn
end Go.Proofs.Ytncjgfhipflokaa.Hp
