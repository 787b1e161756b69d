/-
  Rows of documents: read as lists of cells, appended to.
-/
import Derived.Test.YtncjgfhipflokaaSs
namespace Go.Proofs.Ytncjgfhipflokaa
open Go.RowKit Go.Shelf Hp Go.Maps

/-! ### lists of lists, flat -/
theorem flat_at {α : Type} {m : Nat} : ∀ (rows : List (List α)), (∀ r ∈ rows, r.length = m) → ∀ (k j : Nat) (r : List α), rows[k]? = some r → j < m → rows.flatten[k * m + j]? = r[j]?
  | [], _, k, j, r, h, _ => by simp at h
  | x :: rows, hl, k, j, r, h, hj => by
    have hx := hl x (by simp)
    rw [List.flatten_cons]
    cases k with
    | zero =>
      have : x = r := by simpa using h
      subst this
      rw [Nat.zero_mul, Nat.zero_add, List.getElem?_append_left (by omega)]
    | succ k =>
      have h' : rows[k]? = some r := by simpa using h
      have e : (k + 1) * m + j = x.length + (k * m + j) := by rw [Nat.add_mul, hx]; omega
      rw [e, List.getElem?_append_right (by omega), Nat.add_sub_cancel_left]
      exact flat_at rows (fun r hr => hl r (List.mem_cons_of_mem _ hr)) k j r h' hj
theorem flat_len {α : Type} {m : Nat} : ∀ (rows : List (List α)), (∀ r ∈ rows, r.length = m) → rows.flatten.length = rows.length * m
  | [], _ => by simp
  | x :: rows, hl => by
    rw [List.flatten_cons, List.length_append, hl x (by simp), flat_len rows (fun r hr => hl r (List.mem_cons_of_mem _ hr)), List.length_cons, Nat.add_mul]
    omega
theorem flat_of {α : Type} {m : Nat} (hm : 0 < m) (rows : List (List α)) (hl : ∀ r ∈ rows, r.length = m) (i : Nat) (u : α) (h : rows.flatten[i]? = some u) : ∃ r, rows[i / m]? = some r ∧ r[i % m]? = some u := by
  have hi : i < rows.length * m := by
    have := (List.getElem?_eq_some_iff.1 h).1
    rwa [flat_len rows hl] at this
  have hk : i / m < rows.length := Nat.div_lt_of_lt_mul (by rwa [Nat.mul_comm] at hi)
  have hj : i % m < m := Nat.mod_lt _ hm
  refine ⟨rows[i / m], List.getElem?_eq_getElem hk, ?_⟩
  rw [← flat_at rows hl (i / m) (i % m) _ (List.getElem?_eq_getElem hk) hj, Nat.mul_comm, Nat.div_add_mod]
  exact h

theorem choose_rows {α : Type} {n : Nat} {p : Nat → α → Prop} (h : ∀ k, k < n → ∃ s, p k s) : ∃ l : List α, l.length = n ∧ ∀ k s, l[k]? = some s → p k s := by
  induction n with
  | zero => exact ⟨[], rfl, fun k s hk => by simp at hk⟩
  | succ n ih =>
    obtain ⟨l, h1, h2⟩ := ih (fun k hk => h k (by omega))
    obtain ⟨s, hs⟩ := h n (by omega)
    refine ⟨l ++ [s], by simp [h1], fun k x hk => ?_⟩
    by_cases hkn : k < n
    · rw [List.getElem?_append_left (by omega)] at hk
      exact h2 k x hk
    · have hlt : k < n + 1 := by have := (List.getElem?_eq_some_iff.1 hk).1; simp [h1] at this; omega
      obtain rfl : k = n := by omega
      rw [List.getElem?_append_right (by omega)] at hk
      have : s = x := by simpa [h1] using hk
      rw [← this]; exact hs

/-! ### what lies below one bound lies below a greater one -/
theorem Cells.mono {B0 B1 : Nat} {w : World} {b o : Nat} {cs : List Value} (h : Cells B0 w b o cs) (hB : B0 ≤ B1) : Cells B1 w b o cs := ⟨Nat.lt_of_lt_of_le h.1 hB, h.2⟩
theorem Elems.mono {B0 B1 m n : Nat} {w : World} {A : Option Addr} {F F' : Nat → List Value → Prop} (h : Elems B0 w m A n F) (hB : B0 ≤ B1) (hF : ∀ k cs, F k cs → F' k cs) : Elems B1 w m A n F' := by
  rcases h with h | ⟨b, o, rfl, h⟩
  · exact .inl h
  · refine .inr ⟨b, o, rfl, fun k hk => ?_⟩
    obtain ⟨cs, h1, h2, h3⟩ := h k hk
    exact ⟨cs, h1, h2.mono hB, hF k cs h3⟩
theorem SS.mono {B0 B1 : Nat} {w : World} {v : Value} {l : List S} (h : SS B0 w v l) (hB : B0 ≤ B1) : SS B1 w v l := by
  obtain ⟨A, c, h1, h2, h3, h4, h5⟩ := h
  exact ⟨A, c, h1, h2, h3, h4, h5.mono hB fun _ _ h => h⟩
theorem GS.mono {B0 B1 : Nat} {w : World} {v : Value} {l : List (S × S)} (h : GS B0 w v l) (hB : B0 ≤ B1) : GS B1 w v l := by
  obtain ⟨A, c, h1, h2, h3, h4, h5⟩ := h
  exact ⟨A, c, h1, h2, h3, h4, h5.mono hB fun _ _ h => h⟩
theorem DocR.mono {T : World → Value → Prop} {B0 B1 : Nat} {w : World} {d : Doc} {cs : List Value} (h : DocR T B0 w d cs) (hB : B0 ≤ B1) : DocR T B1 w d cs := by
  obtain ⟨sq, nd, ch, gr, gn, h1, h2, h3, h4, h5, h6⟩ := h
  exact ⟨sq, nd, ch, gr, gn, h1, h2, h3.mono hB, h4.mono hB, h5, h6⟩
theorem DocR.len {T : World → Value → Prop} {B0 : Nat} {w : World} {d : Doc} {cs : List Value} (h : DocR T B0 w d cs) : cs.length = 6 := by
  obtain ⟨sq, nd, ch, gr, gn, rfl, _⟩ := h
  rfl
theorem DocR.one {T : World → Value → Prop} {B0 : Nat} {w : World} {d : Doc} {cs : List Value} (h : DocR T B0 w d cs) : ∀ u ∈ cs, u.oneCell' = true := by
  obtain ⟨sq, nd, ch, gr, gn, rfl, _, ⟨A, c, rfl, _⟩, ⟨A', c', rfl, _⟩, ⟨A'', n, c'', rfl⟩, _⟩ := h
  intro u hu
  simp only [docC, List.mem_cons, List.not_mem_nil, or_false] at hu
  rcases hu with rfl | rfl | rfl | rfl | rfl | rfl <;> rfl
theorem DocR.any {T : World → Value → Prop} {B0 : Nat} {w : World} {d : Doc} {cs : List Value} (h : DocR T B0 w d cs) : DocR (fun _ _ => True) B0 w d cs := by
  obtain ⟨sq, nd, ch, gr, gn, h1, h2, h3, h4, h5, h6⟩ := h
  exact ⟨sq, nd, ch, gr, gn, h1, h2, h3, h4, h5, trivial⟩

/-! ### documents, row by row -/
def DRow (B0 : Nat) (w : World) (rows : List (List Value)) (l : List Doc) : Prop := rows.length = l.length ∧ ∀ (k : Nat) r d, rows[k]? = some r → l[k]? = some d → DocR (fun _ _ => True) B0 w d r
theorem DRow.low {B0 : Nat} {w w' : World} {rows : List (List Value)} {l : List Doc} (h : DRow B0 w rows l) (hl : Low B0 w w') : DRow B0 w' rows l := ⟨h.1, fun k r d h1 h2 => (h.2 k r d h1 h2).low trueT hl⟩
theorem DRow.mono {B0 B1 : Nat} {w : World} {rows : List (List Value)} {l : List Doc} (h : DRow B0 w rows l) (hB : B0 ≤ B1) : DRow B1 w rows l := ⟨h.1, fun k r d h1 h2 => (h.2 k r d h1 h2).mono hB⟩
theorem DRow.mem {B0 : Nat} {w : World} {rows : List (List Value)} {l : List Doc} (h : DRow B0 w rows l) : ∀ r ∈ rows, ∃ d, DocR (fun _ _ => True) B0 w d r := by
  intro r hr
  obtain ⟨k, hk, rfl⟩ := List.getElem_of_mem hr
  have hk' : k < l.length := by rw [← h.1]; exact hk
  exact ⟨l[k], h.2 k _ _ (List.getElem?_eq_getElem hk) (List.getElem?_eq_getElem hk')⟩
theorem DRow.len {B0 : Nat} {w : World} {rows : List (List Value)} {l : List Doc} (h : DRow B0 w rows l) : ∀ r ∈ rows, r.length = 6 := fun r hr => by obtain ⟨d, hd⟩ := h.mem r hr; exact hd.len
theorem DRow.one {B0 : Nat} {w : World} {rows : List (List Value)} {l : List Doc} (h : DRow B0 w rows l) : ∀ u ∈ rows.flatten, u.oneCell' = true := fun u hu => by
  obtain ⟨r, hr, hu⟩ := List.mem_flatten.1 hu
  obtain ⟨d, hd⟩ := h.mem r hr
  exact hd.one u hu
theorem DRow.take {B0 : Nat} {w : World} {rows : List (List Value)} {l : List Doc} (h : DRow B0 w rows l) (k : Nat) : DRow B0 w (rows.take k) (l.take k) := by
  refine ⟨by simp [h.1], fun i r d h1 h2 => ?_⟩
  have hi : i < k := by have := (List.getElem?_eq_some_iff.1 h1).1; simp at this; omega
  rw [List.getElem?_take_of_lt hi] at h1 h2
  exact h.2 i r d h1 h2
theorem DRow.drop {B0 : Nat} {w : World} {rows : List (List Value)} {l : List Doc} (h : DRow B0 w rows l) (k : Nat) : DRow B0 w (rows.drop k) (l.drop k) := by
  refine ⟨by simp [h.1], fun i r d h1 h2 => ?_⟩
  rw [List.getElem?_drop] at h1 h2
  exact h.2 _ r d h1 h2
theorem DRow.append {B0 : Nat} {w : World} {r1 r2 : List (List Value)} {l1 l2 : List Doc} (h1 : DRow B0 w r1 l1) (h2 : DRow B0 w r2 l2) : DRow B0 w (r1 ++ r2) (l1 ++ l2) := by
  refine ⟨by simp [h1.1, h2.1], fun i r d e1 e2 => ?_⟩
  by_cases hi : i < r1.length
  · rw [List.getElem?_append_left hi] at e1
    rw [List.getElem?_append_left (by rw [← h1.1]; exact hi)] at e2
    exact h1.2 i r d e1 e2
  · rw [List.getElem?_append_right (by omega)] at e1
    rw [List.getElem?_append_right (by rw [← h1.1]; omega), ← h1.1] at e2
    exact h2.2 _ r d e1 e2
theorem DRow.single {B0 : Nat} {w : World} {r : List Value} {d : Doc} (h : DocR (fun _ _ => True) B0 w d r) : DRow B0 w [r] [d] := by
  refine ⟨rfl, fun i r' d' e1 e2 => ?_⟩
  have hi : i = 0 := by have := (List.getElem?_eq_some_iff.1 e1).1; simp at this; omega
  subst hi
  have : r = r' := by simpa using e1
  have : d = d' := by simpa using e2
  subst_vars
  exact h
theorem DS.rows {T : World → Value → Prop} {B0 : Nat} {w : World} {v : Value} {l : List Doc} (h : DS T B0 w v l) :
    ∃ A c rows, v = .slice A l.length c ∧ l.length ≤ c ∧ c ≤ maxLen ∧ DRow B0 w rows l ∧ (l.length = 0 ∨ ∃ b o, A = some ⟨b, o, none⟩ ∧ b < B0 ∧ ∀ (k j : Nat) r u, rows[k]? = some r → r[j]? = some u → w.cell? ⟨b, o + k * 6 + j, none⟩ = some u) := by
  obtain ⟨A, c, rfl, h1, h2, hel⟩ := h
  rcases hel with h0 | ⟨b, o, rfl, hr⟩
  · have : l = [] := List.eq_nil_of_length_eq_zero h0
    subst this
    exact ⟨A, c, [], rfl, h1, h2, ⟨rfl, fun k r d e => by simp at e⟩, .inl rfl⟩
  · rcases Nat.eq_zero_or_pos l.length with h0 | h0
    · have : l = [] := List.eq_nil_of_length_eq_zero h0
      subst this
      exact ⟨_, c, [], rfl, h1, h2, ⟨rfl, fun k r d e => by simp at e⟩, .inl rfl⟩
    obtain ⟨rows, hl, hp⟩ := choose_rows (n := l.length) (p := fun k cs => Cells B0 w b (o + k * 6) cs ∧ ∃ d, l[k]? = some d ∧ DocR T B0 w d cs) (fun k hk => by obtain ⟨cs, _, h3, h4⟩ := hr k hk; exact ⟨cs, h3, h4⟩)
    refine ⟨_, c, rows, rfl, h1, h2, ⟨hl, fun k r d e1 e2 => ?_⟩, .inr ⟨b, o, rfl, (hp 0 rows[0] (List.getElem?_eq_getElem (by omega))).1.1, fun k j r u e1 e2 => (hp k r e1).1.2 j u e2⟩⟩
    obtain ⟨_, d', h5, h6⟩ := hp k r e1
    rw [e2] at h5
    injection h5 with h5
    subst h5
    exact h6.any
theorem DS.of_own {B B0 B1 : Nat} {w : World} {v : Value} {l : List Doc} {rows : List (List Value)} (h : w.ownsRow B 45 6 v l.length rows.flatten) (hr : DRow B0 w rows l) (hB : B0 ≤ B1) (hw : w.heap.size ≤ B1) : DS (fun _ _ => True) B1 w v l := by
  rcases h.2 with ⟨rfl, h0⟩ | ⟨g, cap, cur, rfl, _, hg, h1, h2, h3, h4⟩
  · exact ⟨_, 0, by rw [h0], by omega, by unfold maxLen; omega, .inl h0⟩
  · refine ⟨_, cap, rfl, h1, h2, .inr ⟨g, 0, rfl, fun k hk => ?_⟩⟩
    have hk' : k < rows.length := by rw [hr.1]; exact hk
    refine ⟨rows[k], hr.len _ (List.getElem_mem hk'), ⟨Nat.lt_of_lt_of_le (blk_lt hg) hw, fun j u hj => ?_⟩, l[k], List.getElem?_eq_getElem hk, (hr.2 k _ _ (List.getElem?_eq_getElem hk') (List.getElem?_eq_getElem hk)).mono hB⟩
    have hj6 : j < 6 := by have := (List.getElem?_eq_some_iff.1 hj).1; rwa [hr.len _ (List.getElem_mem hk')] at this
    rw [Nat.zero_add, cell_of_row w g _ _ _ _ hg]
    have h5 := flat_at rows hr.len k j _ (List.getElem?_eq_getElem hk') hj6
    rw [← h4] at h5
    have hlt : k * 6 + j < l.length * 6 := by omega
    rw [List.getElem?_take_of_lt hlt] at h5
    rw [← Array.getElem?_toList, h5]
    exact hj
end Go.Proofs.Ytncjgfhipflokaa
