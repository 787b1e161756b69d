/-
  A state in memory, and the contracts upon it; operations; plain laws of who sees what.
-/
import Derived.Test.YtncjgfhipflokaaSr
namespace Go.Proofs.Ytncjgfhipflokaa
open Go.RowKit Go.Shelf Hp Go.Maps

/-! ### plain -/
theorem pairs_60 : ∀ l : List Doc, (∀ d ∈ l, d.grants.length ≤ 60) → (pairs l).length ≤ 60 * l.length := by
  intro l
  induction l with
  | nil => intro _; simp [pairs]
  | cons d l ih =>
    intro hd
    have e : pairs (d :: l) = d.grants ++ pairs l := by simp [pairs]
    rw [e, List.length_append, List.length_cons]
    have := ih (fun x hx => hd x (List.mem_cons_of_mem _ hx))
    have := hd d (by simp)
    omega
theorem small_pairs {docs : List Doc} (h : Small docs) : (pairs docs).length ≤ 3600 := by
  have := pairs_60 docs (fun d hd => (h.2 d hd).2)
  have := h.1
  omega
theorem Small.chans {docs : List Doc} (h : Small docs) : ∀ d ∈ docs, d.chans.length ≤ 99999 := fun d hd => by have := (h.2 d hd).1; omega
theorem mem_chans {docs : List Doc} {u c : S} : c ∈ chansOf docs u ↔ (u, c) ∈ pairs docs := by
  unfold chansOf chF
  rw [List.mem_map]
  constructor
  · rintro ⟨p, hp, rfl⟩
    obtain ⟨h1, h2⟩ := List.mem_filter.1 hp
    have h2 : p.1 = u := by simpa using h2
    subst h2
    exact h1
  · intro h
    exact ⟨(u, c), List.mem_filter.2 ⟨h, by simp⟩, rfl⟩
theorem users_chans {docs : List Doc} {u : S} : u ∈ (pairs docs).map (·.1) ↔ chansOf docs u ≠ [] := by
  rw [List.mem_map]
  constructor
  · rintro ⟨p, hp, rfl⟩ e
    have : p.2 ∈ chansOf docs p.1 := mem_chans.2 hp
    rw [e] at this
    cases this
  · intro h
    obtain ⟨c, t, e⟩ := List.exists_cons_of_ne_nil h
    have : c ∈ chansOf docs u := by rw [e]; simp
    exact ⟨(u, c), mem_chans.1 this, rfl⟩
theorem by_mem {docs : List Doc} {u id c : S} (h : byOf docs u id = some c) : c ∈ chansOf docs u ∧ ∃ d ∈ docs, d.id = id ∧ c ∈ d.chans := by
  unfold byOf at h
  cases hf : docs.find? (fun d => decide (d.id = id)) with
  | none => rw [hf] at h; cases h
  | some d =>
    rw [hf] at h
    have h1 := (least_spec h).1
    obtain ⟨h2, h3⟩ := List.mem_filter.1 h1
    exact ⟨by simpa using h3, d, List.mem_of_find?_eq_some hf, by simpa using List.find?_some hf, h2⟩
theorem seen_mem {docs : List Doc} {u id : S} (h : id ∈ seenOf docs u) : ∃ c, byOf docs u id = some c := by
  unfold seenOf seenF at h
  obtain ⟨d, hd, rfl⟩ := List.mem_map.1 h
  obtain ⟨_, h2⟩ := List.mem_filter.1 hd
  exact Option.isSome_iff_exists.1 (by simpa using h2)
theorem Keys.rise {l ks : List S} (h : Keys l ks) {i : Nat} (hp : 0 < i) (hi : i < l.length) : at_ l (i - 1) < at_ l i := by
  rw [at_get hi, at_get (by omega : i - 1 < l.length)]
  exact (List.pairwise_iff_getElem.1 h.1) (i - 1) i (by omega) hi (by omega)
theorem Keys.mem_at {l ks : List S} (h : Keys l ks) {i : Nat} (hi : i < l.length) : at_ l i ∈ ks := by
  rw [at_get hi]
  exact (h.2 _).1 (List.getElem_mem hi)
theorem Keys.nil {l ks : List S} (h : Keys l ks) : l = [] ↔ ks = [] := by
  constructor
  · rintro rfl
    cases ks with
    | nil => rfl
    | cons x t => exact absurd ((h.2 x).2 (by simp)) (by simp)
  · rintro rfl
    cases l with
    | nil => rfl
    | cons x t => exact absurd ((h.2 x).1 (by simp)) (by simp)
theorem mem_take_succ {l : List S} {i : Nat} (hi : i < l.length) (x : S) : x ∈ l.take (i + 1) ↔ x ∈ l.take i ∨ at_ l i = x := by
  rw [← List.take_append_getElem hi, List.mem_append, ← at_get hi, List.mem_singleton]
  exact or_congr Iff.rfl eq_comm

/-! ### operations -/
section
variable {Q : Exit → Act → World → Prop} {o : Oper} {a : Act} {w : World} {K : Act → World → Prop}
theorem ow_gtr0 (x : Operand) (t ty : TypeId) (ho : o.op = .binOp .gtr t x (.const (.int .i64 0)) ty) (i : Nat) (b : Bool) (hx : a.eval x = .int .i64 (i : Int)) (hb : decide (0 < i) = b) (h : K (a.put o.dst (.bool b)) w) : o.wp Try.prog a w K Q := by
  refine ow_value (v := .bool b) ?_ h
  subst hb
  unfold execOp
  simp only [ho, hx]
  simp [go_sem, Act.eval]
theorem ow_sub1 (x : Operand) (ty : TypeId) (ho : o.op = .binOp .sub 3 x (.const (.int .i64 1)) ty) (i : Nat) (hx : a.eval x = .int .i64 (i : Int)) (hp : 0 < i) (hi : i ≤ 9223372036854775807) (h : K (a.put o.dst (.int .i64 ((i - 1 : Nat) : Int))) w) : o.wp Try.prog a w K Q := by
  refine ow_value (v := .int .i64 ((i - 1 : Nat) : Int)) ?_ h
  unfold execOp
  simp only [ho, hx]
  have e : ((i - 1 : Nat) : Int) = (i : Int) - 1 := by omega
  have hw : IntKind.i64.wrap ((i : Int) - 1) = (i : Int) - 1 := IntWalk.i64_in _ (by omega)
  rw [e]
  simp [go_sem, Act.eval, hw]
theorem ow_eql0 (x : Operand) (t ty : TypeId) (ho : o.op = .binOp .eql t x (.const (.int .i64 0)) ty) (i : Nat) (b : Bool) (hx : a.eval x = .int .i64 (i : Int)) (hb : decide (i = 0) = b) (h : K (a.put o.dst (.bool b)) w) : o.wp Try.prog a w K Q := by
  refine ow_value (v := .bool b) ?_ h
  subst hb
  unfold execOp
  simp only [ho, hx]
  have e : ((i : Int) == 0) = decide (i = 0) := by rw [Bool.eq_iff_iff]; simp
  simp [go_sem, Act.eval, e]
end
theorem wanted_no {l : List Oper} {a : Act} {o : Oper} {g d : Nat} {want : Bool} (hg : o.guard = some (g, want)) (hd : (l[g]?).bind (·.dst) = some d) (hv : a.eval (.tmp d) = .bool (!want)) : Region.wanted o (yielded l.toArray a.tmps) = false := by
  rw [wanted_eq hg hd hv]; cases want <;> rfl
theorem gskip {l : List Oper} {o : Oper} {a : Act} {w : World} {K : Act → World → Prop} {Q : Exit → Act → World → Prop} (hw : Region.wanted o (yielded l.toArray a.tmps) = false) (h : K (a.put o.dst undef) w) :
    (Region.wanted o (yielded l.toArray a.tmps) = true → o.wp Try.prog a w K Q) ∧ (Region.wanted o (yielded l.toArray a.tmps) = false → K (a.put o.dst undef) w) :=
  ⟨fun h' => absurd (h'.symm.trans hw) (by decide), fun _ => h⟩

/-! ### a state, and what is asked of it -/
/-- of no more documents, grants and channels than every walk goes through -/
def Fit (docs : List Doc) : Prop := (pairs docs).length ≤ 99999 ∧ (∀ d ∈ docs, d.chans.length ≤ 99999) ∧ docs.length ≤ 99999
theorem Small.fit {docs : List Doc} (h : Small docs) : Fit docs := ⟨by have := small_pairs h; omega, h.chans, by have := h.1; omega⟩
structure Stt (B0 N : Nat) (docs : List Doc) (sq : Int) (dv lv sv : Value) (W : World) : Prop where
  ds : DS (fun _ _ => True) B0 W dv docs
  row : W.heap[N]? = some (.cells (stV sq dv lv sv) 27 (0, 0))
  le : B0 ≤ W.heap.size
  sm : Fit docs
section
variable {B0 N : Nat} {docs : List Doc} {sq : Int} {dv lv sv : Value} {W W' : World}
theorem trueT : ∀ (B0 : Nat) (w w' : World) (v : Value), Low B0 w w' → (fun (_ : World) (_ : Value) => True) w v → (fun (_ : World) (_ : Value) => True) w' v := fun _ _ _ _ _ _ => trivial
theorem Stt.below (h : Stt B0 N docs sq dv lv sv W) (hb : Below W.heap.size W W') : Stt B0 N docs sq dv lv sv W' := ⟨h.ds.low trueT (Low.of_all hb), blk_below h.row hb, Nat.le_trans h.le hb.size, h.sm⟩
theorem Stt.c (h : Stt B0 N docs sq dv lv sv W) : W.cell? ⟨N, 0, none⟩ = some (.int .u64 sq) ∧ W.cell? ⟨N, 1, none⟩ = some dv ∧ W.cell? ⟨N, 2, none⟩ = some lv ∧ W.cell? ⟨N, 3, none⟩ = some sv :=
  ⟨cell_of_row W N 0 _ _ _ h.row, cell_of_row W N 1 _ _ _ h.row, cell_of_row W N 2 _ _ _ h.row, cell_of_row W N 3 _ _ _ h.row⟩
theorem Stt.of (h : Stt B0 N docs sq dv lv sv W) (x : S) : Calls Try.prog 14 #[.agg (stV sq dv lv sv), encStr x] W fun e w' => ∃ v l, e = .returned v ∧ RT w' v l ∧ Keys l (chansOf docs x) ∧ Below W.heap.size W w' :=
  (of_any _ trueT docs sq dv lv sv W x B0 h.le h.ds h.sm.1).mono (by rintro e w' ⟨v, l, h1, h2, h3, h4⟩; exact ⟨v, l, h1, h2.rt, h3, h4⟩)
theorem Stt.users (h : Stt B0 N docs sq dv lv sv W) : Calls Try.prog 16 #[.agg (stV sq dv lv sv)] W fun e w' => ∃ v l, e = .returned v ∧ RT w' v l ∧ Keys l ((pairs docs).map (·.1)) ∧ Below W.heap.size W w' :=
  (users_any _ trueT docs sq dv lv sv W B0 h.le h.ds h.sm.1).mono (by rintro e w' ⟨v, l, h1, h2, h3, h4⟩; exact ⟨v, l, h1, h2.rt, h3, h4⟩)
theorem Stt.all (h : Stt B0 N docs sq dv lv sv W) (x : S) : Calls Try.prog 18 #[.agg (stV sq dv lv sv), encStr x] W fun e w' => ∃ v l, e = .returned v ∧ RT w' v l ∧ Keys l (seenOf docs x) ∧ Below W.heap.size W w' :=
  (All_any _ trueT docs sq dv lv sv W x B0 h.le h.ds h.sm.1 h.sm.2.1 h.sm.2.2).mono (by rintro e w' ⟨v, l, h1, h2, h3, h4⟩; exact ⟨v, l, h1, h2.rt, h3, h4⟩)
theorem Stt.by (h : Stt B0 N docs sq dv lv sv W) (x id : S) : Calls Try.prog 10 #[.agg (stV sq dv lv sv), encStr x, encStr id] W fun e w' => e = .returned (.tuple #[encStr ((byOf docs x id).getD []), .bool (byOf docs x id).isSome]) ∧ Below W.heap.size W w' :=
  By_any _ trueT docs sq dv lv sv W x id B0 h.le h.ds h.sm.1 h.sm.2.1
theorem Stt.sees (h : Stt B0 N docs sq dv lv sv W) (x id : S) : Calls Try.prog 12 #[.agg (stV sq dv lv sv), encStr x, encStr id] W fun e w' => e = .returned (.bool (byOf docs x id).isSome) ∧ Below W.heap.size W w' :=
  Sees_any _ trueT docs sq dv lv sv W x id B0 h.le h.ds h.sm.1 h.sm.2.1
end
end Go.Proofs.Ytncjgfhipflokaa
