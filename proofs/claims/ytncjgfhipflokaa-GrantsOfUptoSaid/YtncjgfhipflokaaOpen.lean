/-
  What comes in, opened: states; what goes out, shut.
-/
import Derived.Test.YtncjgfhipflokaaRows
import Derived.Test.YtncjgfhipflokaaSs
import Derived.WalkKit
import Derived.ProofKit
import Derived.OpenShut
import Derived.JoinedCond
import Derived.Deep.Matrix
namespace Go.Proofs.Ytncjgfhipflokaa
open Go.ChangeShapes Go.WideShapes Go.ChangeAt Go.RowKit Hp

theorem own0 : ownKnob Try.prog.godebug = none := by kernel_rfl
theorem laid0 : laidOutB Try.prog = true := by kernel_rfl

/-- the arguments, read again in a world that has only grown -/
theorem trodAll_below {H : Type} {enc : TypeId × Value → H} {W W' : World} (hb : Below W.heap.size W W') : ∀ (ts : List TypeId) (vs : List Value) (ds : List (DataW H)) (p : List MemPlace),
    DataW.TrodAll enc Try.prog W 0 (fun _ => true) true ts vs ds p → (∀ t ∈ ts, Try.prog.readableRec t = true ∧ t < Try.prog.types.size) → (∀ x ∈ p, x.block < W.heap.size) →
      DataW.TrodAll enc Try.prog W' 0 (fun b => decide (b < W.heap.size)) true ts vs ds p := by
  intro ts
  induction ts with
  | nil =>
    intro vs ds p h _ _
    cases vs <;> cases ds <;> first | exact h | exact h.elim
  | cons t ts ih =>
    intro vs ds p h hr hlt
    cases vs with
    | nil => cases ds <;> exact h.elim
    | cons v vs =>
      cases ds with
      | nil => exact h.elim
      | cons d ds =>
        obtain ⟨p0, q0, h1, h2, rfl⟩ := h
        exact ⟨p0, q0, Below.trod laid0 (hr t (by simp)).1 (hr t (by simp)).2 h1 hb (fun x hx => hlt x (by simp [hx])), ih vs ds q0 h2 (fun t' ht' => hr t' (by simp [ht'])) (fun x hx => hlt x (by simp [hx])), rfl⟩

/-- the post of a law that answers true and leaves what was there -/
theorem post_true {H : Type} {enc : TypeId × Value → H} {f : Func} {s : ChangeSpec} {W W' : World} {args : Array Value} {ds gs : List (DataW H)} {before : List MemPlace}
    (hW : DataW.Whole enc Try.prog f.params.toList s.vars false W args.toList ds gs before) (hvars : s.vars = []) (hr : f.resultTypes = #[4])
    (h1 : (s.fn H (ds ++ gs)).results = [.lit (.bool true)]) (h2 : (s.fn H (ds ++ gs)).args = ds) (h3 : (s.fn H (ds ++ gs)).vars = [])
    (hts : ∀ t ∈ f.params.toList, Try.prog.readableRec t = true ∧ t < Try.prog.types.size) (hb : Below W.heap.size W W') :
    s.post enc Try.prog f false true false false W args (.bool true) W' := by
  have hW' := hW
  obtain ⟨p, q, hA, hV, rfl, _, _⟩ := hW
  rw [hvars] at hV
  obtain ⟨rfl, rfl⟩ := trodVars_none hV
  have hlt : ∀ x ∈ p, x.block < W.heap.size := fun x hx => hW'.lt x (by simp [hx])
  refine ⟨ds, [], p ++ [], [], p, [], hW', ?_, ?_, ?_, hb.frame _, fun h => by cases h⟩
  · rw [h1, hr]
    exact trodAll_cons_mk (shut_bool Try.underlying4 _) trodAll_mk0
  · rw [h2]; exact trodAll_below hb _ _ _ _ hA hts hlt
  · rw [h3, hvars]; exact rfl

theorem spot_none {w : World} {a : Addr} {v : Value} (h : w.cell? a = some v) : a.spot = none := by
  unfold World.cell? at h
  split at h
  · split at h
    · cases h
    · rename_i hs; simpa using hs
  · cases h
theorem addr_plain {a : Addr} (h : a.spot = none) : a = ⟨a.block, a.off, none⟩ := by cases a; simp_all
theorem mapM_some {α β : Type} {f : α → Option β} : ∀ {l : List α} {ys : List β}, l.mapM f = some ys → ∀ x ∈ l, ∃ y, f x = some y
  | [], _, _, x, hx => by cases hx
  | a :: l, ys, h, x, hx => by
    rw [List.mapM_cons] at h
    simp only [bind, Option.bind_eq_some_iff, pure, Option.some.injEq] at h
    obtain ⟨y, hy, zs, hz, rfl⟩ := h
    rcases List.mem_cons.1 hx with rfl | hx
    · exact ⟨y, hy⟩
    · exact mapM_some hz x hx
theorem mapM_at {α β : Type} {f : α → Option β} : ∀ {l : List α} {ys : List β}, l.mapM f = some ys → ys.length = l.length ∧ ∀ (i : Nat) x, l[i]? = some x → ∃ y, ys[i]? = some y ∧ f x = some y
  | [], ys, h => by
    simp only [List.mapM_nil, pure, Option.some.injEq] at h
    subst h
    exact ⟨rfl, fun i x hx => by simp at hx⟩
  | a :: l, ys, h => by
    rw [List.mapM_cons] at h
    simp only [bind, Option.bind_eq_some_iff, pure, Option.some.injEq] at h
    obtain ⟨y, hy, zs, hz, rfl⟩ := h
    obtain ⟨h1, h2⟩ := mapM_at hz
    refine ⟨by simp [h1], fun i x hx => ?_⟩
    cases i with
    | zero =>
      have : a = x := by simpa using hx
      subst this
      exact ⟨y, by simp, hy⟩
    | succ i =>
      obtain ⟨y', h3, h4⟩ := h2 i x (by simpa using hx)
      exact ⟨y', by simpa using h3, h4⟩
theorem list1 {cs : List Value} (h : cs.length = 1) : ∃ a, cs = [a] := by
  match cs, h with
  | [a], _ => exact ⟨a, rfl⟩
theorem list2 {cs : List Value} (h : cs.length = 2) : ∃ a b, cs = [a, b] := by
  match cs, h with
  | [a, b], _ => exact ⟨a, b, rfl⟩
theorem list4 {cs : List Value} (h : cs.length = 4) : ∃ a b c d, cs = [a, b, c, d] := by
  match cs, h with
  | [a, b, c, d], _ => exact ⟨a, b, c, d, rfl⟩
theorem list5 {cs : List Value} (h : cs.length = 5) : ∃ a b c d e, cs = [a, b, c, d, e] := by
  match cs, h with
  | [a, b, c, d, e], _ => exact ⟨a, b, c, d, e, rfl⟩
theorem list6 {cs : List Value} (h : cs.length = 6) : ∃ a b c d e f, cs = [a, b, c, d, e, f] := by
  match cs, h with
  | [a, b, c, d, e, f], _ => exact ⟨a, b, c, d, e, f, rfl⟩
/-- a run of cells, read -/
theorem cells_at {w : World} {base n : Nat} {a : Addr} {cs : List Value} (h : w.cells? base a n = some cs) : cs.length = n ∧ ∀ (j : Nat) v, cs[j]? = some v → w.cell? (a.add j) = some v := by
  unfold World.cells? at h
  split at h
  · obtain ⟨h1, h2⟩ := mapM_at h
    rw [List.length_range] at h1
    refine ⟨h1, fun j v hv => ?_⟩
    have hj : j < n := by have := (List.getElem?_eq_some_iff.1 hv).1; omega
    obtain ⟨y, h3, h4⟩ := h2 j j (by simp [hj])
    rw [hv] at h3
    injection h3 with h3
    rw [h3]; exact h4
  · cases h

section
variable {H : Type} {enc : TypeId × Value → H} {W : World} {fuel : Nat} {cs : List Value} {x : DataW H × List MemPlace}
/-- a slice, opened: its elements' cells, each of which reads -/
theorem trod_slice {t e : TypeId} {m : Nat} (hu : Try.prog.underlying t = some (.slice e)) (hm : Try.prog.cellsOf e = m) (hm0 : 0 < m) (h : DataW.trod enc Try.prog W 0 (fun _ => true) true fuel t cs = some x) :
    ∃ A n c, cs = [.slice A n c] ∧ n ≤ c ∧ c ≤ maxLen ∧ (n = 0 ∨ ∃ b o, A = some ⟨b, o, none⟩ ∧ ∀ k, k < n → ∃ es : List Value, es.length = m ∧ b < W.heap.size ∧ (∀ (j : Nat) v, es[j]? = some v → W.cell? ⟨b, o + k * m + j, none⟩ = some v) ∧ ∃ f y, DataW.trod enc Try.prog W 0 (fun _ => true) true f e es = some y) := by
  rcases Deep.open_slice hu h with ⟨rfl, _⟩ | ⟨a, n, c, mm, f, D, Pl, rfl, _, h1, h2, h3, _, h4⟩
  · exact ⟨none, 0, 0, rfl, Nat.le_refl _, Nat.zero_le _, .inl rfl⟩
  · refine ⟨some a, n, c, rfl, h1, h2, ?_⟩
    simp only [if_true] at h3
    rcases Nat.eq_zero_or_pos n with h0 | h0
    · exact .inl h0
    have hsp : a = ⟨a.block, a.off, none⟩ := by
      obtain ⟨es, h5, _⟩ := h4 0 (by omega)
      obtain ⟨h6, h7⟩ := cells_at h5
      have h8 := h7 0 es[0] (by rw [List.getElem?_eq_getElem])
      rw [Nat.zero_mul] at h8
      have h9 : (a.add 0).add 0 = a := by simp [Addr.add]
      rw [h9] at h8
      exact addr_plain (spot_none h8)
    refine .inr ⟨a.block, a.off, by rw [← hsp], fun k hk => ?_⟩
    obtain ⟨es, h5, h6⟩ := h4 k (by omega)
    obtain ⟨h7, h8⟩ := cells_at h5
    rw [hm] at h7
    have hcell : ∀ (j : Nat) v, es[j]? = some v → W.cell? ⟨a.block, a.off + k * m + j, none⟩ = some v := by
      intro j v hv
      have h9 := h8 j v hv
      rw [hm] at h9
      have e : (a.add (k * m)).add j = ⟨a.block, a.off + k * m + j, none⟩ := by
        rw [hsp, add_plain, add_plain]
      rw [e] at h9
      exact h9
    exact ⟨es, h7, cell_lt (hcell 0 es[0] (by rw [List.getElem?_eq_getElem])), hcell, f, _, h6⟩
/-- a struct, opened -/
theorem trod_struct {t : TypeId} {fs : Array Field} {m : Nat} (hu : Try.prog.underlying t = some (.struct fs)) (hm : Try.prog.cellsOf t = m) (h : DataW.trod enc Try.prog W 0 (fun _ => true) true fuel t cs = some x) :
    cs.length = m ∧ ∀ (i : Nat) (f : Field), fs.toList[i]? = some f → ∃ g y, DataW.trod enc Try.prog W 0 (fun _ => true) true g f.type ((cs.drop f.offset).take (Try.prog.cellsOf f.type)) = some y := by
  cases fuel with
  | zero => simp [DataW.trod] at h
  | succ g =>
    rw [DataW.trod_step] at h
    unfold DataW.trodStep at h
    simp only [hu, hm] at h
    split at h
    · rename_i hl
      simp only [Option.map_eq_some_iff] at h
      obtain ⟨ys, hy, -⟩ := h
      refine ⟨hl, fun i f hf => ?_⟩
      obtain ⟨y, h1⟩ := mapM_some hy f (List.mem_of_getElem? hf)
      exact ⟨g, y, h1⟩
    · cases h
/-- a text -/
theorem trod_text (h : DataW.trod enc Try.prog W 0 (fun _ => true) true fuel 9 cs = some x) : ∃ s : S, cs = [encStr s] ∧ s.length ≤ maxLen := by
  obtain ⟨s, rfl, _, h3⟩ := DataW.trod_string Try.underlying9 h
  have e : s.data.toList.length = s.size := Array.length_toList
  exact ⟨s.data.toList, rfl, by rw [e]; exact h3⟩
theorem c9 : Try.prog.cellsOf 9 = 1 := by kernel_rfl
theorem c35 : Try.prog.cellsOf 35 = 1 := by kernel_rfl
theorem c43 : Try.prog.cellsOf 43 = 1 := by kernel_rfl
theorem c48 : Try.prog.cellsOf 48 = 2 := by kernel_rfl
theorem c45 : Try.prog.cellsOf 45 = 6 := by kernel_rfl
theorem c42 : Try.prog.cellsOf 42 = 1 := by kernel_rfl
theorem c40 : Try.prog.cellsOf 40 = 1 := by kernel_rfl
theorem c89 : Try.prog.cellsOf 89 = 41 := by kernel_rfl
theorem c87 : Try.prog.cellsOf 87 = 5 := by kernel_rfl
theorem c85 : Try.prog.cellsOf 85 = 1 := by kernel_rfl
theorem c65 : Try.prog.cellsOf 65 = 2 := by kernel_rfl
theorem c70 : Try.prog.cellsOf 70 = 22 := by kernel_rfl
theorem c27 : Try.prog.cellsOf 27 = 4 := by kernel_rfl
theorem c22 : Try.prog.cellsOf 22 = 1 := by kernel_rfl
theorem c3 : Try.prog.cellsOf 3 = 1 := by kernel_rfl
theorem c2 : Try.prog.cellsOf 2 = 1 := by kernel_rfl
theorem c23 : Try.prog.cellsOf 23 = 1 := by kernel_rfl
theorem c24 : Try.prog.cellsOf 24 = 1 := by kernel_rfl
theorem c25 : Try.prog.cellsOf 25 = 1 := by kernel_rfl
/-- at k: what its cells hold -/
theorem choose_list {α : Type} {n : Nat} {p : Nat → α → Prop} (h : ∀ k, k < n → ∃ s, p k s) : ∃ l : List α, l.length = n ∧ ∀ k s, l[k]? = some s → p k s := by
  induction n with
  | zero => exact ⟨[], rfl, fun k s hk => by simp at hk⟩
  | succ n ih =>
    obtain ⟨l, h1, h2⟩ := ih (fun k hk => h k (by omega))
    obtain ⟨s, hs⟩ := h n (by omega)
    refine ⟨l ++ [s], by simp [h1], fun k x hk => ?_⟩
    by_cases hkn : k < n
    · rw [List.getElem?_append_left (by omega)] at hk
      exact h2 k x hk
    · have hlt : k < n + 1 := by have := (List.getElem?_eq_some_iff.1 hk).1; simp [h1] at this; omega
      obtain rfl : k = n := by omega
      rw [List.getElem?_append_right (by omega)] at hk
      have : s = x := by simpa [h1] using hk
      rw [← this]; exact hs
theorem choose_texts {n : Nat} {p : Nat → S → Prop} (h : ∀ k, k < n → ∃ s, p k s) : ∃ l : List S, l.length = n ∧ ∀ k, k < n → p k (at_ l k) := by
  obtain ⟨l, h1, h2⟩ := choose_list h
  exact ⟨l, h1, fun k hk => h2 k _ (by rw [at_get (by omega : k < l.length), List.getElem?_eq_getElem])⟩
/-- texts -/
theorem trod_texts (h : DataW.trod enc Try.prog W 0 (fun _ => true) true fuel 35 cs = some x) : ∃ v l, cs = [v] ∧ SS W.heap.size W v l := by
  obtain ⟨A, n, c, rfl, h1, h2, h3⟩ := trod_slice Try.underlying35 c9 (by omega) h
  have hk : ∀ k, k < n → ∃ s : S, s.length ≤ maxLen ∧ ∃ b o, A = some ⟨b, o, none⟩ ∧ b < W.heap.size ∧ W.cell? ⟨b, o + k * 1, none⟩ = some (encStr s) := by
    intro k hk
    obtain ⟨b, o, e, h4⟩ := h3.resolve_left (by omega)
    obtain ⟨es, _, h5, h6, f, y, h7⟩ := h4 k hk
    obtain ⟨s, rfl, h8⟩ := trod_text h7
    exact ⟨s, h8, b, o, e, h5, h6 0 _ rfl⟩
  obtain ⟨l, hl, hp⟩ := choose_texts hk
  refine ⟨_, l, rfl, A, c, by rw [hl], by omega, h2, ?_, ?_⟩
  · intro x hx
    obtain ⟨k, hk1, rfl⟩ := mem_at hx
    exact (hp k (by omega)).1
  · rcases Nat.eq_zero_or_pos n with h0 | h0
    · exact .inl (by omega)
    · obtain ⟨_, b, o, e, hb, _⟩ := hp 0 h0
      refine .inr ⟨b, o, e, fun k hk => ?_⟩
      obtain ⟨_, b', o', e', _, h5⟩ := hp k (by omega)
      rw [e] at e'
      injection e' with e'
      injection e' with e1 e2
      subst e1 e2
      exact ⟨[encStr (at_ l k)], rfl, ⟨hb, fun j v hj => by
        have hj0 : j = 0 := by have := (List.getElem?_eq_some_iff.1 hj).1; simp at this; omega
        subst hj0
        injection hj with hj
        subst hj
        exact h5⟩, rfl⟩
/-- grants -/
theorem trod_grants (h : DataW.trod enc Try.prog W 0 (fun _ => true) true fuel 43 cs = some x) : ∃ v l, cs = [v] ∧ GS W.heap.size W v l := by
  obtain ⟨A, n, c, rfl, h1, h2, h3⟩ := trod_slice Try.underlying43 c48 (by omega) h
  have hk : ∀ k, k < n → ∃ s : S × S, (s.1.length ≤ maxLen ∧ s.2.length ≤ maxLen) ∧ ∃ b o, A = some ⟨b, o, none⟩ ∧ b < W.heap.size ∧ ∀ (j : Nat) v, [encStr s.1, encStr s.2][j]? = some v → W.cell? ⟨b, o + k * 2 + j, none⟩ = some v := by
    intro k hk
    obtain ⟨b, o, e, h4⟩ := h3.resolve_left (by omega)
    obtain ⟨es, _, h5, h6, f, y, h7⟩ := h4 k hk
    obtain ⟨h8, h9⟩ := trod_struct Try.underlying48 c48 h7
    obtain ⟨f0, y0, t0⟩ : ∃ g y, DataW.trod enc Try.prog W 0 (fun _ => true) true g 9 ((es.drop 0).take (Try.prog.cellsOf 9)) = some y := h9 0 _ rfl
    rw [c9] at t0
    obtain ⟨f1, y1, t1⟩ : ∃ g y, DataW.trod enc Try.prog W 0 (fun _ => true) true g 9 ((es.drop 1).take (Try.prog.cellsOf 9)) = some y := h9 1 _ rfl
    rw [c9] at t1
    obtain ⟨e0, e1, rfl⟩ := list2 h8
    obtain ⟨s0, q0, l0⟩ := trod_text t0
    obtain ⟨s1, q1, l1⟩ := trod_text t1
    have q0' : [e0] = [encStr s0] := q0
    have q1' : [e1] = [encStr s1] := q1
    injection q0' with q0'
    injection q1' with q1'
    subst q0' q1'
    exact ⟨(s0, s1), ⟨l0, l1⟩, b, o, e, h5, h6⟩
  obtain ⟨l, hl, hp⟩ := choose_list hk
  refine ⟨_, l, rfl, A, c, by rw [hl], by omega, h2, ?_, ?_⟩
  · intro x hx
    obtain ⟨k, hk1, rfl⟩ := List.getElem_of_mem hx
    exact (hp k _ (List.getElem?_eq_getElem hk1)).1
  · rcases Nat.eq_zero_or_pos n with h0 | h0
    · exact .inl (by omega)
    · obtain ⟨_, b, o, e, hb, _⟩ := hp 0 l[0] (List.getElem?_eq_getElem (by omega))
      refine .inr ⟨b, o, e, fun k hk => ?_⟩
      obtain ⟨_, b', o', e', _, h5⟩ := hp k l[k] (List.getElem?_eq_getElem hk)
      rw [e] at e'
      injection e' with e'
      injection e' with e1 e2
      subst e1 e2
      exact ⟨[encStr l[k].1, encStr l[k].2], rfl, ⟨hb, h5⟩, l[k], List.getElem?_eq_getElem hk, rfl⟩
/-- a value, m deep -/
theorem trod_val : ∀ (m fuel : Nat) (cs : List Value) (x : DataW H × List MemPlace), DataW.trod enc Try.prog W 0 (fun _ => true) true fuel 87 cs = some x → VT W m cs := by
  intro m
  induction m with
  | zero =>
    intro fuel cs x h
    obtain ⟨h8, h9⟩ := trod_struct Try.underlying87 c87 h
    obtain ⟨f0, y0, t0⟩ : ∃ g y, DataW.trod enc Try.prog W 0 (fun _ => true) true g 3 ((cs.drop 0).take (Try.prog.cellsOf 3)) = some y := h9 0 _ rfl
    rw [c3] at t0
    obtain ⟨f1, y1, t1⟩ : ∃ g y, DataW.trod enc Try.prog W 0 (fun _ => true) true g 2 ((cs.drop 1).take (Try.prog.cellsOf 2)) = some y := h9 1 _ rfl
    rw [c2] at t1
    obtain ⟨f2, y2, t2⟩ : ∃ g y, DataW.trod enc Try.prog W 0 (fun _ => true) true g 9 ((cs.drop 2).take (Try.prog.cellsOf 9)) = some y := h9 2 _ rfl
    rw [c9] at t2
    obtain ⟨f3, y3, t3⟩ : ∃ g y, DataW.trod enc Try.prog W 0 (fun _ => true) true g 85 ((cs.drop 3).take (Try.prog.cellsOf 85)) = some y := h9 3 _ rfl
    rw [c85] at t3
    obtain ⟨f4, y4, t4⟩ : ∃ g y, DataW.trod enc Try.prog W 0 (fun _ => true) true g 35 ((cs.drop 4).take (Try.prog.cellsOf 35)) = some y := h9 4 _ rfl
    rw [c35] at t4
    obtain ⟨e0, e1, e2, e3, e4, rfl⟩ := list5 h8
    obtain ⟨n0, q0, _⟩ := DataW.trod_int Try.underlying3 t0
    obtain ⟨n1, q1, _⟩ := DataW.trod_int Try.underlying2 t1
    obtain ⟨s2, q2, _⟩ := DataW.trod_string Try.underlying9 t2
    obtain ⟨LA, ln, lc, q3, _⟩ := trod_slice Try.underlying85 c87 (by omega) t3
    obtain ⟨KA, kn, kc, q4, _⟩ := trod_slice Try.underlying35 c9 (by omega) t4
    have q0' : [e0] = [.int .i64 n0] := q0
    have q1' : [e1] = [.int .i64 n1] := q1
    have q2' : [e2] = [.string s2] := q2
    have q3' : [e3] = [.slice LA ln lc] := q3
    have q4' : [e4] = [.slice KA kn kc] := q4
    injection q0' with q0'; injection q1' with q1'; injection q2' with q2'; injection q3' with q3'; injection q4' with q4'
    subst q0' q1' q2' q3' q4'
    exact ⟨_, _, s2, LA, ln, lc, KA, kn, kc, rfl, rfl, rfl⟩
  | succ m ih =>
    intro fuel cs x h
    obtain ⟨h8, h9⟩ := trod_struct Try.underlying87 c87 h
    obtain ⟨f0, y0, t0⟩ : ∃ g y, DataW.trod enc Try.prog W 0 (fun _ => true) true g 3 ((cs.drop 0).take (Try.prog.cellsOf 3)) = some y := h9 0 _ rfl
    rw [c3] at t0
    obtain ⟨f1, y1, t1⟩ : ∃ g y, DataW.trod enc Try.prog W 0 (fun _ => true) true g 2 ((cs.drop 1).take (Try.prog.cellsOf 2)) = some y := h9 1 _ rfl
    rw [c2] at t1
    obtain ⟨f2, y2, t2⟩ : ∃ g y, DataW.trod enc Try.prog W 0 (fun _ => true) true g 9 ((cs.drop 2).take (Try.prog.cellsOf 9)) = some y := h9 2 _ rfl
    rw [c9] at t2
    obtain ⟨f3, y3, t3⟩ : ∃ g y, DataW.trod enc Try.prog W 0 (fun _ => true) true g 85 ((cs.drop 3).take (Try.prog.cellsOf 85)) = some y := h9 3 _ rfl
    rw [c85] at t3
    obtain ⟨f4, y4, t4⟩ : ∃ g y, DataW.trod enc Try.prog W 0 (fun _ => true) true g 35 ((cs.drop 4).take (Try.prog.cellsOf 35)) = some y := h9 4 _ rfl
    rw [c35] at t4
    obtain ⟨e0, e1, e2, e3, e4, rfl⟩ := list5 h8
    obtain ⟨n0, q0, _⟩ := DataW.trod_int Try.underlying3 t0
    obtain ⟨n1, q1, _⟩ := DataW.trod_int Try.underlying2 t1
    obtain ⟨s2, q2, _⟩ := DataW.trod_string Try.underlying9 t2
    obtain ⟨LA, ln, lc, q3, a1, a2, a3⟩ := trod_slice Try.underlying85 c87 (by omega) t3
    obtain ⟨KA, kn, kc, q4, b1, b2, b3⟩ := trod_slice Try.underlying35 c9 (by omega) t4
    have q0' : [e0] = [.int .i64 n0] := q0
    have q1' : [e1] = [.int .i64 n1] := q1
    have q2' : [e2] = [.string s2] := q2
    have q3' : [e3] = [.slice LA ln lc] := q3
    have q4' : [e4] = [.slice KA kn kc] := q4
    injection q0' with q0'; injection q1' with q1'; injection q2' with q2'; injection q3' with q3'; injection q4' with q4'
    subst q0' q1' q2' q3' q4'
    refine ⟨_, _, s2, LA, ln, lc, KA, kn, kc, rfl, rfl, rfl, by omega, by omega, b3.imp _root_.id ?_, a3.imp _root_.id ?_⟩
    · rintro ⟨b, o, e, hk⟩
      refine ⟨b, o, e, fun k hkn => ?_⟩
      obtain ⟨es, _, _, h6, f, y, h7⟩ := hk k hkn
      obtain ⟨s, rfl, _⟩ := DataW.trod_string Try.underlying9 h7
      exact ⟨s, by have := h6 0 _ rfl; simpa using this⟩
    · rintro ⟨b, o, e, hk⟩
      refine ⟨b, o, e, fun k hkn => ?_⟩
      obtain ⟨es, _, _, h6, f, y, h7⟩ := hk k hkn
      exact ⟨es, h6, ih f es y h7⟩
/-- a tree's nodes -/
theorem trod_nodes (h : DataW.trod enc Try.prog W 0 (fun _ => true) true fuel 42 cs = some x) : ∃ A n c, cs = [.slice A n c] ∧ TreeT W (.slice A n c) := by
  obtain ⟨h8, h9⟩ := trod_struct Try.underlying42 c42 h
  obtain ⟨f0, y0, t0⟩ : ∃ g y, DataW.trod enc Try.prog W 0 (fun _ => true) true g 40 ((cs.drop 0).take (Try.prog.cellsOf 40)) = some y := h9 0 _ rfl
  rw [c40] at t0
  obtain ⟨A, n, c, q0, h1, h2, h3⟩ := trod_slice Try.underlying40 c89 (by omega) t0
  obtain ⟨e0, rfl⟩ := list1 h8
  have q0' : [e0] = [.slice A n c] := q0
  injection q0' with q0'
  subst q0'
  refine ⟨A, n, c, rfl, A, n, c, rfl, by omega, h3.imp _root_.id ?_⟩
  rintro ⟨b, o, e, hk⟩
  refine ⟨b, o, e, fun k hkn => ?_⟩
  obtain ⟨es, hel, _, h6, f, y, h7⟩ := hk k hkn
  obtain ⟨g8, g9⟩ := trod_struct Try.underlying89 c89 h7
  obtain ⟨f4, y4, t4⟩ : ∃ g y, DataW.trod enc Try.prog W 0 (fun _ => true) true g 87 ((es.drop 36).take (Try.prog.cellsOf 87)) = some y := g9 4 _ rfl
  rw [c87] at t4
  refine ⟨(es.drop 36).take 5, fun j v hv => ?_, trod_val 20 _ _ _ t4⟩
  have hj : j < 5 := by have := (List.getElem?_eq_some_iff.1 hv).1; rw [List.length_take] at this; omega
  rw [List.getElem?_take_of_lt hj, List.getElem?_drop] at hv
  have := h6 (36 + j) v hv
  rw [← Nat.add_assoc] at this
  exact this
/-- a document -/
theorem trod_doc (h : DataW.trod enc Try.prog W 0 (fun _ => true) true fuel 45 cs = some x) : ∃ d : Doc, DocR TreeT W.heap.size W d cs := by
  obtain ⟨h8, h9⟩ := trod_struct Try.underlying45 c45 h
  obtain ⟨f0, y0, t0⟩ : ∃ g y, DataW.trod enc Try.prog W 0 (fun _ => true) true g 9 ((cs.drop 0).take (Try.prog.cellsOf 9)) = some y := h9 0 _ rfl
  rw [c9] at t0
  obtain ⟨f1, y1, t1⟩ : ∃ g y, DataW.trod enc Try.prog W 0 (fun _ => true) true g 22 ((cs.drop 1).take (Try.prog.cellsOf 22)) = some y := h9 1 _ rfl
  rw [c22] at t1
  obtain ⟨f2, y2, t2⟩ : ∃ g y, DataW.trod enc Try.prog W 0 (fun _ => true) true g 42 ((cs.drop 2).take (Try.prog.cellsOf 42)) = some y := h9 2 _ rfl
  rw [c42] at t2
  obtain ⟨f3, y3, t3⟩ : ∃ g y, DataW.trod enc Try.prog W 0 (fun _ => true) true g 35 ((cs.drop 3).take (Try.prog.cellsOf 35)) = some y := h9 3 _ rfl
  rw [c35] at t3
  obtain ⟨f4, y4, t4⟩ : ∃ g y, DataW.trod enc Try.prog W 0 (fun _ => true) true g 43 ((cs.drop 4).take (Try.prog.cellsOf 43)) = some y := h9 4 _ rfl
  rw [c43] at t4
  obtain ⟨f5, y5, t5⟩ : ∃ g y, DataW.trod enc Try.prog W 0 (fun _ => true) true g 3 ((cs.drop 5).take (Try.prog.cellsOf 3)) = some y := h9 5 _ rfl
  rw [c3] at t5
  obtain ⟨e0, e1, e2, e3, e4, e5, rfl⟩ := list6 h8
  obtain ⟨s0, q0, l0⟩ := trod_text t0
  obtain ⟨n1, q1, _⟩ := DataW.trod_int Try.underlying22 t1
  obtain ⟨A, n, c, q2, ht⟩ := trod_nodes t2
  obtain ⟨v3, l3, q3, hs⟩ := trod_texts t3
  obtain ⟨v4, l4, q4, hg⟩ := trod_grants t4
  obtain ⟨n5, q5, _⟩ := DataW.trod_int Try.underlying3 t5
  have q0' : [e0] = [encStr s0] := q0
  have q1' : [e1] = [.int .u64 n1] := q1
  have q2' : [e2] = [.slice A n c] := q2
  have q3' : [e3] = [v3] := q3
  have q4' : [e4] = [v4] := q4
  have q5' : [e5] = [.int .i64 n5] := q5
  injection q0' with q0'; injection q1' with q1'; injection q2' with q2'; injection q3' with q3'; injection q4' with q4'; injection q5' with q5'
  subst q0' q1' q2' q3' q4' q5'
  exact ⟨⟨s0, l3, l4⟩, n1, _, _, _, n5, rfl, l0, hs, hg, ⟨A, n, c, rfl⟩, ht⟩
/-- documents -/
theorem trod_docs (h : DataW.trod enc Try.prog W 0 (fun _ => true) true fuel 23 cs = some x) : ∃ v l, cs = [v] ∧ DS TreeT W.heap.size W v l := by
  obtain ⟨A, n, c, rfl, h1, h2, h3⟩ := trod_slice Try.underlying23 c45 (by omega) h
  have hk : ∀ k, k < n → ∃ d : Doc, ∃ b o es, A = some ⟨b, o, none⟩ ∧ es.length = 6 ∧ Cells W.heap.size W b (o + k * 6) es ∧ DocR TreeT W.heap.size W d es := by
    intro k hk
    obtain ⟨b, o, e, h4⟩ := h3.resolve_left (by omega)
    obtain ⟨es, hl, h5, h6, f, y, h7⟩ := h4 k hk
    obtain ⟨d, hd⟩ := trod_doc h7
    exact ⟨d, b, o, es, e, hl, ⟨h5, h6⟩, hd⟩
  obtain ⟨l, hl, hp⟩ := choose_list hk
  refine ⟨_, l, rfl, A, c, by rw [hl], by omega, h2, ?_⟩
  rcases Nat.eq_zero_or_pos n with h0 | h0
  · exact .inl (by omega)
  · obtain ⟨b, o, _, e, _⟩ := hp 0 l[0] (List.getElem?_eq_getElem (by omega))
    refine .inr ⟨b, o, e, fun k hk => ?_⟩
    obtain ⟨b', o', es, e', h4, h5, h6⟩ := hp k l[k] (List.getElem?_eq_getElem hk)
    rw [e] at e'
    injection e' with e'
    injection e' with e1 e2
    subst e1 e2
    exact ⟨es, h4, h5, l[k], List.getElem?_eq_getElem hk, h6⟩
/-- checkpoints -/
theorem trod_locs (h : DataW.trod enc Try.prog W 0 (fun _ => true) true fuel 24 cs = some x) : ∃ v, cs = [v] ∧ LocT W v := by
  obtain ⟨A, n, c, rfl, h1, h2, h3⟩ := trod_slice Try.underlying24 c65 (by omega) h
  refine ⟨_, rfl, A, n, c, rfl, by omega, h3.imp _root_.id ?_⟩
  rintro ⟨b, o, e, hk⟩
  refine ⟨b, o, e, fun k hkn => ?_⟩
  obtain ⟨es, hl, _, h6, f, y, h7⟩ := hk k hkn
  obtain ⟨h8, h9⟩ := trod_struct Try.underlying65 c65 h7
  obtain ⟨f0, y0, t0⟩ : ∃ g y, DataW.trod enc Try.prog W 0 (fun _ => true) true g 9 ((es.drop 0).take (Try.prog.cellsOf 9)) = some y := h9 0 _ rfl
  rw [c9] at t0
  obtain ⟨e0, e1, rfl⟩ := list2 h8
  obtain ⟨s0, q0, _⟩ := trod_text t0
  have q0' : [e0] = [encStr s0] := q0
  injection q0' with q0'
  subst q0'
  exact ⟨s0, h6 0 _ rfl⟩
/-- what was told -/
theorem trod_seens (h : DataW.trod enc Try.prog W 0 (fun _ => true) true fuel 25 cs = some x) : ∃ v, cs = [v] ∧ SeenT W v := by
  obtain ⟨A, n, c, rfl, h1, h2, h3⟩ := trod_slice Try.underlying25 c70 (by omega) h
  refine ⟨_, rfl, A, n, c, rfl, by omega, h3.imp _root_.id ?_⟩
  rintro ⟨b, o, e, hk⟩
  refine ⟨b, o, e, fun k hkn => ?_⟩
  obtain ⟨es, hl, _, h6, f, y, h7⟩ := hk k hkn
  obtain ⟨h8, h9⟩ := trod_struct Try.underlying70 c70 h7
  obtain ⟨f0, y0, t0⟩ : ∃ g y, DataW.trod enc Try.prog W 0 (fun _ => true) true g 9 ((es.drop 0).take (Try.prog.cellsOf 9)) = some y := h9 0 _ rfl
  rw [c9] at t0
  obtain ⟨f1, y1, t1⟩ : ∃ g y, DataW.trod enc Try.prog W 0 (fun _ => true) true g 9 ((es.drop 1).take (Try.prog.cellsOf 9)) = some y := h9 1 _ rfl
  rw [c9] at t1
  obtain ⟨f5, y5, t5⟩ : ∃ g y, DataW.trod enc Try.prog W 0 (fun _ => true) true g 9 ((es.drop 21).take (Try.prog.cellsOf 9)) = some y := h9 5 _ rfl
  rw [c9] at t5
  obtain ⟨s0, q0, _⟩ := trod_text t0
  obtain ⟨s1, q1, _⟩ := trod_text t1
  obtain ⟨s5, q5, _⟩ := trod_text t5
  have one : ∀ (j : Nat) (s : S), (es.drop j).take 1 = [encStr s] → es[j]? = some (encStr s) := by
    intro j s hq
    have : ((es.drop j).take 1)[0]? = some (encStr s) := by rw [hq]; rfl
    rw [List.getElem?_take_of_lt (by omega), List.getElem?_drop, Nat.add_zero] at this
    exact this
  exact ⟨s0, s1, s5, h6 0 _ (one 0 s0 q0), h6 1 _ (one 1 s1 q1), h6 21 _ (one 21 s5 q5)⟩
theorem trod_state (h : DataW.trod enc Try.prog W 0 (fun _ => true) true fuel 27 cs = some x) : ∃ sq dv lv sv docs, cs = (stV sq dv lv sv).toList ∧ DS TreeT W.heap.size W dv docs ∧ LocT W lv ∧ SeenT W sv := by
  obtain ⟨h8, h9⟩ := trod_struct Try.underlying27 c27 h
  obtain ⟨f0, y0, t0⟩ : ∃ g y, DataW.trod enc Try.prog W 0 (fun _ => true) true g 22 ((cs.drop 0).take (Try.prog.cellsOf 22)) = some y := h9 0 _ rfl
  rw [c22] at t0
  obtain ⟨f1, y1, t1⟩ : ∃ g y, DataW.trod enc Try.prog W 0 (fun _ => true) true g 23 ((cs.drop 1).take (Try.prog.cellsOf 23)) = some y := h9 1 _ rfl
  rw [c23] at t1
  obtain ⟨f2, y2, t2⟩ : ∃ g y, DataW.trod enc Try.prog W 0 (fun _ => true) true g 24 ((cs.drop 2).take (Try.prog.cellsOf 24)) = some y := h9 2 _ rfl
  rw [c24] at t2
  obtain ⟨f3, y3, t3⟩ : ∃ g y, DataW.trod enc Try.prog W 0 (fun _ => true) true g 25 ((cs.drop 3).take (Try.prog.cellsOf 25)) = some y := h9 3 _ rfl
  rw [c25] at t3
  obtain ⟨e0, e1, e2, e3, rfl⟩ := list4 h8
  obtain ⟨n0, q0, _⟩ := DataW.trod_int Try.underlying22 t0
  obtain ⟨dv, docs, q1, hd⟩ := trod_docs t1
  obtain ⟨lv, q2, hl⟩ := trod_locs t2
  obtain ⟨sv, q3, hs⟩ := trod_seens t3
  have q0' : [e0] = [.int .u64 n0] := q0
  have q1' : [e1] = [dv] := q1
  have q2' : [e2] = [lv] := q2
  have q3' : [e3] = [sv] := q3
  injection q0' with q0'; injection q1' with q1'; injection q2' with q2'; injection q3' with q3'
  subst q0' q1' q2' q3'
  exact ⟨n0, _, _, _, docs, rfl, hd, hl, hs⟩
end
/-- a state -/
theorem open_state {H : Type} {enc : TypeId × Value → H} {W : World} {v : Value} {d : DataW H} {ps : List MemPlace} {base : Nat} (hval : Value.okWide Try.prog W .any base 27 v) (h : DataW.Trod enc Try.prog W 0 (fun _ => true) true 27 v d ps) :
    ∃ sq dv lv sv docs, v = .agg (stV sq dv lv sv) ∧ DS TreeT W.heap.size W dv docs ∧ LocT W lv ∧ SeenT W sv := by
  simp only [Value.okWide, Try.underlying27] at hval
  obtain ⟨cs, rfl, -, -⟩ := hval
  obtain ⟨fuel, h⟩ := h
  obtain ⟨sq, dv, lv, sv, docs, e, r⟩ := trod_state h
  simp only [Value.cells] at e
  exact ⟨sq, dv, lv, sv, docs, by rw [← Array.toList_inj.1 e], r⟩
/-- a text -/
theorem open_text {H : Type} {enc : TypeId × Value → H} {W : World} {v : Value} {d : DataW H} {ps : List MemPlace} {base : Nat} (hval : Value.okWide Try.prog W .any base 9 v) (h : DataW.Trod enc Try.prog W 0 (fun _ => true) true 9 v d ps) :
    ∃ s : S, v = encStr s ∧ s.length ≤ maxLen := by
  obtain ⟨s, rfl⟩ := okWide_string Try.underlying9 hval
  obtain ⟨fuel, h⟩ := h
  obtain ⟨s', e, hs⟩ := trod_text h
  have e : [Value.string s] = [encStr s'] := e
  injection e with e
  exact ⟨s', e, hs⟩
end Go.Proofs.Ytncjgfhipflokaa
