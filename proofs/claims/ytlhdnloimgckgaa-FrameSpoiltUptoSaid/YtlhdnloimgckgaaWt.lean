/-
  FrameRow: parts of rows of records, put one behind the other.
-/
import Derived.Test.YtlhdnloimgckgaaWs
import Derived.Test.YtlhdnloimgckgaaReg3
namespace Go.Proofs.Ytlhdnloimgckgaa
open Go.RowKit Go.Shelf

/-- one by one -/
def RelL (R : Value → List UInt8 → Prop) (vs : List Value) (rs : List (List UInt8)) : Prop := vs.length = rs.length ∧ ∀ (i : Nat) u p, vs[i]? = some u → rs[i]? = some p → R u p
theorem RelL.take {R : Value → List UInt8 → Prop} {vs : List Value} {rs : List (List UInt8)} (h : RelL R vs rs) (k : Nat) : RelL R (vs.take k) (rs.take k) := by
  refine ⟨by simp [h.1], fun i u p hu hp => ?_⟩
  rw [List.getElem?_take] at hu hp
  split at hu
  · rename_i hlt
    rw [if_pos hlt] at hp
    exact h.2 i u p hu hp
  · cases hu
theorem RelL.drop {R : Value → List UInt8 → Prop} {vs : List Value} {rs : List (List UInt8)} (h : RelL R vs rs) (k : Nat) : RelL R (vs.drop k) (rs.drop k) := by
  refine ⟨by simp [h.1], fun i u p hu hp => ?_⟩
  rw [List.getElem?_drop] at hu hp
  exact h.2 _ u p hu hp
theorem RelL.append {R : Value → List UInt8 → Prop} {vs vs' : List Value} {rs rs' : List (List UInt8)} (h : RelL R vs rs) (h' : RelL R vs' rs') : RelL R (vs ++ vs') (rs ++ rs') := by
  refine ⟨by simp [h.1, h'.1], fun i u p hu hp => ?_⟩
  rcases Nat.lt_or_ge i vs.length with hi | hi
  · rw [List.getElem?_append_left hi] at hu
    rw [List.getElem?_append_left (by rw [← h.1]; exact hi)] at hp
    exact h.2 i u p hu hp
  · rw [List.getElem?_append_right hi] at hu
    rw [List.getElem?_append_right (by rw [← h.1]; exact hi), ← h.1] at hp
    exact h'.2 _ u p hu hp
theorem RelL.mono {R R' : Value → List UInt8 → Prop} {vs : List Value} {rs : List (List UInt8)} (h : RelL R vs rs) (hr : ∀ u p, R u p → R' u p) : RelL R' vs rs := ⟨h.1, fun i u p hu hp => hr u p (h.2 i u p hu hp)⟩
theorem RelL.one {R : Value → List UInt8 → Prop} {u : Value} {p : List UInt8} (h : R u p) : RelL R [u] [p] := by
  refine ⟨rfl, fun i x q hx hq => ?_⟩
  match i, hx, hq with
  | 0, rfl, rfl => exact h
/-- a row of slices that read -/
theorem sbb_of_rel {W : World} {B : Nat} {s : Value} {vs : List Value} {rs : List (List UInt8)} (ho : W.ownsRow B 25 1 s rs.length vs) (h : RelL (fun u p => SB W u p) vs rs) (hL : rs.length ≤ 140737488355328) : SBB W s rs := by
  rcases ho.2 with ⟨rfl, h0⟩ | ⟨g, cap, cur, rfl, _, hg, hcap, _, hsz, htk⟩
  · have : rs = [] := List.eq_nil_of_length_eq_zero h0
    subst this
    exact ⟨_, _, rfl, by simp, by simp, .inl rfl⟩
  · refine ⟨_, _, rfl, hcap, hL, .inr ⟨g, 0, rfl, fun i hi => ?_⟩⟩
    have hlt : i < vs.length := by rw [h.1]; exact hi
    refine ⟨vs[i], ?_, h.2 i vs[i] rs[i] (by simp [hlt]) (by simp [hi])⟩
    rw [Nat.zero_add, cell_of_row W g i _ _ _ hg]
    have h5 : vs[i]? = cur.toList[i]? := by rw [← htk, List.getElem?_take_of_lt (by omega)]
    have h6 : vs[i]? = some vs[i] := by simp [hlt]
    rw [← h6, h5]
    simp
/-- only rows of slices from B on are written -/
def G25 (B : Nat) (W W' : World) : Prop := ∀ j o, W.heap[j]? = some o → (¬ (B ≤ j ∧ ∃ cs, o = .cells cs 25 (0, 0))) → W'.heap[j]? = some o
theorem G25.of_below {B : Nat} {W W' : World} (h : Below W.heap.size W W') : G25 B W W' := fun _ _ hj _ => blk_below hj h
theorem G25.of_grown {B n : Nat} {W W' : World} {v : Value} {xs : List Value} (ho : W.ownsRow B 25 1 v n xs) (hg : W.grownBy W' v.ownBlock) : G25 B W W' := fun j o hj hn => blk_grown hj hg (fun e => by
  obtain ⟨h1, cs, h2⟩ := own_block ho e.symm
  rw [hj] at h2
  injection h2 with h2
  exact hn ⟨h1, cs, h2⟩)
theorem G25.other {B : Nat} {W W' : World} (h : G25 B W W') {j : Nat} {cs : Array Value} {t : TypeId} {fr : Nat × Nat} (hj : W.heap[j]? = some (.cells cs t fr)) (ht : t ≠ 25) : W'.heap[j]? = some (.cells cs t fr) :=
  h j _ hj (fun ⟨_, cs', e⟩ => by injection e with _ e; exact ht e)

/-- only empty rows of slices are written -/
def GE (W W' : World) : Prop := ∀ (j : Nat) (o : Obj), W.heap[j]? = some o → o ≠ Obj.cells #[] 25 (0, 0) → W'.heap[j]? = some o
theorem GE.of_below {W W' : World} (h : Below W.heap.size W W') : GE W W' := fun _ _ hj _ => blk_below hj h
theorem GE.of_grown {W W' : World} {g : Nat} (h0 : W.heap[g]? = some (.cells #[] 25 (0, 0))) (hg : W.grownBy W' (some g)) : GE W W' := fun j o hj hn => blk_grown hj hg (fun e => by
  injection e with e
  subst e
  rw [hj] at h0
  injection h0 with h0
  exact hn h0)
theorem own_empty {B : Nat} {W : World} {g : Nat} (hB : B ≤ g) (h : W.heap[g]? = some (.cells #[] 25 (0, 0))) : W.ownsRow B 25 1 (.slice (some ⟨g, 0, none⟩) 0 0) 0 [] :=
  ⟨rfl, .inr ⟨g, 0, #[], rfl, hB, h, Nat.le_refl _, by unfold maxLen; omega, rfl, rfl⟩⟩

/-- the row of records, as it lies: where its slices are, and what they read as -/
theorem RecsAt.open_ {B : Nat} {W : World} {s : Value} {rs : List (List UInt8)} (h : RecsAt B W s rs) (hp : ∀ p ∈ rs, p.length ≤ 140737488355328) (hpos : 0 < rs.length) :
    ∃ (g cap : Nat) (vs : List Value), s = .slice (some ⟨g, 0, none⟩) rs.length cap ∧ rs.length ≤ cap ∧ B ≤ g ∧ g < W.heap.size ∧ (∀ (j : Nat) u, vs[j]? = some u → W.cell? ⟨g, j, none⟩ = some u) ∧ RelL (fun u p => SB W u p) vs rs ∧ ∀ u ∈ vs, u.oneCell' = true := by
  obtain ⟨vs, h1, h2, h3⟩ := h
  rcases h2.2 with ⟨rfl, h0⟩ | ⟨g, cap, cur, rfl, hB, hg, hcap, _, hsz, htk⟩
  · omega
  · refine ⟨g, cap, vs, rfl, hcap, hB, blk_lt hg, fun j u hj => ?_, ⟨h1, fun i u p hu hq => SB_of_own (h3 i u p hu hq) (hp p (List.mem_of_getElem? hq))⟩, fun u hu => ?_⟩
    · have hlt := (List.getElem?_eq_some_iff.1 hj).1
      rw [cell_of_row W g j _ _ _ hg]
      rw [← htk, List.getElem?_take_of_lt (by omega)] at hj
      simpa using hj
    · obtain ⟨i, hi, rfl⟩ := List.mem_iff_getElem.1 hu
      exact own_one (h3 i vs[i] (rs[i]'(by omega)) (by simp [hi]) (by simp [show i < rs.length by omega]))

theorem ow_build0 {Q : Exit → Act → World → Prop} {o : Oper} {a : Act} {w : World} {K : Act → World → Prop} (ho : o.op = .buildSlice 22 0 #[]) (h : K (a.put o.dst (.slice (some ⟨w.heap.size, 0, none⟩) 0 0)) (w.alloc (.cells #[] 25))) : o.wp Try.prog a w K Q := by
  have key : (Instr.buildSlice 22 0 #[]).run Try.prog w = .ok (.slice (some ⟨w.heap.size, 0, none⟩) 0 0) (w.alloc (.cells #[] 25)) := by kernel_rfl
  refine ow_value' ?_ h
  unfold execOp
  simp only [ho, List.map_toArray, List.map_nil, Sem.run_bind, Sem.run_pure, key, Result.andThen_ok]
theorem own_build0 (w : World) : (w.alloc (.cells #[] 25)).ownsRow w.heap.size 25 1 (.slice (some ⟨w.heap.size, 0, none⟩) 0 0) 0 [] := World.ownsRow_made (e := 25) (size := 1) w #[] 0 (Nat.le_refl _) (by unfold maxLen; omega) (by simp)
section
variable {P : Program} {ops : Array Oper} {rest : List Oper} {o : Oper} {a : Act} {w : World} {Q : Exit → Act → World → Prop}
theorem wpList_slice_from (hgd : o.guard = none) (x y : Operand) (e t : TypeId) (ho : o.op = .slice t x (some y) none none) (b j n c k : Nat) (hx : a.eval x = .slice (some ⟨b, j, none⟩) n c) (hy : a.eval y = .int .i64 (k : Int))
    (hu : P.underlying t = some (.slice e)) (h1 : k ≤ n) (h2 : n ≤ c) (hi : (P.info? e).map (·.size) = some 1) (h : ∀ off, (n - k = 0 ∨ off = j + k) → wpList P ops Q rest (a.put o.dst (.slice (some ⟨b, off, none⟩) (n - k) (c - k))) w) : wpList P ops Q (o :: rest) a w :=
  wpList_plain hgd fun _ hK => ow_slice_from x y e t ho b j n c k hx hy hu h1 h2 hi fun off ho => hK _ _ (h off ho)
end
end Go.Proofs.Ytlhdnloimgckgaa
