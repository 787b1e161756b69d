/-
  Laws of single operations.
-/
import Derived.Test.YtncjgfhipflokaaReg5
import Derived.Test.YtncjgfhipflokaaProg
import Derived.Test.YtncjgfhipflokaaHp
namespace Go.Proofs.Ytncjgfhipflokaa
open Go.RowKit

section
variable {P : Program} {Q : Exit → Act → World → Prop} {o : Oper} {a : Act} {w : World} {K : Act → World → Prop}
theorem ow_extract (x : Operand) (i : Nat) (ho : o.op = .extract x i) {vs : Array Value} (hx : a.eval x = .tuple vs) {v : Value} (hv : vs[i]? = some v) (h : K (a.put o.dst v) w) : o.wp P a w K Q := by
  refine ow_value (v := v) ?_ h
  unfold execOp
  simp only [ho, hx]
  simp [go_sem, hv]
theorem ow_index (x y : Operand) (e t : TypeId) (ho : o.op = .indexAddr t x y) (b j n c k : Nat) (hx : a.eval x = .slice (some ⟨b, j, none⟩) n c) (hy : a.eval y = .int .i64 (k : Int)) (hk : k < n)
    (hu : P.underlying t = some (.slice e)) (hi : (P.info? e).map (·.size) = some 1) (h : K (a.put o.dst (.pointer (some ⟨b, j + k, none⟩))) w) : o.wp P a w K Q := by
  refine ow_value (v := .pointer (some ⟨b, j + k, none⟩)) ?_ h
  obtain ⟨i, hi1, hi2⟩ := Option.map_eq_some_iff.1 hi
  unfold execOp
  simp only [ho, hx, hy]
  simp [go_sem, hu, hk, sizeOf, typeInfo, Sem.run_bind, hi1, hi2, add_plain]
theorem ow_load_slice' (x : Operand) (e : TypeId) (t : TypeId) (ho : o.op = .load t x) (g i : Nat) (hx : a.eval x = .pointer (some ⟨g, i, none⟩)) (A : Option Addr) (n c : Nat) (hg : w.cell? ⟨g, i, none⟩ = some (.slice A n c))
    (hu : P.underlying t = some (.slice e)) (h : K (a.put o.dst (.slice A n c)) w) : o.wp P a w K Q := by
  refine ow_value (v := .slice A n c) ?_ h
  unfold execOp
  simp only [ho, hx, Instr.loadAt, Instr.sureAddr, Sem.run_bind, Sem.run_pure, Result.andThen_ok]
  simp [go_sem, hg, hu, isAgg, underlying]
theorem ow_load_int (x : Operand) (t : TypeId) (k : IntKind) (ho : o.op = .load t x) (g i : Nat) (hx : a.eval x = .pointer (some ⟨g, i, none⟩)) (n : Int) (hc : w.cell? ⟨g, i, none⟩ = some (.int k n))
    (hu : P.underlying t = some (.int k)) (h : K (a.put o.dst (.int k n)) w) : o.wp P a w K Q := by
  refine ow_value (v := .int k n) ?_ h
  unfold execOp
  simp only [ho, hx, Instr.loadAt, Instr.sureAddr, Sem.run_bind, Sem.run_pure, Result.andThen_ok]
  simp [go_sem, hc, hu, isAgg, underlying]
theorem ow_load_ptr (x : Operand) (t e : TypeId) (ho : o.op = .load t x) (g i : Nat) (hx : a.eval x = .pointer (some ⟨g, i, none⟩)) (p : Option Addr) (hc : w.cell? ⟨g, i, none⟩ = some (.pointer p))
    (hu : P.underlying t = some (.pointer e)) (h : K (a.put o.dst (.pointer p)) w) : o.wp P a w K Q := by
  refine ow_value (v := .pointer p) ?_ h
  unfold execOp
  simp only [ho, hx, Instr.loadAt, Instr.sureAddr, Sem.run_bind, Sem.run_pure, Result.andThen_ok]
  simp [go_sem, hc, hu, isAgg, underlying]
theorem ow_nilCheck (x : Operand) (ho : o.op = .nilCheck x) (ad : Addr) (hx : a.eval x = .pointer (some ad)) (h : K (a.put o.dst (.pointer (some ad))) w) : o.wp P a w K Q := by
  refine ow_value (v := .pointer (some ad)) ?_ h
  unfold execOp
  simp only [ho, hx]
  simp [go_sem]
theorem ow_alloc_row (e : TypeId) (ho : o.op = .alloc e) (z : Value) (hz : (zeroValue e).run P w = .ok z w)
    (h : ∀ w', w'.heap[w.heap.size]? = some (.cells z.cells e (0, 0)) → Below w.heap.size w w' → K (a.put o.dst (.pointer (some ⟨w.heap.size, 0, none⟩))) w') : o.wp P a w K Q := by
  have hr : (execOp a.eval o).run P w = .ok (.value (.pointer (some ⟨w.heap.size, 0, none⟩))) (w.alloc (.cells z.cells e)) := by
    unfold execOp
    simp only [ho]
    simp [Instr.alloc, hz, newVar, newRow, newObj, Sem.run_bind]
    rfl
  unfold Oper.wp
  rw [hr]
  exact h _ (heap_alloc_new w _) (below_alloc1 w _)
theorem ow_add_nat (x y : Operand) (t ty : TypeId) (i j : Nat) (ho : o.op = .binOp .add t x y ty) (hx : a.eval x = .int .i64 (i : Int)) (hy : a.eval y = .int .i64 (j : Int)) (_hu : P.underlying t = some (.int .i64)) (hb : i + j < 9223372036854775808)
    (h : K (a.put o.dst (.int .i64 ((i + j : Nat) : Int))) w) : o.wp P a w K Q := by
  refine ow_value (v := .int .i64 ((i + j : Nat) : Int)) ?_ h
  unfold execOp
  simp only [ho, hx, hy]
  have hw : IntKind.i64.wrap ((i : Int) + (j : Int)) = (i : Int) + (j : Int) := by
    simp only [IntKind.wrap, IntKind.signed, IntKind.bits]
    simp
    omega
  simp [go_sem, hw]
theorem ow_mul_nat (x y : Operand) (t ty : TypeId) (i j : Nat) (ho : o.op = .binOp .mul t x y ty) (hx : a.eval x = .int .i64 (i : Int)) (hy : a.eval y = .int .i64 (j : Int)) (_hu : P.underlying t = some (.int .i64)) (hb : i * j < 9223372036854775808)
    (h : K (a.put o.dst (.int .i64 ((i * j : Nat) : Int))) w) : o.wp P a w K Q := by
  refine ow_value (v := .int .i64 ((i * j : Nat) : Int)) ?_ h
  unfold execOp
  simp only [ho, hx, hy]
  have hw : IntKind.i64.wrap (((i * j : Nat) : Int)) = ((i * j : Nat) : Int) := IntWalk.i64_in _ (by omega)
  rw [Int.natCast_mul] at hw
  simp [go_sem, hw]
theorem ow_quo_nat (x y : Operand) (t ty : TypeId) (ho : o.op = .binOp .quo t x y ty) (i j : Nat) (hx : a.eval x = .int .i64 (i : Int)) (hy : a.eval y = .int .i64 (j : Int)) (hj : 0 < j) (hi : i < 9223372036854775808) (_hu : P.underlying t = some (.int .i64)) (h : K (a.put o.dst (.int .i64 ((i / j : Nat) : Int))) w) : o.wp P a w K Q := by
  refine ow_value (v := .int .i64 ((i / j : Nat) : Int)) ?_ h
  unfold execOp
  simp only [ho, hx, hy]
  have h1 : ¬ (j = 0) := by omega
  have h2 : Int.tdiv (i : Int) (j : Int) = ((i / j : Nat) : Int) := by rw [Int.tdiv_eq_ediv_of_nonneg (by omega)]; simp
  have h3 : i / j ≤ i := Nat.div_le_self _ _
  have h4 : IntKind.i64.wrap ((i / j : Nat) : Int) = ((i / j : Nat) : Int) := IntWalk.i64_in _ ⟨by have : (0 : Int) ≤ ((i / j : Nat) : Int) := Int.natCast_nonneg _; omega, by have : ((i / j : Nat) : Int) ≤ (i : Int) := Int.ofNat_le.2 h3; omega⟩
  rw [Int.natCast_ediv] at h4
  simp [go_sem, h1, h2, h4]
theorem ow_load_str (x : Operand) (t : TypeId) (ho : o.op = .load t x) (g i : Nat) (hx : a.eval x = .pointer (some ⟨g, i, none⟩)) (s : ByteArray) (hc : w.cell? ⟨g, i, none⟩ = some (.string s))
    (hu : P.underlying t = some .string) (h : K (a.put o.dst (.string s)) w) : o.wp P a w K Q := by
  refine ow_value (v := .string s) ?_ h
  unfold execOp
  simp only [ho, hx, Instr.loadAt, Instr.sureAddr, Sem.run_bind, Sem.run_pure, Result.andThen_ok]
  simp [go_sem, hc, hu, isAgg, underlying]
end
section
variable {Q : Exit → Act → World → Prop} {o : Oper} {a : Act} {w : World} {K : Act → World → Prop} {ops : Array Oper} {rest : List Oper}
theorem ow_pick (x y z : Operand) (ho : o.op = .pick x y z) (b : Bool) (hx : a.eval x = .bool b) {v : Value} (hv : (if b then a.eval y else a.eval z) = v) (h : K (a.put o.dst v) w) : o.wp Try.prog a w K Q := by
  refine ow_value (v := v) ?_ h
  unfold execOp
  simp only [ho, hx]
  cases b <;> simp [go_sem] at hv ⊢ <;> rw [hv]
theorem ow_eql_int (x y : Operand) (t ty : TypeId) (ho : o.op = .binOp .eql t x y ty) (k : IntKind) (i : Int) (hx : a.eval x = .int k i) (hy : a.eval y = .int k i) (h : K (a.put o.dst (.bool true)) w) : o.wp Try.prog a w K Q := by
  refine ow_value (v := .bool true) ?_ h
  unfold execOp
  simp only [ho, hx, hy]
  simp [go_sem]
theorem wpList_want (hw : Region.wanted o (yielded ops a.tmps) = true) (h : o.wp Try.prog a w (wpList Try.prog ops Q rest) Q) : wpList Try.prog ops Q (o :: rest) a w := by
  unfold wpList
  rw [if_pos hw]
  exact .inl h
theorem ow_not (x : Operand) (t : TypeId) (ho : o.op = .unOp .not t x) (b : Bool) (hx : a.eval x = .bool b) (h : K (a.put o.dst (.bool (!b))) w) : o.wp Try.prog a w K Q := by
  refine ow_value (v := .bool (!b)) ?_ h
  unfold execOp
  simp only [ho, hx]
  simp [go_sem]
end
theorem wanted_ok {l : List Oper} {a : Act} {o : Oper} {g d : Nat} {want : Bool} (hg : o.guard = some (g, want)) (hd : (l[g]?).bind (·.dst) = some d) (hv : a.eval (.tmp d) = .bool want) : Region.wanted o (yielded l.toArray a.tmps) = true := by
  rw [wanted_eq hg hd hv]; simp
theorem gstep {l : List Oper} {o : Oper} {a : Act} {w : World} {K : Act → World → Prop} {Q : Exit → Act → World → Prop} (hw : Region.wanted o (yielded l.toArray a.tmps) = true) (h : o.wp Try.prog a w K Q) :
    (Region.wanted o (yielded l.toArray a.tmps) = true → o.wp Try.prog a w K Q) ∧ (Region.wanted o (yielded l.toArray a.tmps) = false → K (a.put o.dst undef) w) :=
  ⟨fun _ => h, fun h' => absurd (h'.symm.trans hw) Bool.false_ne_true⟩
theorem one_cell {w : World} {b : Nat} {v : Value} {t : TypeId} {fr : Nat × Nat} (h : w.heap[b]? = some (.cells #[v] t fr)) : ∀ ad, some (⟨b, 0, none⟩ : Addr) = some ad → ∀ (j : Nat) (u : Value), [v][j]? = some u → w.cell? (ad.add j) = some u := by
  intro ad e j u hu
  injection e with e
  subst e
  have hj : j = 0 := by have := (List.getElem?_eq_some_iff.1 hu).1; simp at this; omega
  subst hj
  rw [add_plain, cell_of_row w b (0 + 0) _ _ _ h]
  simpa using hu
theorem own_ge {w : World} {B : Nat} {e : TypeId} {n : Nat} {v : Value} {xs : List Value} (h : w.ownsRow B e 1 v n xs) : ∀ k, v.ownBlock = some k → B ≤ k := by
  intro k e
  rcases h.2 with ⟨rfl, _⟩ | ⟨g, cap, cur, rfl, hb, _⟩
  · cases e
  · have : g = k := by simpa [Value.ownBlock] using e
    omega
theorem own_move {A W : World} {B : Nat} {e : TypeId} {n : Nat} {v : Value} {xs : List Value} (h : A.ownsRow B e 1 v n xs) (hk : ∀ k cs, B ≤ k → A.heap[k]? = some (.cells cs e (0, 0)) → W.heap[k]? = some (.cells cs e (0, 0))) : W.ownsRow B e 1 v n xs := by
  refine ⟨h.1, h.2.imp id ?_⟩
  rintro ⟨g, cap, cur, h1, h2, h3, h4⟩
  exact ⟨g, cap, cur, h1, h2, hk g cur h2 h3, h4⟩
theorem own_below {A W : World} {B : Nat} {e : TypeId} {n : Nat} {v : Value} {xs : List Value} (h : A.ownsRow B e 1 v n xs) (hb : Below A.heap.size A W) : W.ownsRow B e 1 v n xs := own_move h fun _ _ _ h0 => blk_below h0 hb
theorem own_keep {w w' : World} {B n : Nat} {e : TypeId} {v : Value} {xs : List Value} (h : w.ownsRow B e 1 v n xs) (hgr : w.grownBy w' v.ownBlock) {g : Nat} {cs : Array Value} {t : TypeId} (hg : w.heap[g]? = some (.cells cs t (0, 0))) (ht : e ≠ t) : w'.heap[g]? = some (.cells cs t (0, 0)) := by
  refine blk_grown hg hgr (fun e => ?_)
  rcases own_ne_blk h hg ht with h0 | h0
  · rw [h0] at e; cases e
  · exact h0 e.symm
theorem tag9 : ((Try.prog.info? 9).map (·.size)) = some 1 := by kernel_rfl
theorem info9 : (Try.prog.info? 9).map (fun i => (i.zero, i.size, i.bytes)) = some (some (.string ⟨#[]⟩), 1, 16) := by kernel_rfl
end Go.Proofs.Ytncjgfhipflokaa
