/-
  Laws of single operations; number, first, orders, sized, RotateLeft32, ror.
-/
import Derived.Test.YtnemclbeofiakaaWa
import Derived.Test.YtnemclbeofiakaaSpec
namespace Go.Proofs.Ytnemclbeofiakaa
open Go.RowKit Bl

def wordsV (l : List Nat) : List Value := l.map fun x : Nat => .int .u32 (x : Int)
theorem wordsV_one (l : List Nat) : ∀ u ∈ (wordsV l).toArray.toList, u.oneCell' = true := by
  intro u hu
  have hu' : u ∈ wordsV l := hu
  obtain ⟨c, _, rfl⟩ := List.mem_map.1 hu'
  rfl
theorem wordsV_size (l : List Nat) : (wordsV l).toArray.size = l.length := by simp [wordsV]
theorem wordsV_set (l : List Nat) (i x : Nat) : (wordsV l).toArray.setIfInBounds i (.int .u32 (x : Int)) = (wordsV (l.set i x)).toArray := by
  simp [wordsV, List.map_set]
theorem words_cell {w : World} {g : Nat} {l : List Nat} {t : TypeId} {fr : Nat × Nat} (h : w.heap[g]? = some (.cells (wordsV l).toArray t fr)) (i : Nat) (hi : i < l.length) : w.cell? ⟨g, i, none⟩ = some (.int .u32 ((l.getD i 0 : Nat) : Int)) := by
  rw [cell_of_row w g i _ t fr h]
  simp [wordsV, List.getD_eq_getElem?_getD, hi]

section
variable {P : Program} {Q : Exit → Act → World → Prop} {o : Oper} {a : Act} {w : World} {K : Act → World → Prop}
theorem ow_extract (x : Operand) (i : Nat) (ho : o.op = .extract x i) {vs : Array Value} (hx : a.eval x = .tuple vs) {v : Value} (hv : vs[i]? = some v) (h : K (a.put o.dst v) w) : o.wp P a w K Q := by
  refine ow_value (v := v) ?_ h
  unfold execOp
  simp only [ho, hx]
  simp [go_sem, hv]
theorem ow_index (x y : Operand) (e t : TypeId) (ho : o.op = .indexAddr t x y) (b j n c k : Nat) (hx : a.eval x = .slice (some ⟨b, j, none⟩) n c) (hy : a.eval y = .int .i64 (k : Int)) (hk : k < n)
    (hu : P.underlying t = some (.slice e)) (hi : (P.info? e).map (·.size) = some 1) (h : K (a.put o.dst (.pointer (some ⟨b, j + k, none⟩))) w) : o.wp P a w K Q := by
  refine ow_value (v := .pointer (some ⟨b, j + k, none⟩)) ?_ h
  obtain ⟨i, hi1, hi2⟩ := Option.map_eq_some_iff.1 hi
  unfold execOp
  simp only [ho, hx, hy]
  simp [go_sem, hu, hk, sizeOf, typeInfo, Sem.run_bind, hi1, hi2, add_plain]
/-- an array's element's address -/
theorem ow_index_arr (x y : Operand) (e t : TypeId) (m : Nat) (ho : o.op = .indexAddr t x y) (b j k : Nat) (hx : a.eval x = .pointer (some ⟨b, j, none⟩)) (hy : a.eval y = .int .i64 (k : Int)) (hk : k < m)
    (hu : P.underlying t = some (.array m e)) (hi : (P.info? e).map (·.size) = some 1) (h : K (a.put o.dst (.pointer (some ⟨b, j + k, none⟩))) w) : o.wp P a w K Q := by
  refine ow_value (v := .pointer (some ⟨b, j + k, none⟩)) ?_ h
  obtain ⟨i, hi1, hi2⟩ := Option.map_eq_some_iff.1 hi
  unfold execOp
  simp only [ho, hx, hy]
  simp [go_sem, hu, hk, sizeOf, typeInfo, Sem.run_bind, hi1, hi2, add_plain]
theorem ow_load_slice' (x : Operand) (e : TypeId) (t : TypeId) (ho : o.op = .load t x) (g i : Nat) (hx : a.eval x = .pointer (some ⟨g, i, none⟩)) (A : Option Addr) (n c : Nat) (hg : w.cell? ⟨g, i, none⟩ = some (.slice A n c))
    (hu : P.underlying t = some (.slice e)) (h : K (a.put o.dst (.slice A n c)) w) : o.wp P a w K Q := by
  refine ow_value (v := .slice A n c) ?_ h
  unfold execOp
  simp only [ho, hx, Instr.loadAt, Instr.sureAddr, Sem.run_bind, Sem.run_pure, Result.andThen_ok]
  simp [go_sem, hg, hu, isAgg, underlying]
theorem ow_load_int (x : Operand) (t : TypeId) (k : IntKind) (ho : o.op = .load t x) (g i : Nat) (hx : a.eval x = .pointer (some ⟨g, i, none⟩)) (n : Int) (hc : w.cell? ⟨g, i, none⟩ = some (.int k n))
    (hu : P.underlying t = some (.int k)) (h : K (a.put o.dst (.int k n)) w) : o.wp P a w K Q := by
  refine ow_value (v := .int k n) ?_ h
  unfold execOp
  simp only [ho, hx, Instr.loadAt, Instr.sureAddr, Sem.run_bind, Sem.run_pure, Result.andThen_ok]
  simp [go_sem, hc, hu, isAgg, underlying]
theorem ow_load_ptr (x : Operand) (t e : TypeId) (ho : o.op = .load t x) (g i : Nat) (hx : a.eval x = .pointer (some ⟨g, i, none⟩)) (p : Option Addr) (hc : w.cell? ⟨g, i, none⟩ = some (.pointer p))
    (hu : P.underlying t = some (.pointer e)) (h : K (a.put o.dst (.pointer p)) w) : o.wp P a w K Q := by
  refine ow_value (v := .pointer p) ?_ h
  unfold execOp
  simp only [ho, hx, Instr.loadAt, Instr.sureAddr, Sem.run_bind, Sem.run_pure, Result.andThen_ok]
  simp [go_sem, hc, hu, isAgg, underlying]
theorem ow_nilCheck (x : Operand) (ho : o.op = .nilCheck x) (ad : Addr) (hx : a.eval x = .pointer (some ad)) (h : K (a.put o.dst (.pointer (some ad))) w) : o.wp P a w K Q := by
  refine ow_value (v := .pointer (some ad)) ?_ h
  unfold execOp
  simp only [ho, hx]
  simp [go_sem]
theorem ow_alloc_row (e : TypeId) (ho : o.op = .alloc e) (z : Value) (hz : (zeroValue e).run P w = .ok z w)
    (h : ∀ w', w'.heap[w.heap.size]? = some (.cells z.cells e (0, 0)) → Below w.heap.size w w' → K (a.put o.dst (.pointer (some ⟨w.heap.size, 0, none⟩))) w') : o.wp P a w K Q := by
  have hr : (execOp a.eval o).run P w = .ok (.value (.pointer (some ⟨w.heap.size, 0, none⟩))) (w.alloc (.cells z.cells e)) := by
    unfold execOp
    simp only [ho]
    simp [Instr.alloc, hz, newVar, newRow, newObj, Sem.run_bind]
    rfl
  unfold Oper.wp
  rw [hr]
  exact h _ (heap_alloc_new w _) (below_alloc1 w _)
theorem ow_add_nat (x y : Operand) (t ty : TypeId) (i j : Nat) (ho : o.op = .binOp .add t x y ty) (hx : a.eval x = .int .i64 (i : Int)) (hy : a.eval y = .int .i64 (j : Int)) (_hu : P.underlying t = some (.int .i64)) (hb : i + j < 9223372036854775808)
    (h : K (a.put o.dst (.int .i64 ((i + j : Nat) : Int))) w) : o.wp P a w K Q := by
  refine ow_value (v := .int .i64 ((i + j : Nat) : Int)) ?_ h
  unfold execOp
  simp only [ho, hx, hy]
  have hw : IntKind.i64.wrap ((i : Int) + (j : Int)) = (i : Int) + (j : Int) := by
    simp only [IntKind.wrap, IntKind.signed, IntKind.bits]
    simp
    omega
  simp [go_sem, hw]
theorem ow_mul_nat (x y : Operand) (t ty : TypeId) (i j : Nat) (ho : o.op = .binOp .mul t x y ty) (hx : a.eval x = .int .i64 (i : Int)) (hy : a.eval y = .int .i64 (j : Int)) (_hu : P.underlying t = some (.int .i64)) (hb : i * j < 9223372036854775808)
    (h : K (a.put o.dst (.int .i64 ((i * j : Nat) : Int))) w) : o.wp P a w K Q := by
  refine ow_value (v := .int .i64 ((i * j : Nat) : Int)) ?_ h
  unfold execOp
  simp only [ho, hx, hy]
  have hw : IntKind.i64.wrap (((i * j : Nat) : Int)) = ((i * j : Nat) : Int) := IntWalk.i64_in _ (by omega)
  rw [Int.natCast_mul] at hw
  simp [go_sem, hw]
theorem ow_add32 (x y : Operand) (t ty : TypeId) (i j : Nat) (ho : o.op = .binOp .add t x y ty) (hx : a.eval x = .int .u32 (i : Int)) (hy : a.eval y = .int .u32 (j : Int)) (_hu : P.underlying t = some (.int .u32))
    (h : K (a.put o.dst (.int .u32 (((i + j) % M : Nat) : Int))) w) : o.wp P a w K Q := by
  refine ow_value (v := .int .u32 (((i + j) % M : Nat) : Int)) ?_ h
  unfold execOp
  simp only [ho, hx, hy]
  have hw : IntKind.u32.wrap ((i : Int) + (j : Int)) = (((i + j) % M : Nat) : Int) := by rw [IntKind.wrap_u32']; unfold M; omega
  rw [← hw]
  simp [go_sem]
theorem ow_xor32 (x y : Operand) (t ty : TypeId) (i j : Nat) (ho : o.op = .binOp .xor t x y ty) (hx : a.eval x = .int .u32 (i : Int)) (hy : a.eval y = .int .u32 (j : Int)) (hi : i < M) (hj : j < M) (_hu : P.underlying t = some (.int .u32))
    (h : K (a.put o.dst (.int .u32 ((i ^^^ j : Nat) : Int))) w) : o.wp P a w K Q := by
  refine ow_value (v := .int .u32 ((i ^^^ j : Nat) : Int)) ?_ h
  unfold execOp
  simp only [ho, hx, hy]
  have hw := u32_xor_nat i j hi hj
  simp [go_sem, hw]
theorem ow_neg (x : Operand) (t : TypeId) (i : Int) (ho : o.op = .unOp .neg t x) (hx : a.eval x = .int .i64 i) (hb : -9223372036854775807 ≤ i ∧ i ≤ 9223372036854775807) (_hu : P.underlying t = some (.int .i64))
    (h : K (a.put o.dst (.int .i64 (-i))) w) : o.wp P a w K Q := by
  refine ow_value (v := .int .i64 (-i)) ?_ h
  unfold execOp
  simp only [ho, hx]
  have hw : IntKind.i64.wrap (-i) = -i := IntWalk.i64_in _ (by omega)
  simp [go_sem, hw]
theorem ow_rem_nat (x y : Operand) (t ty : TypeId) (ho : o.op = .binOp .rem t x y ty) (i j : Nat) (hx : a.eval x = .int .i64 (i : Int)) (hy : a.eval y = .int .i64 (j : Int)) (hj : 0 < j) (_hu : P.underlying t = some (.int .i64)) (h : K (a.put o.dst (.int .i64 ((i % j : Nat) : Int))) w) : o.wp P a w K Q := by
  refine ow_value (v := .int .i64 ((i % j : Nat) : Int)) ?_ h
  unfold execOp
  simp only [ho, hx, hy]
  have h1 : ¬ (j = 0) := by omega
  have h2 : Int.tmod (i : Int) (j : Int) = ((i % j : Nat) : Int) := by rw [Int.tmod_eq_emod_of_nonneg (by omega)]; simp
  simp [go_sem, h1, h2]
theorem ow_quo_nat (x y : Operand) (t ty : TypeId) (ho : o.op = .binOp .quo t x y ty) (i j : Nat) (hx : a.eval x = .int .i64 (i : Int)) (hy : a.eval y = .int .i64 (j : Int)) (hj : 0 < j) (hi : i < 9223372036854775808) (_hu : P.underlying t = some (.int .i64)) (h : K (a.put o.dst (.int .i64 ((i / j : Nat) : Int))) w) : o.wp P a w K Q := by
  refine ow_value (v := .int .i64 ((i / j : Nat) : Int)) ?_ h
  unfold execOp
  simp only [ho, hx, hy]
  have h1 : ¬ (j = 0) := by omega
  have h2 : Int.tdiv (i : Int) (j : Int) = ((i / j : Nat) : Int) := by rw [Int.tdiv_eq_ediv_of_nonneg (by omega)]; simp
  have h3 : i / j ≤ i := Nat.div_le_self _ _
  have h4 : IntKind.i64.wrap ((i / j : Nat) : Int) = ((i / j : Nat) : Int) := IntWalk.i64_in _ ⟨by have : (0 : Int) ≤ ((i / j : Nat) : Int) := Int.natCast_nonneg _; omega, by have : ((i / j : Nat) : Int) ≤ (i : Int) := Int.ofNat_le.2 h3; omega⟩
  rw [Int.natCast_ediv] at h4
  simp [go_sem, h1, h2, h4]
end

/-- the value of a letter -/
def letter (c : Nat) : Nat := if c < 97 then c - 48 else c - 97 + 10
theorem number_any (c : Nat) (h : 48 ≤ c) (h2 : c < 128) (w : World) :
    Calls Try.prog 30 #[.int .u8 (c : Int)] w fun e w' => e = .returned (.int .i64 ((letter c : Nat) : Int)) ∧ w' = w := by
  unfold letter
  by_cases hc : c < 97
  · rw [if_pos hc]
    have hd : decide ((97 : Int) ≤ (c : Int)) = false := by simp; omega
    have e : ((c - 48 : Nat) : Int) = (c : Int) - 48 := by omega
    go_enter Try.func30, Try.ntmps30
    go_wp2
    go_ret
    exact ⟨by rw [e]; first | rfl | (congr 3; omega), rfl⟩
  · rw [if_neg hc]
    have hd : decide ((97 : Int) ≤ (c : Int)) = true := by simp; omega
    have e : ((c - 97 + 10 : Nat) : Int) = (c : Int) - 97 + 10 := by omega
    go_enter Try.func30, Try.ntmps30
    go_wp2
    go_ret
    exact ⟨by rw [e]; first | rfl | (congr 3; omega), rfl⟩
theorem sized_any (n : Int) (w : World) : Calls Try.prog 24 #[.int .i64 n] w fun e w' => e = .returned (.bool (decide (1 ≤ n ∧ n ≤ 32))) ∧ w' = w := by
  by_cases h1 : 1 ≤ n
  · have hd : decide ((1 : Int) ≤ n) = true := by simp [h1]
    by_cases h2 : n ≤ 32
    · have hd2 : decide (n ≤ 32) = true := by simp [h2]
      have hd3 : decide (1 ≤ n ∧ n ≤ 32) = true := by simp [h1, h2]
      rw [hd3]
      go_enter Try.func24, Try.ntmps24
      go_wp2
      go_ret
      exact ⟨rfl, rfl⟩
    · have hd2 : decide (n ≤ 32) = false := by simp; omega
      have hd3 : decide (1 ≤ n ∧ n ≤ 32) = false := by simp; omega
      rw [hd3]
      go_enter Try.func24, Try.ntmps24
      go_wp2
      go_ret
      exact ⟨rfl, rfl⟩
  · have hd : decide ((1 : Int) ≤ n) = false := by simp; omega
    have hd3 : decide (1 ≤ n ∧ n ≤ 32) = false := by simp; omega
    rw [hd3]
    go_enter Try.func24, Try.ntmps24
    go_wp2
    go_ret
    exact ⟨rfl, rfl⟩
end Go.Proofs.Ytnemclbeofiakaa
