/-
  Words for FrameRow: a row of tails; parts of slices; join.
-/
import Derived.Test.YtlhdnloimgckgaaWq
import Derived.Test.YtlhdnloimgckgaaReg2
import Derived.Test.YtlhdnloimgckgaaLaws2
namespace Go.Proofs.Ytlhdnloimgckgaa
open Go.RowKit Go.Shelf

section
variable {P : Program} {Q : Exit → Act → World → Prop} {o : Oper} {a : Act} {w : World} {K : Act → World → Prop}
theorem ow_index3 (x y : Operand) (e t : TypeId) (ho : o.op = .indexAddr t x y) (b n c k : Nat) (hx : a.eval x = .slice (some ⟨b, 0, none⟩) n c) (hy : a.eval y = .int .i64 (k : Int)) (hk : k < n)
    (hu : P.underlying t = some (.slice e)) (hi : (P.info? e).map (·.size) = some 3) (h : K (a.put o.dst (.pointer (some ⟨b, k * 3, none⟩))) w) : o.wp P a w K Q := by
  refine ow_value (v := .pointer (some ⟨b, k * 3, none⟩)) ?_ h
  obtain ⟨i, hi1, hi2⟩ := Option.map_eq_some_iff.1 hi
  unfold execOp
  simp only [ho, hx, hy]
  simp [go_sem, hu, hk, sizeOf, typeInfo, Sem.run_bind, hi1, hi2, add_plain]
theorem ow_slice_to (x y : Operand) (e t : TypeId) (ho : o.op = .slice t x none (some y) none) (b j n c k : Nat) (hx : a.eval x = .slice (some ⟨b, j, none⟩) n c) (hy : a.eval y = .int .i64 (k : Int))
    (hu : P.underlying t = some (.slice e)) (h1 : k ≤ c) (hi : (P.info? e).map (·.size) = some 1) (h : K (a.put o.dst (.slice (some ⟨b, j, none⟩) k c)) w) : o.wp P a w K Q := by
  refine ow_value (v := .slice (some ⟨b, j, none⟩) k c) ?_ h
  obtain ⟨i, hi1, hi2⟩ := Option.map_eq_some_iff.1 hi
  unfold execOp
  simp only [ho, hx, hy, Sem.run_bind, Option.map_some, Option.map_none]
  by_cases h0 : c = 0 <;> simp [go_sem, hu, h1, h0, sizeOf, typeInfo, Sem.run_bind, hi1, hi2]
  all_goals omega
theorem ow_slice_from (x y : Operand) (e t : TypeId) (ho : o.op = .slice t x (some y) none none) (b j n c k : Nat) (hx : a.eval x = .slice (some ⟨b, j, none⟩) n c) (hy : a.eval y = .int .i64 (k : Int))
    (hu : P.underlying t = some (.slice e)) (h1 : k ≤ n) (h2 : n ≤ c) (hi : (P.info? e).map (·.size) = some 1) (h : ∀ off, (n - k = 0 ∨ off = j + k) → K (a.put o.dst (.slice (some ⟨b, off, none⟩) (n - k) (c - k))) w) : o.wp P a w K Q := by
  refine ow_value (v := .slice (some ⟨b, if c = k then j else j + k, none⟩) (n - k) (c - k)) ?_ (h _ (by split <;> omega))
  obtain ⟨i, hi1, hi2⟩ := Option.map_eq_some_iff.1 hi
  unfold execOp
  simp only [ho, hx, hy, Sem.run_bind, Option.map_some, Option.map_none]
  simp [go_sem, hu, h1, sizeOf, typeInfo, Sem.run_bind, hi1, hi2]
  by_cases h0 : c = k <;> simp [h0]
end
/-- a struct in a row of them is read -/
theorem ow_load_tail {Q : Exit → Act → World → Prop} {o : Oper} {a : Act} {w : World} {K : Act → World → Prop} (x : Operand) (ho : o.op = .load 30 x) (g i : Nat) (hx : a.eval x = .pointer (some ⟨g, i, none⟩)) (v0 v1 v2 : Value)
    (h0 : w.cell? ⟨g, i, none⟩ = some v0) (h1 : w.cell? ⟨g, i + 1, none⟩ = some v1) (h2 : w.cell? ⟨g, i + 2, none⟩ = some v2) (h : K (a.put o.dst (.agg #[v0, v1, v2])) w) : o.wp Try.prog a w K Q := by
  refine ow_value (v := .agg #[v0, v1, v2]) ?_ h
  have hu := Try.underlying30
  have hi : (Try.prog.info? 30).map (·.size) = some 3 := by kernel_rfl
  obtain ⟨n, hi1, hi2⟩ := Option.map_eq_some_iff.1 hi
  unfold execOp
  simp only [ho, hx, Instr.loadAt, Instr.sureAddr, Sem.run_bind, Sem.run_pure, Result.andThen_ok]
  simp [go_sem, hu, isAgg, underlying, loadCells, loadCellsFrom, sizeOf, typeInfo, hi1, hi2, add_plain, h0, h1, h2]
theorem ow_field30' {Q : Exit → Act → World → Prop} {o : Oper} {a : Act} {w : World} {K : Act → World → Prop} (x : Operand) (ho : o.op = .fieldAddr 30 x 2) (g i : Nat) (hx : a.eval x = .pointer (some ⟨g, i, none⟩))
    (h : K (a.put o.dst (.pointer (some ⟨g, i + 2, none⟩))) w) : o.wp Try.prog a w K Q := by
  refine ow_value (v := .pointer (some ⟨g, i + 2, none⟩)) ?_ h
  unfold execOp
  simp only [ho, hx]
  have key : ((Instr.fieldAt 30 (.pointer (some ⟨g, i, none⟩)) 2).run Try.prog w) = .ok (.pointer (some ⟨g, i + 2, none⟩)) w := by rfl
  simp only [Sem.run_bind, key, Result.andThen_ok, Sem.run_pure]
theorem run_build43 (v0 v1 v2 : Value) (w : World) (h0 : v0.oneCell' = true) (h1 : v1.oneCell' = true) (h2 : v2.oneCell' = true) :
    (Instr.buildSlice 43 1 #[(0, .agg #[v0, v1, v2])]).run Try.prog w = .ok (.slice (some ⟨w.heap.size, 0, none⟩) 1 1) (w.alloc (.cells #[v0, v1, v2] 30)) := by
  cases v0 <;> first | (simp [Value.oneCell'] at h0; done) | (cases v1 <;> first | (simp [Value.oneCell'] at h1; done) | (cases v2 <;> first | (simp [Value.oneCell'] at h2; done) | kernel_rfl))
theorem info30 : (Try.prog.info? 30).map (fun i => (i.zero, i.size, i.bytes)) = some (some (.agg #[.int .i64 0, .int .i64 0, .int .u32 0]), 3, 24) := by kernel_rfl
end Go.Proofs.Ytlhdnloimgckgaa
