/-
  Words for regions with guards: laws of single operations.
-/
import Derived.Test.YtlhdnloimgckgaaWt
namespace Go.Proofs.Ytlhdnloimgckgaa
open Go.RowKit Go.Shelf

section
variable {Q : Exit → Act → World → Prop} {o : Oper} {a : Act} {w : World} {K : Act → World → Prop}
theorem ow_len (x : Operand) (t e : TypeId) (hu : Try.prog.underlying t = some (.slice e)) (ho : o.op = .call { callee := .builtin .len, args := #[x], argTypes := #[t] }) {A : Option Addr} {n c : Nat} (hx : a.eval x = .slice A n c) (h : K (a.put o.dst (.int .i64 (n : Int))) w) : o.wp Try.prog a w K Q := by
  refine ow_value (v := .int .i64 (n : Int)) ?_ h
  unfold execOp
  simp only [ho, resolve, invoke, builtin, Sem.run_bind, Sem.run_pure, Result.andThen_ok, List.map_toArray, List.map_cons, List.map_nil, hx]
  simp [Builtin.len_, run_underlying hu, goInt]
theorem ow_geq_nat (x y : Operand) (t ty : TypeId) (i j : Nat) (ho : o.op = .binOp .geq t x y ty) (hx : a.eval x = .int .i64 (i : Int)) (hy : a.eval y = .int .i64 (j : Int)) (_hu : Try.prog.underlying t = some (.int .i64)) (hij : j ≤ i) (h : K (a.put o.dst (.bool true)) w) : o.wp Try.prog a w K Q := by
  refine ow_value (v := .bool true) ?_ h
  unfold execOp
  simp only [ho, hx, hy]
  simp [go_sem, hij]
theorem ow_pick (x y z : Operand) (ho : o.op = .pick x y z) (b : Bool) (hx : a.eval x = .bool b) {v : Value} (hv : (if b then a.eval y else a.eval z) = v) (h : K (a.put o.dst v) w) : o.wp Try.prog a w K Q := by
  refine ow_value (v := v) ?_ h
  unfold execOp
  simp only [ho, hx]
  cases b <;> simp [go_sem] at hv ⊢ <;> rw [hv]
theorem ow_str (x : Operand) (ho : o.op = .convert 25 9 x) {v : Value} {bs : List UInt8} (hx : a.eval x = v) (hs : SB w v bs) (h : K (a.put o.dst (.string ⟨bs.toArray⟩)) w) : o.wp Try.prog a w K Q := by
  refine ow_value (v := .string ⟨bs.toArray⟩) ?_ h
  unfold execOp
  simp only [ho, hx, Sem.run_bind, conv_str w v bs hs, Result.andThen_ok, Sem.run_pure]
theorem ow_eql_str (x y : Operand) (ho : o.op = .binOp .eql 9 x y 9) (s : ByteArray) (hx : a.eval x = .string s) (hy : a.eval y = .string s) (h : K (a.put o.dst (.bool true)) w) : o.wp Try.prog a w K Q := by
  refine ow_value (v := .bool true) ?_ h
  unfold execOp
  simp only [ho, hx, hy]
  simp [go_sem]
theorem ow_and_mask (x y : Operand) (ho : o.op = .binOp .and 3 x y 3) (i j : Int) (hx : a.eval x = .int .i64 i) (hy : a.eval y = .int .i64 j) {m : Nat} (hm : bits .and .i64 i j = (m : Int)) (h : K (a.put o.dst (.int .i64 (m : Int))) w) : o.wp Try.prog a w K Q := by
  refine ow_value (v := .int .i64 (m : Int)) ?_ h
  unfold execOp
  simp only [ho, hx, hy]
  simp [go_sem, hm]
theorem ow_rem_nat (x y : Operand) (ho : o.op = .binOp .rem 3 x y 3) (i j : Nat) (hx : a.eval x = .int .i64 (i : Int)) (hy : a.eval y = .int .i64 (j : Int)) (hj : 0 < j) (h : K (a.put o.dst (.int .i64 ((i % j : Nat) : Int))) w) : o.wp Try.prog a w K Q := by
  refine ow_value (v := .int .i64 ((i % j : Nat) : Int)) ?_ h
  unfold execOp
  simp only [ho, hx, hy]
  have h1 : ¬ (j = 0) := by omega
  have h2 : Int.tmod (i : Int) (j : Int) = ((i % j : Nat) : Int) := by rw [Int.tmod_eq_emod_of_nonneg (by omega)]; simp
  simp [go_sem, h1, h2]
theorem ow_quo_nat (x y : Operand) (ho : o.op = .binOp .quo 3 x y 3) (i j : Nat) (hx : a.eval x = .int .i64 (i : Int)) (hy : a.eval y = .int .i64 (j : Int)) (hj : 0 < j) (hi : i < 9223372036854775808) (h : K (a.put o.dst (.int .i64 ((i / j : Nat) : Int))) w) : o.wp Try.prog a w K Q := by
  refine ow_value (v := .int .i64 ((i / j : Nat) : Int)) ?_ h
  unfold execOp
  simp only [ho, hx, hy]
  have h1 : ¬ (j = 0) := by omega
  have h2 : Int.tdiv (i : Int) (j : Int) = ((i / j : Nat) : Int) := by rw [Int.tdiv_eq_ediv_of_nonneg (by omega)]; simp
  have h3 : i / j ≤ i := Nat.div_le_self _ _
  have h4 : IntKind.i64.wrap ((i / j : Nat) : Int) = ((i / j : Nat) : Int) := IntWalk.i64_in _ ⟨by have : (0 : Int) ≤ ((i / j : Nat) : Int) := Int.natCast_nonneg _; omega, by have : ((i / j : Nat) : Int) ≤ (i : Int) := Int.ofNat_le.2 h3; omega⟩
  rw [Int.natCast_ediv] at h4
  simp [go_sem, h1, h2, h4]
theorem ow_build46 (x y z : Operand) (ho : o.op = .buildSlice 46 3 #[(0, x), (1, y), (2, z)]) (i j k : Int) (hx : a.eval x = .int .i64 i) (hy : a.eval y = .int .i64 j) (hz : a.eval z = .int .i64 k)
    (h : K (a.put o.dst (.slice (some ⟨w.heap.size, 0, none⟩) 3 3)) (w.alloc (.cells #[.int .i64 i, .int .i64 j, .int .i64 k] 3))) : o.wp Try.prog a w K Q := by
  have key : (Instr.buildSlice 46 3 #[(0, .int .i64 i), (1, .int .i64 j), (2, .int .i64 k)]).run Try.prog w = .ok (.slice (some ⟨w.heap.size, 0, none⟩) 3 3) (w.alloc (.cells #[.int .i64 i, .int .i64 j, .int .i64 k] 3)) := by kernel_rfl
  refine ow_value' ?_ h
  unfold execOp
  simp only [ho, List.map_toArray, List.map_cons, List.map_nil, hx, hy, hz, Sem.run_bind, Sem.run_pure, key, Result.andThen_ok]
end
theorem wanted_ok {l : List Oper} {a : Act} {o : Oper} {g d : Nat} {want : Bool} (hg : o.guard = some (g, want)) (hd : (l[g]?).bind (·.dst) = some d) (hv : a.eval (.tmp d) = .bool want) : Region.wanted o (yielded l.toArray a.tmps) = true := by
  rw [wanted_eq hg hd hv]; simp
/-- an operation that is wanted -/
theorem gstep {l : List Oper} {o : Oper} {a : Act} {w : World} {K : Act → World → Prop} {Q : Exit → Act → World → Prop} (hw : Region.wanted o (yielded l.toArray a.tmps) = true) (h : o.wp Try.prog a w K Q) :
    (Region.wanted o (yielded l.toArray a.tmps) = true → o.wp Try.prog a w K Q) ∧ (Region.wanted o (yielded l.toArray a.tmps) = false → K (a.put o.dst undef) w) :=
  ⟨fun _ => h, fun h' => absurd (h'.symm.trans hw) Bool.false_ne_true⟩
end Go.Proofs.Ytlhdnloimgckgaa
