/-
  Words for regions with guards: laws of single operations.
-/
import Derived.Test.YtlhdnloimgckgaaWt
namespace Go.Proofs.Ytlhdnloimgckgaa
open Go.RowKit Go.Shelf

section
variable {Q : Exit → Act → World → Prop} {o : Oper} {a : Act} {w : World} {K : Act → World → Prop}
theorem ow_len (x : Operand) (t e : TypeId) (hu : Try.prog.underlying t = some (.slice e)) (ho : o.op = .call { callee := .builtin .len, args := #[x], argTypes := #[t] }) {A : Option Addr} {n c : Nat} (hx : a.eval x = .slice A n c) (h : K (a.put o.dst (.int .i64 (n : Int))) w) : o.wp Try.prog a w K Q := by
  refine ow_value (v := .int .i64 (n : Int)) ?_ h
  unfold execOp
  simp only [ho, resolve, invoke, builtin, Sem.run_bind, Sem.run_pure, Result.andThen_ok, List.map_toArray, List.map_cons, List.map_nil, hx]
  simp [Builtin.len_, run_underlying hu, goInt]
theorem ow_geq_nat (x y : Operand) (t ty : TypeId) (i j : Nat) (ho : o.op = .binOp .geq t x y ty) (hx : a.eval x = .int .i64 (i : Int)) (hy : a.eval y = .int .i64 (j : Int)) (_hu : Try.prog.underlying t = some (.int .i64)) (hij : j ≤ i) (h : K (a.put o.dst (.bool true)) w) : o.wp Try.prog a w K Q := by
  refine ow_value (v := .bool true) ?_ h
  unfold execOp
  simp only [ho, hx, hy]
  simp [go_sem, hij]
theorem ow_pick (x y z : Operand) (ho : o.op = .pick x y z) (b : Bool) (hx : a.eval x = .bool b) {v : Value} (hv : (if b then a.eval y else a.eval z) = v) (h : K (a.put o.dst v) w) : o.wp Try.prog a w K Q := by
  refine ow_value (v := v) ?_ h
  unfold execOp
  simp only [ho, hx]
  cases b <;> simp [go_sem] at hv ⊢ <;> rw [hv]
theorem ow_str (x : Operand) (ho : o.op = .convert 25 9 x) {v : Value} {bs : List UInt8} (hx : a.eval x = v) (hs : SB w v bs) (h : K (a.put o.dst (.string ⟨bs.toArray⟩)) w) : o.wp Try.prog a w K Q := by
  refine ow_value (v := .string ⟨bs.toArray⟩) ?_ h
  unfold execOp
  simp only [ho, hx, Sem.run_bind, conv_str w v bs hs, Result.andThen_ok, Sem.run_pure]
theorem ow_eql_str (x y : Operand) (ho : o.op = .binOp .eql 9 x y 9) (s : ByteArray) (hx : a.eval x = .string s) (hy : a.eval y = .string s) (h : K (a.put o.dst (.bool true)) w) : o.wp Try.prog a w K Q := by
  refine ow_value (v := .bool true) ?_ h
  unfold execOp
  simp only [ho, hx, hy]
  simp [go_sem]
end
theorem wanted_ok {l : List Oper} {a : Act} {o : Oper} {g d : Nat} {want : Bool} (hg : o.guard = some (g, want)) (hd : (l[g]?).bind (·.dst) = some d) (hv : a.eval (.tmp d) = .bool want) : Region.wanted o (yielded l.toArray a.tmps) = true := by
  rw [wanted_eq hg hd hv]; simp
/-- an operation that is wanted -/
theorem gstep {l : List Oper} {o : Oper} {a : Act} {w : World} {K : Act → World → Prop} {Q : Exit → Act → World → Prop} (hw : Region.wanted o (yielded l.toArray a.tmps) = true) (h : o.wp Try.prog a w K Q) :
    (Region.wanted o (yielded l.toArray a.tmps) = true → o.wp Try.prog a w K Q) ∧ (Region.wanted o (yielded l.toArray a.tmps) = false → K (a.put o.dst undef) w) :=
  ⟨fun _ => h, fun h' => absurd (h'.symm.trans hw) Bool.false_ne_true⟩
end Go.Proofs.Ytlhdnloimgckgaa
