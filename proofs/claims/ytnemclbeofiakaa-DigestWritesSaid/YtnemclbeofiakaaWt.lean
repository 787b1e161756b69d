/-
  Laws of single operations, for the laws' tests.
-/
import Derived.Test.YtnemclbeofiakaaWr
namespace Go.Proofs.Ytnemclbeofiakaa
open Go.RowKit Bl

section
variable {Q : Exit → Act → World → Prop} {o : Oper} {a : Act} {w : World} {K : Act → World → Prop}
theorem ow_pick (x y z : Operand) (ho : o.op = .pick x y z) (b : Bool) (hx : a.eval x = .bool b) {v : Value} (hv : (if b then a.eval y else a.eval z) = v) (h : K (a.put o.dst v) w) : o.wp Try.prog a w K Q := by
  refine ow_value (v := v) ?_ h
  unfold execOp
  simp only [ho, hx]
  cases b <;> simp [go_sem] at hv ⊢ <;> rw [hv]
theorem ow_str (x : Operand) (ho : o.op = .convert 24 9 x) {v : Value} {bs : List UInt8} (hx : a.eval x = v) (hs : SB w v bs) (h : K (a.put o.dst (.string ⟨bs.toArray⟩)) w) : o.wp Try.prog a w K Q := by
  refine ow_value (v := .string ⟨bs.toArray⟩) ?_ h
  unfold execOp
  simp only [ho, hx, Sem.run_bind, conv_str w v bs hs, Result.andThen_ok, Sem.run_pure]
theorem ow_eql_str (x y : Operand) (ho : o.op = .binOp .eql 9 x y 9) (s : ByteArray) (hx : a.eval x = .string s) (hy : a.eval y = .string s) (h : K (a.put o.dst (.bool true)) w) : o.wp Try.prog a w K Q := by
  refine ow_value (v := .bool true) ?_ h
  unfold execOp
  simp only [ho, hx, hy]
  simp [go_sem]
theorem ow_eql_int (x y : Operand) (t ty : TypeId) (ho : o.op = .binOp .eql t x y ty) (k : IntKind) (i : Int) (hx : a.eval x = .int k i) (hy : a.eval y = .int k i) (h : K (a.put o.dst (.bool true)) w) : o.wp Try.prog a w K Q := by
  refine ow_value (v := .bool true) ?_ h
  unfold execOp
  simp only [ho, hx, hy]
  simp [go_sem]
/-- Sum of a Digest that lies in memory: what it reads as -/
theorem ow_sum (x : Operand) (t : TypeId) (ho : o.op = .call { callee := .value (.func 14), args := #[x], argTypes := #[t] }) {g : Nat} {h : List Nat} {n : Nat} {sl : Value} {r : List UInt8} {s : Nat} (H : DgAt g h n (s : Int) sl r w) (hr : r.length ≤ 64) (hs1 : 1 ≤ s) (hs32 : s ≤ 32) (hx : a.eval x = .agg (dgV h sl n (s : Int)))
    (hK : ∀ v' w', SB w' v' (outF (lastF h n r) s) → Below w.heap.size w w' → K (a.put o.dst v') w') : o.wp Try.prog a w K Q := by
  refine ow_call Try.func14 (by kernel_rfl) rfl _ _ ho (vs := #[.agg (dgV h sl n (s : Int))]) (by simp only [List.map_toArray, List.map_cons, List.map_nil, hx]) ?_
  refine (Sum_any h H.wds n H.nlt (s : Int) sl r w H.data s rfl hs1 hs32).mono ?_
  rintro e w' ⟨v', rfl, hown, hb⟩
  rw [writeL_stop _ _ _ _ hr] at hown
  exact ⟨_, rfl, hK v' w' (SB_of_own (bs := outF (lastF h n r) s) (by rw [outF_length]; exact hown) (by rw [outF_length]; omega)) hb⟩
end
/-- a guard that is met -/
theorem wanted_ok {l : List Oper} {a : Act} {o : Oper} {g d : Nat} {want : Bool} (hg : o.guard = some (g, want)) (hd : (l[g]?).bind (·.dst) = some d) (hv : a.eval (.tmp d) = .bool want) : Region.wanted o (yielded l.toArray a.tmps) = true := by
  rw [wanted_eq hg hd hv]; simp
/-- an operation that is wanted -/
theorem gstep {l : List Oper} {o : Oper} {a : Act} {w : World} {K : Act → World → Prop} {Q : Exit → Act → World → Prop} (hw : Region.wanted o (yielded l.toArray a.tmps) = true) (h : o.wp Try.prog a w K Q) :
    (Region.wanted o (yielded l.toArray a.tmps) = true → o.wp Try.prog a w K Q) ∧ (Region.wanted o (yielded l.toArray a.tmps) = false → K (a.put o.dst undef) w) :=
  ⟨fun _ => h, fun h' => absurd (h'.symm.trans hw) Bool.false_ne_true⟩
end Go.Proofs.Ytnemclbeofiakaa
