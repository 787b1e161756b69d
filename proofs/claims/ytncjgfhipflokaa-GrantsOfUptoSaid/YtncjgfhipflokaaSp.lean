/-
  tidewracklaw14.LongRows: its parts.
-/
import Derived.Test.YtncjgfhipflokaaSo
namespace Go.Proofs.Ytncjgfhipflokaa
open Go.RowKit Go.Shelf Hp Go.Maps

section
variable {Q : Exit → Act → World → Prop} {o : Oper} {a : Act} {w : World} {K : Act → World → Prop}
theorem ow_index_n (x y : Operand) (e t : TypeId) (m : Nat) (ho : o.op = .indexAddr t x y) (b j n c k : Nat) (hx : a.eval x = .slice (some ⟨b, j, none⟩) n c) (hy : a.eval y = .int .i64 (k : Int)) (hk : k < n)
    (hu : Try.prog.underlying t = some (.slice e)) (hi : (Try.prog.info? e).map (·.size) = some m) (h : K (a.put o.dst (.pointer (some ⟨b, j + k * m, none⟩))) w) : o.wp Try.prog a w K Q := by
  refine ow_value (v := .pointer (some ⟨b, j + k * m, none⟩)) ?_ h
  obtain ⟨i, hi1, hi2⟩ := Option.map_eq_some_iff.1 hi
  unfold execOp
  simp only [ho, hx, hy]
  simp [go_sem, hu, hk, sizeOf, typeInfo, Sem.run_bind, hi1, hi2, add_plain]
/-- where field f of a struct of type s lies -/
def Fld (s f off : Nat) : Prop := ∀ (g i : Nat) (w : World), (Instr.fieldAt s (.pointer (some ⟨g, i, none⟩)) f).run Try.prog w = .ok (.pointer (some ⟨g, i + off, none⟩)) w
theorem fld45_0 : Fld 45 0 0 := fun _ _ _ => by kernel_rfl
theorem fld45_2 : Fld 45 2 2 := fun _ _ _ => by kernel_rfl
theorem fld45_3 : Fld 45 3 3 := fun _ _ _ => by kernel_rfl
theorem fld45_4 : Fld 45 4 4 := fun _ _ _ => by kernel_rfl
theorem fld48_0 : Fld 48 0 0 := fun _ _ _ => by kernel_rfl
theorem fld48_1 : Fld 48 1 1 := fun _ _ _ => by kernel_rfl
theorem fld65_0 : Fld 65 0 0 := fun _ _ _ => by kernel_rfl
theorem fld70_0 : Fld 70 0 0 := fun _ _ _ => by kernel_rfl
theorem fld70_1 : Fld 70 1 1 := fun _ _ _ => by kernel_rfl
theorem fld70_5 : Fld 70 5 21 := fun _ _ _ => by kernel_rfl
theorem ow_field {s f off : Nat} (hf : Fld s f off) (x : Operand) (ho : o.op = .fieldAddr s x f) (g i : Nat) (hx : a.eval x = .pointer (some ⟨g, i, none⟩)) (h : K (a.put o.dst (.pointer (some ⟨g, i + off, none⟩))) w) : o.wp Try.prog a w K Q := by
  refine ow_value (v := .pointer (some ⟨g, i + off, none⟩)) ?_ h
  have h1 := hf g i w
  unfold execOp
  simp only [ho, hx, Sem.run_bind, h1, Result.andThen_ok]
  rfl
theorem run_build35_1 (s : S) (w : World) : (Instr.buildSlice 35 1 #[(0, encStr s)]).run Try.prog w = .ok (.slice (some ⟨w.heap.size, 0, none⟩) 1 1) (w.alloc (.cells #[encStr s] 9)) := by kernel_rfl
theorem run_build35_2 (s u : S) (w : World) : (Instr.buildSlice 35 2 #[(0, encStr s), (1, encStr u)]).run Try.prog w = .ok (.slice (some ⟨w.heap.size, 0, none⟩) 2 2) (w.alloc (.cells #[encStr s, encStr u] 9)) := by kernel_rfl
theorem run_build35_3 (s u v : S) (w : World) : (Instr.buildSlice 35 3 #[(0, encStr s), (1, encStr u), (2, encStr v)]).run Try.prog w = .ok (.slice (some ⟨w.heap.size, 0, none⟩) 3 3) (w.alloc (.cells #[encStr s, encStr u, encStr v] 9)) := by kernel_rfl
theorem ow_build35_2 (x y : Operand) (ho : o.op = .buildSlice 35 2 #[(0, x), (1, y)]) (s u : S) (hx : a.eval x = encStr s) (hy : a.eval y = encStr u) (h : K (a.put o.dst (.slice (some ⟨w.heap.size, 0, none⟩) 2 2)) (w.alloc (.cells #[encStr s, encStr u] 9))) : o.wp Try.prog a w K Q := by
  refine ow_value' ?_ h
  unfold execOp
  simp only [ho, List.map_toArray, List.map_cons, List.map_nil, hx, hy, Sem.run_bind, run_build35_2, Result.andThen_ok]
  rfl
theorem ow_build35_3 (x y z : Operand) (ho : o.op = .buildSlice 35 3 #[(0, x), (1, y), (2, z)]) (s u v : S) (hx : a.eval x = encStr s) (hy : a.eval y = encStr u) (hz : a.eval z = encStr v) (h : K (a.put o.dst (.slice (some ⟨w.heap.size, 0, none⟩) 3 3)) (w.alloc (.cells #[encStr s, encStr u, encStr v] 9))) : o.wp Try.prog a w K Q := by
  refine ow_value' ?_ h
  unfold execOp
  simp only [ho, List.map_toArray, List.map_cons, List.map_nil, hx, hy, hz, Sem.run_bind, run_build35_3, Result.andThen_ok]
  rfl
end
/-- a row of texts, cell by cell -/
theorem rt_row {w : World} {g n c : Nat} {cs : Array Value} {t : TypeId} {fr : Nat × Nat} {l : List S} (h : w.heap[g]? = some (.cells cs t fr)) (hn : n = l.length) (hl : l.length ≤ 99999) (hc : ∀ k, k < l.length → cs[k]? = some (encStr (at_ l k))) : RT w (.slice (some ⟨g, 0, none⟩) n c) l := by
  subst hn
  refine ⟨_, c, rfl, by unfold maxLen; omega, .inr ⟨g, 0, rfl, fun k hk => ?_⟩⟩
  rw [Nat.zero_add, cell_of_row w g k _ _ _ h]
  exact hc k hk
theorem rt_row2 {w : World} {g : Nat} {a b : S} {t : TypeId} {fr : Nat × Nat} (h : w.heap[g]? = some (.cells #[encStr a, encStr b] t fr)) : RT w (.slice (some ⟨g, 0, none⟩) 2 2) [a, b] :=
  rt_row h rfl (by simp) (fun k hk => by match k, hk with | 0, _ => rfl | 1, _ => rfl)
theorem rt_row3 {w : World} {g : Nat} {a b c : S} {t : TypeId} {fr : Nat × Nat} (h : w.heap[g]? = some (.cells #[encStr a, encStr b, encStr c] t fr)) : RT w (.slice (some ⟨g, 0, none⟩) 3 3) [a, b, c] :=
  rt_row h rfl (by simp) (fun k hk => by match k, hk with | 0, _ => rfl | 1, _ => rfl | 2, _ => rfl)
/-- what is known of the rows of checkpoints and of what was told -/
def LocT (w : World) (v : Value) : Prop := ∃ A n c, v = .slice A n c ∧ n ≤ maxLen ∧ (n = 0 ∨ ∃ b o, A = some ⟨b, o, none⟩ ∧ ∀ k, k < n → ∃ s : S, w.cell? ⟨b, o + k * 2, none⟩ = some (encStr s))
def SeenT (w : World) (v : Value) : Prop := ∃ A n c, v = .slice A n c ∧ n ≤ maxLen ∧ (n = 0 ∨ ∃ b o, A = some ⟨b, o, none⟩ ∧ ∀ k, k < n → ∃ s u x : S, w.cell? ⟨b, o + k * 22, none⟩ = some (encStr s) ∧ w.cell? ⟨b, o + k * 22 + 1, none⟩ = some (encStr u) ∧ w.cell? ⟨b, o + k * 22 + 21, none⟩ = some (encStr x))
theorem info65 : (Try.prog.info? 65).map (·.size) = some 2 := by kernel_rfl
theorem info70 : (Try.prog.info? 70).map (·.size) = some 22 := by kernel_rfl
end Go.Proofs.Ytncjgfhipflokaa
