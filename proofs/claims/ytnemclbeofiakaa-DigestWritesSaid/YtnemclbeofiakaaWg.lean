/-
  digest.stir.
-/
import Derived.Test.YtnemclbeofiakaaWf
import Derived.Test.YtnemclbeofiakaaReg4
namespace Go.Proofs.Ytnemclbeofiakaa
open Go.RowKit Bl

theorem ow_store1 {P : Program} {Q : Exit → Act → World → Prop} {o : Oper} {a : Act} {w : World} {K : Act → World → Prop} (ty : TypeId) (x y : Operand) (ho : o.op = .store ty x y) (g : Nat) (hx : a.eval x = .pointer (some ⟨g, 0, none⟩)) (t : TypeId) (c0 v : Value) (hy : a.eval y = v) (hv : v.oneCell' = true)
    (hg : w.heap[g]? = some (.cells #[c0] t (0, 0))) (hi : (P.info? ty).map (·.size) = some 1)
    (h : ∀ w', w'.heap[g]? = some (.cells #[v] t (0, 0)) → w'.heap.size = w.heap.size → w.grownBy w' (some g) → K (a.put o.dst undef) w') : o.wp P a w K Q := by
  have hc : w.cell? ⟨g, 0, none⟩ = some c0 := cell_of_row w g 0 _ _ _ hg
  have hf : w.frozen? ⟨g, 0, none⟩ = false := frozen_of_row w g 0 _ _ hg
  have hcs : v.cells = #[v] := by cases v <;> first | (simp [Value.oneCell'] at hv; done) | rfl
  obtain ⟨i, hi1, hi2⟩ := Option.map_eq_some_iff.1 hi
  have hr : (execOp a.eval o).run P w = .ok .skip (w.setCell ⟨g, 0, none⟩ v) := by
    unfold execOp
    simp only [ho, hx, hy, Instr.storeAt, Instr.sureAddr, Sem.run_bind, Sem.run_pure, Result.andThen_ok, storeVar, sizeOf, typeInfo, hcs]
    simp [Sem.run_bind, hi1, hi2, storeCells, run_store P w _ v .plain hv, add_plain, hc, hf]
  unfold Oper.wp
  rw [hr]
  exact h _ (blk_setCell hg v) (by simp) (grown_setCell (grown_refl w (some g)) 0 v)
theorem zero73 (w : World) : (zeroValue 73).run Try.prog w = .ok (.pointer none) w := by kernel_rfl
theorem RowAt.grown {w w' : World} {g p : Nat} {v : List Nat} (h : RowAt w g v) (hg : w.grownBy w' (some p)) (hp : g ≠ p) : RowAt w' g v := blk_grown h hg (fun e => hp (Option.some.inj e))
theorem PtrAt.ne {w : World} {p g g' i : Nat} {v : List Nat} (h : PtrAt w p g i) (h' : RowAt w g' v) : p ≠ g' := by
  rintro rfl
  unfold RowAt at h'
  rw [h] at h'
  injection h' with h'
  injection h' with _ h'
  cases h'
theorem PtrAt.grown {w w' : World} {p g i b : Nat} (h : PtrAt w p g i) (hg : w.grownBy w' (some b)) (hp : p ≠ b) : PtrAt w' p g i := blk_grown h hg (fun e => hp (Option.some.inj e))

set_option maxHeartbeats 1000000 in
theorem stir_any (g a b c d x y : Nat) (v : List Nat) (hv : Wds 16 v) (ha : a < 16) (hb : b < 16) (hc : c < 16) (hd : d < 16) (hx : x < M) (hy : y < M) (w : World) (hg : RowAt w g v) :
    Calls Try.prog 29 #[.pointer (some ⟨g, 0, none⟩), .agg #[.int .i64 (a : Int), .int .i64 (b : Int), .int .i64 (c : Int), .int .i64 (d : Int)], .int .u32 (x : Int), .int .u32 (y : Int)] w
      fun e w' => e = .returned (.tuple #[]) ∧ RowAt w' g (stirF v a b c d x y) ∧ w.grownBy w' (some g) := by
  have HV := Lib.hid hv
  have HG := Lib.hid hg
  clear hv hg
  go_enter Try.func29, Try.ntmps29
  go_wp2_with fail
  obtain ⟨w1, hw1⟩ : ∃ w1, w1 = w.alloc (.cells #[.int .i64 (a : Int), .int .i64 (b : Int), .int .i64 (c : Int), .int .i64 (d : Int)] 65) := ⟨_, rfl⟩
  have hq : w1.heap[w.heap.size]? = some (.cells #[.int .i64 (a : Int), .int .i64 (b : Int), .int .i64 (c : Int), .int .i64 (d : Int)] 65 (0, 0)) := by rw [hw1]; exact World.alloc_heap_new _ _
  have hb1 : Below w.heap.size w w1 := by rw [hw1]; exact below_alloc1 _ _
  rw [← hw1]
  have qa : w1.cell? ⟨w.heap.size, 0, none⟩ = some (.int .i64 (a : Int)) := cell_of_row w1 _ _ _ _ _ hq
  have qb : w1.cell? ⟨w.heap.size, 1, none⟩ = some (.int .i64 (b : Int)) := cell_of_row w1 _ _ _ _ _ hq
  have qc : w1.cell? ⟨w.heap.size, 2, none⟩ = some (.int .i64 (c : Int)) := cell_of_row w1 _ _ _ _ _ hq
  have qd : w1.cell? ⟨w.heap.size, 3, none⟩ = some (.int .i64 (d : Int)) := cell_of_row w1 _ _ _ _ _ hq
  have HG1 := Lib.hid (HG.out.below hb1)
  have HB1 := Lib.hid hb1
  clear hw1 hq hb1
  refine region_d 28 (fun k => decide (20 ≤ k ∧ k < 24)) (fun k j => decide (24 ≤ k ∧ k < 28 ∧ j + 4 = k)) (fun i vs W => match i with
      | 0 => vs 0 = .pointer (some ⟨g, 0, none⟩)
      | 1 => vs 1 = .pointer (some ⟨w.heap.size, 0 + 0, none⟩)
      | 2 => vs 2 = .int .i64 (a : Int)
      | 3 => vs 3 = .pointer (some ⟨g, 0, none⟩)
      | 4 => vs 4 = .pointer (some ⟨g, 0 + a, none⟩)
      | 5 => vs 5 = .pointer (some ⟨g, 0, none⟩)
      | 6 => vs 6 = .pointer (some ⟨w.heap.size, 0 + 1, none⟩)
      | 7 => vs 7 = .int .i64 (b : Int)
      | 8 => vs 8 = .pointer (some ⟨g, 0, none⟩)
      | 9 => vs 9 = .pointer (some ⟨g, 0 + b, none⟩)
      | 10 => vs 10 = .pointer (some ⟨g, 0, none⟩)
      | 11 => vs 11 = .pointer (some ⟨w.heap.size, 0 + 2, none⟩)
      | 12 => vs 12 = .int .i64 (c : Int)
      | 13 => vs 13 = .pointer (some ⟨g, 0, none⟩)
      | 14 => vs 14 = .pointer (some ⟨g, 0 + c, none⟩)
      | 15 => vs 15 = .pointer (some ⟨g, 0, none⟩)
      | 16 => vs 16 = .pointer (some ⟨w.heap.size, 0 + 3, none⟩)
      | 17 => vs 17 = .int .i64 (d : Int)
      | 18 => vs 18 = .pointer (some ⟨g, 0, none⟩)
      | 19 => vs 19 = .pointer (some ⟨g, 0 + d, none⟩)
      | 20 => ∃ p, vs 20 = .pointer (some ⟨p, 0, none⟩) ∧ w1.heap.size ≤ p ∧ W.heap[p]? = some (.cells #[.pointer none] 73 (0, 0))
      | 21 => ∃ p, vs 21 = .pointer (some ⟨p, 0, none⟩) ∧ w1.heap.size ≤ p ∧ W.heap[p]? = some (.cells #[.pointer none] 73 (0, 0))
      | 22 => ∃ p, vs 22 = .pointer (some ⟨p, 0, none⟩) ∧ w1.heap.size ≤ p ∧ W.heap[p]? = some (.cells #[.pointer none] 73 (0, 0))
      | 23 => ∃ p, vs 23 = .pointer (some ⟨p, 0, none⟩) ∧ w1.heap.size ≤ p ∧ W.heap[p]? = some (.cells #[.pointer none] 73 (0, 0))
      | 24 => ∃ p, vs 20 = .pointer (some ⟨p, 0, none⟩) ∧ w1.heap.size ≤ p ∧ PtrAt W p g a
      | 25 => ∃ p, vs 21 = .pointer (some ⟨p, 0, none⟩) ∧ w1.heap.size ≤ p ∧ PtrAt W p g b
      | 26 => ∃ p, vs 22 = .pointer (some ⟨p, 0, none⟩) ∧ w1.heap.size ≤ p ∧ PtrAt W p g c
      | 27 => ∃ p, vs 23 = .pointer (some ⟨p, 0, none⟩) ∧ w1.heap.size ≤ p ∧ PtrAt W p g d
      | _ => True) (fun k vs W W' => (¬ (24 ≤ k ∧ k < 28) → Below W.heap.size W W') ∧ (24 ≤ k ∧ k < 28 → ∃ p, vs (k - 4) = .pointer (some ⟨p, 0, none⟩) ∧ W.grownBy W' (some p))) (fun W => Below w1.heap.size w1 W) (by kernel_rfl) (by kernel_rfl) ?hAl ?hst ?h0 ?step ?fin
  case hAl =>
    intro i hi
    have hi : 20 ≤ i ∧ i < 24 := of_decide_eq_true hi
    have h : i = 20 ∨ i = 21 ∨ i = 22 ∨ i = 23 := by omega
    rcases h with rfl | rfl | rfl | rfl <;> exact ⟨by decide, by decide⟩
  case hst =>
    intro i k vs va W W' hki hnd hnc hag hdis h hG
    by_cases hk : 24 ≤ k ∧ k < 28
    · obtain ⟨p, hvp, hgr⟩ := hG.2 hk
      have hkk : k = 24 ∨ k = 25 ∨ k = 26 ∨ k = 27 := by omega
      rcases hkk with rfl | rfl | rfl | rfl
      · match i, h with
        | 0, h => exact h
        | 1, h => exact h
        | 2, h => exact h
        | 3, h => exact h
        | 4, h => exact h
        | 5, h => exact h
        | 6, h => exact h
        | 7, h => exact h
        | 8, h => exact h
        | 9, h => exact h
        | 10, h => exact h
        | 11, h => exact h
        | 12, h => exact h
        | 13, h => exact h
        | 14, h => exact h
        | 15, h => exact h
        | 16, h => exact h
        | 17, h => exact h
        | 18, h => exact h
        | 19, h => exact h
        | 20, _ => exact absurd hnc (by decide)
        | 21, ⟨p', e', hB', hc'⟩ =>
          refine ⟨p', e', hB', blk_grown hc' hgr (fun e => ?_)⟩
          have e1 := Option.some.inj e
          exact hdis 21 20 (by decide) (by decide) (by decide) (.inl (.inl rfl)) (.inr (.inr (by kernel_rfl))) (by rw [← hag 21 (.inl rfl), e', e1]; exact hvp.symm)
        | 22, ⟨p', e', hB', hc'⟩ =>
          refine ⟨p', e', hB', blk_grown hc' hgr (fun e => ?_)⟩
          have e1 := Option.some.inj e
          exact hdis 22 20 (by decide) (by decide) (by decide) (.inl (.inl rfl)) (.inr (.inr (by kernel_rfl))) (by rw [← hag 22 (.inl rfl), e', e1]; exact hvp.symm)
        | 23, ⟨p', e', hB', hc'⟩ =>
          refine ⟨p', e', hB', blk_grown hc' hgr (fun e => ?_)⟩
          have e1 := Option.some.inj e
          exact hdis 23 20 (by decide) (by decide) (by decide) (.inl (.inl rfl)) (.inr (.inr (by kernel_rfl))) (by rw [← hag 23 (.inl rfl), e', e1]; exact hvp.symm)
        | 24, _ => exact absurd rfl hki
        | 25, ⟨p', e', hB', hc'⟩ =>
          refine ⟨p', e', hB', hc'.grown hgr (fun e1 => ?_)⟩
          exact hdis 21 20 (by decide) (by decide) (by decide) (.inl (.inr (by kernel_rfl))) (.inr (.inr (by kernel_rfl))) (by rw [← hag 21 (.inr (by kernel_rfl)), e', e1]; exact hvp.symm)
        | 26, ⟨p', e', hB', hc'⟩ =>
          refine ⟨p', e', hB', hc'.grown hgr (fun e1 => ?_)⟩
          exact hdis 22 20 (by decide) (by decide) (by decide) (.inl (.inr (by kernel_rfl))) (.inr (.inr (by kernel_rfl))) (by rw [← hag 22 (.inr (by kernel_rfl)), e', e1]; exact hvp.symm)
        | 27, ⟨p', e', hB', hc'⟩ =>
          refine ⟨p', e', hB', hc'.grown hgr (fun e1 => ?_)⟩
          exact hdis 23 20 (by decide) (by decide) (by decide) (.inl (.inr (by kernel_rfl))) (.inr (.inr (by kernel_rfl))) (by rw [← hag 23 (.inr (by kernel_rfl)), e', e1]; exact hvp.symm)
        | n + 28, _ => trivial
      · match i, h with
        | 0, h => exact h
        | 1, h => exact h
        | 2, h => exact h
        | 3, h => exact h
        | 4, h => exact h
        | 5, h => exact h
        | 6, h => exact h
        | 7, h => exact h
        | 8, h => exact h
        | 9, h => exact h
        | 10, h => exact h
        | 11, h => exact h
        | 12, h => exact h
        | 13, h => exact h
        | 14, h => exact h
        | 15, h => exact h
        | 16, h => exact h
        | 17, h => exact h
        | 18, h => exact h
        | 19, h => exact h
        | 20, ⟨p', e', hB', hc'⟩ =>
          refine ⟨p', e', hB', blk_grown hc' hgr (fun e => ?_)⟩
          have e1 := Option.some.inj e
          exact hdis 20 21 (by decide) (by decide) (by decide) (.inl (.inl rfl)) (.inr (.inr (by kernel_rfl))) (by rw [← hag 20 (.inl rfl), e', e1]; exact hvp.symm)
        | 21, _ => exact absurd hnc (by decide)
        | 22, ⟨p', e', hB', hc'⟩ =>
          refine ⟨p', e', hB', blk_grown hc' hgr (fun e => ?_)⟩
          have e1 := Option.some.inj e
          exact hdis 22 21 (by decide) (by decide) (by decide) (.inl (.inl rfl)) (.inr (.inr (by kernel_rfl))) (by rw [← hag 22 (.inl rfl), e', e1]; exact hvp.symm)
        | 23, ⟨p', e', hB', hc'⟩ =>
          refine ⟨p', e', hB', blk_grown hc' hgr (fun e => ?_)⟩
          have e1 := Option.some.inj e
          exact hdis 23 21 (by decide) (by decide) (by decide) (.inl (.inl rfl)) (.inr (.inr (by kernel_rfl))) (by rw [← hag 23 (.inl rfl), e', e1]; exact hvp.symm)
        | 24, ⟨p', e', hB', hc'⟩ =>
          refine ⟨p', e', hB', hc'.grown hgr (fun e1 => ?_)⟩
          exact hdis 20 21 (by decide) (by decide) (by decide) (.inl (.inr (by kernel_rfl))) (.inr (.inr (by kernel_rfl))) (by rw [← hag 20 (.inr (by kernel_rfl)), e', e1]; exact hvp.symm)
        | 25, _ => exact absurd rfl hki
        | 26, ⟨p', e', hB', hc'⟩ =>
          refine ⟨p', e', hB', hc'.grown hgr (fun e1 => ?_)⟩
          exact hdis 22 21 (by decide) (by decide) (by decide) (.inl (.inr (by kernel_rfl))) (.inr (.inr (by kernel_rfl))) (by rw [← hag 22 (.inr (by kernel_rfl)), e', e1]; exact hvp.symm)
        | 27, ⟨p', e', hB', hc'⟩ =>
          refine ⟨p', e', hB', hc'.grown hgr (fun e1 => ?_)⟩
          exact hdis 23 21 (by decide) (by decide) (by decide) (.inl (.inr (by kernel_rfl))) (.inr (.inr (by kernel_rfl))) (by rw [← hag 23 (.inr (by kernel_rfl)), e', e1]; exact hvp.symm)
        | n + 28, _ => trivial
      · match i, h with
        | 0, h => exact h
        | 1, h => exact h
        | 2, h => exact h
        | 3, h => exact h
        | 4, h => exact h
        | 5, h => exact h
        | 6, h => exact h
        | 7, h => exact h
        | 8, h => exact h
        | 9, h => exact h
        | 10, h => exact h
        | 11, h => exact h
        | 12, h => exact h
        | 13, h => exact h
        | 14, h => exact h
        | 15, h => exact h
        | 16, h => exact h
        | 17, h => exact h
        | 18, h => exact h
        | 19, h => exact h
        | 20, ⟨p', e', hB', hc'⟩ =>
          refine ⟨p', e', hB', blk_grown hc' hgr (fun e => ?_)⟩
          have e1 := Option.some.inj e
          exact hdis 20 22 (by decide) (by decide) (by decide) (.inl (.inl rfl)) (.inr (.inr (by kernel_rfl))) (by rw [← hag 20 (.inl rfl), e', e1]; exact hvp.symm)
        | 21, ⟨p', e', hB', hc'⟩ =>
          refine ⟨p', e', hB', blk_grown hc' hgr (fun e => ?_)⟩
          have e1 := Option.some.inj e
          exact hdis 21 22 (by decide) (by decide) (by decide) (.inl (.inl rfl)) (.inr (.inr (by kernel_rfl))) (by rw [← hag 21 (.inl rfl), e', e1]; exact hvp.symm)
        | 22, _ => exact absurd hnc (by decide)
        | 23, ⟨p', e', hB', hc'⟩ =>
          refine ⟨p', e', hB', blk_grown hc' hgr (fun e => ?_)⟩
          have e1 := Option.some.inj e
          exact hdis 23 22 (by decide) (by decide) (by decide) (.inl (.inl rfl)) (.inr (.inr (by kernel_rfl))) (by rw [← hag 23 (.inl rfl), e', e1]; exact hvp.symm)
        | 24, ⟨p', e', hB', hc'⟩ =>
          refine ⟨p', e', hB', hc'.grown hgr (fun e1 => ?_)⟩
          exact hdis 20 22 (by decide) (by decide) (by decide) (.inl (.inr (by kernel_rfl))) (.inr (.inr (by kernel_rfl))) (by rw [← hag 20 (.inr (by kernel_rfl)), e', e1]; exact hvp.symm)
        | 25, ⟨p', e', hB', hc'⟩ =>
          refine ⟨p', e', hB', hc'.grown hgr (fun e1 => ?_)⟩
          exact hdis 21 22 (by decide) (by decide) (by decide) (.inl (.inr (by kernel_rfl))) (.inr (.inr (by kernel_rfl))) (by rw [← hag 21 (.inr (by kernel_rfl)), e', e1]; exact hvp.symm)
        | 26, _ => exact absurd rfl hki
        | 27, ⟨p', e', hB', hc'⟩ =>
          refine ⟨p', e', hB', hc'.grown hgr (fun e1 => ?_)⟩
          exact hdis 23 22 (by decide) (by decide) (by decide) (.inl (.inr (by kernel_rfl))) (.inr (.inr (by kernel_rfl))) (by rw [← hag 23 (.inr (by kernel_rfl)), e', e1]; exact hvp.symm)
        | n + 28, _ => trivial
      · match i, h with
        | 0, h => exact h
        | 1, h => exact h
        | 2, h => exact h
        | 3, h => exact h
        | 4, h => exact h
        | 5, h => exact h
        | 6, h => exact h
        | 7, h => exact h
        | 8, h => exact h
        | 9, h => exact h
        | 10, h => exact h
        | 11, h => exact h
        | 12, h => exact h
        | 13, h => exact h
        | 14, h => exact h
        | 15, h => exact h
        | 16, h => exact h
        | 17, h => exact h
        | 18, h => exact h
        | 19, h => exact h
        | 20, ⟨p', e', hB', hc'⟩ =>
          refine ⟨p', e', hB', blk_grown hc' hgr (fun e => ?_)⟩
          have e1 := Option.some.inj e
          exact hdis 20 23 (by decide) (by decide) (by decide) (.inl (.inl rfl)) (.inr (.inr (by kernel_rfl))) (by rw [← hag 20 (.inl rfl), e', e1]; exact hvp.symm)
        | 21, ⟨p', e', hB', hc'⟩ =>
          refine ⟨p', e', hB', blk_grown hc' hgr (fun e => ?_)⟩
          have e1 := Option.some.inj e
          exact hdis 21 23 (by decide) (by decide) (by decide) (.inl (.inl rfl)) (.inr (.inr (by kernel_rfl))) (by rw [← hag 21 (.inl rfl), e', e1]; exact hvp.symm)
        | 22, ⟨p', e', hB', hc'⟩ =>
          refine ⟨p', e', hB', blk_grown hc' hgr (fun e => ?_)⟩
          have e1 := Option.some.inj e
          exact hdis 22 23 (by decide) (by decide) (by decide) (.inl (.inl rfl)) (.inr (.inr (by kernel_rfl))) (by rw [← hag 22 (.inl rfl), e', e1]; exact hvp.symm)
        | 23, _ => exact absurd hnc (by decide)
        | 24, ⟨p', e', hB', hc'⟩ =>
          refine ⟨p', e', hB', hc'.grown hgr (fun e1 => ?_)⟩
          exact hdis 20 23 (by decide) (by decide) (by decide) (.inl (.inr (by kernel_rfl))) (.inr (.inr (by kernel_rfl))) (by rw [← hag 20 (.inr (by kernel_rfl)), e', e1]; exact hvp.symm)
        | 25, ⟨p', e', hB', hc'⟩ =>
          refine ⟨p', e', hB', hc'.grown hgr (fun e1 => ?_)⟩
          exact hdis 21 23 (by decide) (by decide) (by decide) (.inl (.inr (by kernel_rfl))) (.inr (.inr (by kernel_rfl))) (by rw [← hag 21 (.inr (by kernel_rfl)), e', e1]; exact hvp.symm)
        | 26, ⟨p', e', hB', hc'⟩ =>
          refine ⟨p', e', hB', hc'.grown hgr (fun e1 => ?_)⟩
          exact hdis 22 23 (by decide) (by decide) (by decide) (.inl (.inr (by kernel_rfl))) (.inr (.inr (by kernel_rfl))) (by rw [← hag 22 (.inr (by kernel_rfl)), e', e1]; exact hvp.symm)
        | 27, _ => exact absurd rfl hki
        | n + 28, _ => trivial
    · have hb := hG.1 hk
      match i, h with
      | 0, h => exact h
      | 1, h => exact h
      | 2, h => exact h
      | 3, h => exact h
      | 4, h => exact h
      | 5, h => exact h
      | 6, h => exact h
      | 7, h => exact h
      | 8, h => exact h
      | 9, h => exact h
      | 10, h => exact h
      | 11, h => exact h
      | 12, h => exact h
      | 13, h => exact h
      | 14, h => exact h
      | 15, h => exact h
      | 16, h => exact h
      | 17, h => exact h
      | 18, h => exact h
      | 19, h => exact h
      | 20, ⟨p', e', hB', hc'⟩ => exact ⟨p', e', hB', blk_below hc' hb⟩
      | 21, ⟨p', e', hB', hc'⟩ => exact ⟨p', e', hB', blk_below hc' hb⟩
      | 22, ⟨p', e', hB', hc'⟩ => exact ⟨p', e', hB', blk_below hc' hb⟩
      | 23, ⟨p', e', hB', hc'⟩ => exact ⟨p', e', hB', blk_below hc' hb⟩
      | 24, ⟨p', e', hB', hc'⟩ => exact ⟨p', e', hB', hc'.below hb⟩
      | 25, ⟨p', e', hB', hc'⟩ => exact ⟨p', e', hB', hc'.below hb⟩
      | 26, ⟨p', e', hB', hc'⟩ => exact ⟨p', e', hB', hc'.below hb⟩
      | 27, ⟨p', e', hB', hc'⟩ => exact ⟨p', e', hB', hc'.below hb⟩
      | n + 28, _ => trivial
  case h0 => exact (Below.refl _ _).drew
  case step =>
    intro i op hi ho ac W hS hag hdep
    have hbr : Below W.heap.size W W := Below.refl _ _
    match i, hi, ho with
    | 0, _, rfl => exact ow_move _ rfl (hag 0 rfl) ⟨_, rfl, fun vs' h _ => h (fun e => by cases e), fun vs' _ _ => ⟨fun _ => hbr, fun h => absurd h (by decide)⟩, hS, Nat.le_refl _, fun h => absurd h (by decide)⟩
    | 1, _, rfl => exact ow_index_arr _ _ 3 65 4 rfl w.heap.size 0 0 (hag 5 rfl) rfl (by decide) Try.underlying65 (by kernel_rfl) ⟨_, rfl, fun vs' h _ => h (fun e => by cases e), fun vs' _ _ => ⟨fun _ => hbr, fun h => absurd h (by decide)⟩, hS, Nat.le_refl _, fun h => absurd h (by decide)⟩
    | 2, _, rfl =>
      have h1 : ac.eval (.tmp 14) = .pointer (some ⟨w.heap.size, 0 + 0, none⟩) := hdep 1 (by omega) (by kernel_rfl) (fun k _ h => by have h := of_decide_eq_true h; omega)
      exact ow_load_int _ 3 .i64 rfl w.heap.size (0 + 0) h1 _ (cell_below hS qa) Try.underlying3 ⟨_, rfl, fun vs' h _ => h (fun e => by cases e), fun vs' _ _ => ⟨fun _ => hbr, fun h => absurd h (by decide)⟩, hS, Nat.le_refl _, fun h => absurd h (by decide)⟩
    | 3, _, rfl =>
      have h1 : ac.eval (.tmp 13) = .pointer (some ⟨g, 0, none⟩) := hdep 0 (by omega) (by kernel_rfl) (fun k _ h => by have h := of_decide_eq_true h; omega)
      exact ow_nilCheck _ rfl _ h1 ⟨_, rfl, fun vs' h _ => h (fun e => by cases e), fun vs' _ _ => ⟨fun _ => hbr, fun h => absurd h (by decide)⟩, hS, Nat.le_refl _, fun h => absurd h (by decide)⟩
    | 4, _, rfl =>
      have h1 : ac.eval (.tmp 16) = .pointer (some ⟨g, 0, none⟩) := hdep 3 (by omega) (by kernel_rfl) (fun k _ h => by have h := of_decide_eq_true h; omega)
      have h2 : ac.eval (.tmp 15) = .int .i64 (a : Int) := hdep 2 (by omega) (by kernel_rfl) (fun k _ h => by have h := of_decide_eq_true h; omega)
      exact ow_index_arr _ _ 22 57 16 rfl g 0 a h1 h2 ha Try.underlying57 (by kernel_rfl) ⟨_, rfl, fun vs' h _ => h (fun e => by cases e), fun vs' _ _ => ⟨fun _ => hbr, fun h => absurd h (by decide)⟩, hS, Nat.le_refl _, fun h => absurd h (by decide)⟩
    | 5, _, rfl => exact ow_move _ rfl (hag 0 rfl) ⟨_, rfl, fun vs' h _ => h (fun e => by cases e), fun vs' _ _ => ⟨fun _ => hbr, fun h => absurd h (by decide)⟩, hS, Nat.le_refl _, fun h => absurd h (by decide)⟩
    | 6, _, rfl => exact ow_index_arr _ _ 3 65 4 rfl w.heap.size 0 1 (hag 5 rfl) rfl (by decide) Try.underlying65 (by kernel_rfl) ⟨_, rfl, fun vs' h _ => h (fun e => by cases e), fun vs' _ _ => ⟨fun _ => hbr, fun h => absurd h (by decide)⟩, hS, Nat.le_refl _, fun h => absurd h (by decide)⟩
    | 7, _, rfl =>
      have h1 : ac.eval (.tmp 19) = .pointer (some ⟨w.heap.size, 0 + 1, none⟩) := hdep 6 (by omega) (by kernel_rfl) (fun k _ h => by have h := of_decide_eq_true h; omega)
      exact ow_load_int _ 3 .i64 rfl w.heap.size (0 + 1) h1 _ (cell_below hS qb) Try.underlying3 ⟨_, rfl, fun vs' h _ => h (fun e => by cases e), fun vs' _ _ => ⟨fun _ => hbr, fun h => absurd h (by decide)⟩, hS, Nat.le_refl _, fun h => absurd h (by decide)⟩
    | 8, _, rfl =>
      have h1 : ac.eval (.tmp 18) = .pointer (some ⟨g, 0, none⟩) := hdep 5 (by omega) (by kernel_rfl) (fun k _ h => by have h := of_decide_eq_true h; omega)
      exact ow_nilCheck _ rfl _ h1 ⟨_, rfl, fun vs' h _ => h (fun e => by cases e), fun vs' _ _ => ⟨fun _ => hbr, fun h => absurd h (by decide)⟩, hS, Nat.le_refl _, fun h => absurd h (by decide)⟩
    | 9, _, rfl =>
      have h1 : ac.eval (.tmp 21) = .pointer (some ⟨g, 0, none⟩) := hdep 8 (by omega) (by kernel_rfl) (fun k _ h => by have h := of_decide_eq_true h; omega)
      have h2 : ac.eval (.tmp 20) = .int .i64 (b : Int) := hdep 7 (by omega) (by kernel_rfl) (fun k _ h => by have h := of_decide_eq_true h; omega)
      exact ow_index_arr _ _ 22 57 16 rfl g 0 b h1 h2 hb Try.underlying57 (by kernel_rfl) ⟨_, rfl, fun vs' h _ => h (fun e => by cases e), fun vs' _ _ => ⟨fun _ => hbr, fun h => absurd h (by decide)⟩, hS, Nat.le_refl _, fun h => absurd h (by decide)⟩
    | 10, _, rfl => exact ow_move _ rfl (hag 0 rfl) ⟨_, rfl, fun vs' h _ => h (fun e => by cases e), fun vs' _ _ => ⟨fun _ => hbr, fun h => absurd h (by decide)⟩, hS, Nat.le_refl _, fun h => absurd h (by decide)⟩
    | 11, _, rfl => exact ow_index_arr _ _ 3 65 4 rfl w.heap.size 0 2 (hag 5 rfl) rfl (by decide) Try.underlying65 (by kernel_rfl) ⟨_, rfl, fun vs' h _ => h (fun e => by cases e), fun vs' _ _ => ⟨fun _ => hbr, fun h => absurd h (by decide)⟩, hS, Nat.le_refl _, fun h => absurd h (by decide)⟩
    | 12, _, rfl =>
      have h1 : ac.eval (.tmp 24) = .pointer (some ⟨w.heap.size, 0 + 2, none⟩) := hdep 11 (by omega) (by kernel_rfl) (fun k _ h => by have h := of_decide_eq_true h; omega)
      exact ow_load_int _ 3 .i64 rfl w.heap.size (0 + 2) h1 _ (cell_below hS qc) Try.underlying3 ⟨_, rfl, fun vs' h _ => h (fun e => by cases e), fun vs' _ _ => ⟨fun _ => hbr, fun h => absurd h (by decide)⟩, hS, Nat.le_refl _, fun h => absurd h (by decide)⟩
    | 13, _, rfl =>
      have h1 : ac.eval (.tmp 23) = .pointer (some ⟨g, 0, none⟩) := hdep 10 (by omega) (by kernel_rfl) (fun k _ h => by have h := of_decide_eq_true h; omega)
      exact ow_nilCheck _ rfl _ h1 ⟨_, rfl, fun vs' h _ => h (fun e => by cases e), fun vs' _ _ => ⟨fun _ => hbr, fun h => absurd h (by decide)⟩, hS, Nat.le_refl _, fun h => absurd h (by decide)⟩
    | 14, _, rfl =>
      have h1 : ac.eval (.tmp 26) = .pointer (some ⟨g, 0, none⟩) := hdep 13 (by omega) (by kernel_rfl) (fun k _ h => by have h := of_decide_eq_true h; omega)
      have h2 : ac.eval (.tmp 25) = .int .i64 (c : Int) := hdep 12 (by omega) (by kernel_rfl) (fun k _ h => by have h := of_decide_eq_true h; omega)
      exact ow_index_arr _ _ 22 57 16 rfl g 0 c h1 h2 hc Try.underlying57 (by kernel_rfl) ⟨_, rfl, fun vs' h _ => h (fun e => by cases e), fun vs' _ _ => ⟨fun _ => hbr, fun h => absurd h (by decide)⟩, hS, Nat.le_refl _, fun h => absurd h (by decide)⟩
    | 15, _, rfl => exact ow_move _ rfl (hag 0 rfl) ⟨_, rfl, fun vs' h _ => h (fun e => by cases e), fun vs' _ _ => ⟨fun _ => hbr, fun h => absurd h (by decide)⟩, hS, Nat.le_refl _, fun h => absurd h (by decide)⟩
    | 16, _, rfl => exact ow_index_arr _ _ 3 65 4 rfl w.heap.size 0 3 (hag 5 rfl) rfl (by decide) Try.underlying65 (by kernel_rfl) ⟨_, rfl, fun vs' h _ => h (fun e => by cases e), fun vs' _ _ => ⟨fun _ => hbr, fun h => absurd h (by decide)⟩, hS, Nat.le_refl _, fun h => absurd h (by decide)⟩
    | 17, _, rfl =>
      have h1 : ac.eval (.tmp 29) = .pointer (some ⟨w.heap.size, 0 + 3, none⟩) := hdep 16 (by omega) (by kernel_rfl) (fun k _ h => by have h := of_decide_eq_true h; omega)
      exact ow_load_int _ 3 .i64 rfl w.heap.size (0 + 3) h1 _ (cell_below hS qd) Try.underlying3 ⟨_, rfl, fun vs' h _ => h (fun e => by cases e), fun vs' _ _ => ⟨fun _ => hbr, fun h => absurd h (by decide)⟩, hS, Nat.le_refl _, fun h => absurd h (by decide)⟩
    | 18, _, rfl =>
      have h1 : ac.eval (.tmp 28) = .pointer (some ⟨g, 0, none⟩) := hdep 15 (by omega) (by kernel_rfl) (fun k _ h => by have h := of_decide_eq_true h; omega)
      exact ow_nilCheck _ rfl _ h1 ⟨_, rfl, fun vs' h _ => h (fun e => by cases e), fun vs' _ _ => ⟨fun _ => hbr, fun h => absurd h (by decide)⟩, hS, Nat.le_refl _, fun h => absurd h (by decide)⟩
    | 19, _, rfl =>
      have h1 : ac.eval (.tmp 31) = .pointer (some ⟨g, 0, none⟩) := hdep 18 (by omega) (by kernel_rfl) (fun k _ h => by have h := of_decide_eq_true h; omega)
      have h2 : ac.eval (.tmp 30) = .int .i64 (d : Int) := hdep 17 (by omega) (by kernel_rfl) (fun k _ h => by have h := of_decide_eq_true h; omega)
      exact ow_index_arr _ _ 22 57 16 rfl g 0 d h1 h2 hd Try.underlying57 (by kernel_rfl) ⟨_, rfl, fun vs' h _ => h (fun e => by cases e), fun vs' _ _ => ⟨fun _ => hbr, fun h => absurd h (by decide)⟩, hS, Nat.le_refl _, fun h => absurd h (by decide)⟩
    | 20, _, rfl =>
      exact ow_alloc_row 73 rfl _ (zero73 W) (fun w' hn hb => ⟨_, rfl, fun vs' h _ => ⟨_, h (fun e => by cases e), hS.size, hn⟩, fun vs' _ _ => ⟨fun _ => hb, fun h => absurd h (by decide)⟩, hS.trans (hb.mono hS.size), hb.size, fun _ => ⟨_, rfl, Nat.le_refl _, blk_lt hn⟩⟩)
    | 21, _, rfl =>
      exact ow_alloc_row 73 rfl _ (zero73 W) (fun w' hn hb => ⟨_, rfl, fun vs' h _ => ⟨_, h (fun e => by cases e), hS.size, hn⟩, fun vs' _ _ => ⟨fun _ => hb, fun h => absurd h (by decide)⟩, hS.trans (hb.mono hS.size), hb.size, fun _ => ⟨_, rfl, Nat.le_refl _, blk_lt hn⟩⟩)
    | 22, _, rfl =>
      exact ow_alloc_row 73 rfl _ (zero73 W) (fun w' hn hb => ⟨_, rfl, fun vs' h _ => ⟨_, h (fun e => by cases e), hS.size, hn⟩, fun vs' _ _ => ⟨fun _ => hb, fun h => absurd h (by decide)⟩, hS.trans (hb.mono hS.size), hb.size, fun _ => ⟨_, rfl, Nat.le_refl _, blk_lt hn⟩⟩)
    | 23, _, rfl =>
      exact ow_alloc_row 73 rfl _ (zero73 W) (fun w' hn hb => ⟨_, rfl, fun vs' h _ => ⟨_, h (fun e => by cases e), hS.size, hn⟩, fun vs' _ _ => ⟨fun _ => hb, fun h => absurd h (by decide)⟩, hS.trans (hb.mono hS.size), hb.size, fun _ => ⟨_, rfl, Nat.le_refl _, blk_lt hn⟩⟩)
    | 24, _, rfl =>
      obtain ⟨p, h1, h2, h3⟩ := hdep 20 (by omega) (by kernel_rfl) (fun k _ h => by have h := of_decide_eq_true h; omega)
      have h1 : ac.eval (.tmp 8) = .pointer (some ⟨p, 0, none⟩) := h1
      have h4 : ac.eval (.tmp 17) = .pointer (some ⟨g, 0 + a, none⟩) := hdep 4 (by omega) (by kernel_rfl) (fun k _ h => by have h := of_decide_eq_true h; omega)
      refine ow_store1 73 _ _ rfl p h1 73 _ _ h4 rfl h3 (by kernel_rfl) (fun w' hT hsz hgr => ?_)
      refine ⟨_, rfl, fun vs' _ hv => ⟨p, (hv 20 (by kernel_rfl)).trans h1, h2, by rw [Nat.zero_add] at hT; exact hT⟩, fun vs' _ hv => ⟨fun h => absurd (by decide) h, fun _ => ⟨p, (hv 20 (by kernel_rfl)).trans h1, hgr⟩⟩, hS.grown hgr hS.size (fun j e => by injection e with e; omega), by omega, fun h => absurd h (by decide)⟩
    | 25, _, rfl =>
      obtain ⟨p, h1, h2, h3⟩ := hdep 21 (by omega) (by kernel_rfl) (fun k _ h => by have h := of_decide_eq_true h; omega)
      have h1 : ac.eval (.tmp 9) = .pointer (some ⟨p, 0, none⟩) := h1
      have h4 : ac.eval (.tmp 22) = .pointer (some ⟨g, 0 + b, none⟩) := hdep 9 (by omega) (by kernel_rfl) (fun k _ h => by have h := of_decide_eq_true h; omega)
      refine ow_store1 73 _ _ rfl p h1 73 _ _ h4 rfl h3 (by kernel_rfl) (fun w' hT hsz hgr => ?_)
      refine ⟨_, rfl, fun vs' _ hv => ⟨p, (hv 21 (by kernel_rfl)).trans h1, h2, by rw [Nat.zero_add] at hT; exact hT⟩, fun vs' _ hv => ⟨fun h => absurd (by decide) h, fun _ => ⟨p, (hv 21 (by kernel_rfl)).trans h1, hgr⟩⟩, hS.grown hgr hS.size (fun j e => by injection e with e; omega), by omega, fun h => absurd h (by decide)⟩
    | 26, _, rfl =>
      obtain ⟨p, h1, h2, h3⟩ := hdep 22 (by omega) (by kernel_rfl) (fun k _ h => by have h := of_decide_eq_true h; omega)
      have h1 : ac.eval (.tmp 10) = .pointer (some ⟨p, 0, none⟩) := h1
      have h4 : ac.eval (.tmp 27) = .pointer (some ⟨g, 0 + c, none⟩) := hdep 14 (by omega) (by kernel_rfl) (fun k _ h => by have h := of_decide_eq_true h; omega)
      refine ow_store1 73 _ _ rfl p h1 73 _ _ h4 rfl h3 (by kernel_rfl) (fun w' hT hsz hgr => ?_)
      refine ⟨_, rfl, fun vs' _ hv => ⟨p, (hv 22 (by kernel_rfl)).trans h1, h2, by rw [Nat.zero_add] at hT; exact hT⟩, fun vs' _ hv => ⟨fun h => absurd (by decide) h, fun _ => ⟨p, (hv 22 (by kernel_rfl)).trans h1, hgr⟩⟩, hS.grown hgr hS.size (fun j e => by injection e with e; omega), by omega, fun h => absurd h (by decide)⟩
    | 27, _, rfl =>
      obtain ⟨p, h1, h2, h3⟩ := hdep 23 (by omega) (by kernel_rfl) (fun k _ h => by have h := of_decide_eq_true h; omega)
      have h1 : ac.eval (.tmp 11) = .pointer (some ⟨p, 0, none⟩) := h1
      have h4 : ac.eval (.tmp 32) = .pointer (some ⟨g, 0 + d, none⟩) := hdep 19 (by omega) (by kernel_rfl) (fun k _ h => by have h := of_decide_eq_true h; omega)
      refine ow_store1 73 _ _ rfl p h1 73 _ _ h4 rfl h3 (by kernel_rfl) (fun w' hT hsz hgr => ?_)
      refine ⟨_, rfl, fun vs' _ hv => ⟨p, (hv 23 (by kernel_rfl)).trans h1, h2, by rw [Nat.zero_add] at hT; exact hT⟩, fun vs' _ hv => ⟨fun h => absurd (by decide) h, fun _ => ⟨p, (hv 23 (by kernel_rfl)).trans h1, hgr⟩⟩, hS.grown hgr hS.size (fun j e => by injection e with e; omega), by omega, fun h => absurd h (by decide)⟩
    | n + 28, hi, _ => exact absurd hi (by omega)
  case fin =>
    intro vs W hS hF
    obtain ⟨pa, e20, _, hpa⟩ := hF 24 (by omega) (fun k hk => decide_eq_false (by omega))
    obtain ⟨pb, e21, _, hpb⟩ := hF 25 (by omega) (fun k hk => decide_eq_false (by omega))
    obtain ⟨pc, e22, _, hpc⟩ := hF 26 (by omega) (fun k hk => decide_eq_false (by omega))
    obtain ⟨pd, e23, _, hpd⟩ := hF 27 (by omega) (fun k hk => decide_eq_false (by omega))
    clear hF
    change wpList _ _ _ _ (Act.put (Act.put (Act.put (Act.put (Act.put (Act.put (Act.put (Act.put (Act.put (Act.put (Act.put (Act.put (Act.put (Act.put (Act.put (Act.put (Act.put (Act.put (Act.put (Act.put (Act.put (Act.put (Act.put (Act.put (Act.put (Act.put (Act.put (Act.put _ (some 13) (vs 0)) (some 14) (vs 1)) (some 15) (vs 2)) (some 16) (vs 3)) (some 17) (vs 4)) (some 18) (vs 5)) (some 19) (vs 6)) (some 20) (vs 7)) (some 21) (vs 8)) (some 22) (vs 9)) (some 23) (vs 10)) (some 24) (vs 11)) (some 25) (vs 12)) (some 26) (vs 13)) (some 27) (vs 14)) (some 28) (vs 15)) (some 29) (vs 16)) (some 30) (vs 17)) (some 31) (vs 18)) (some 32) (vs 19)) (some 8) (vs 20)) (some 9) (vs 21)) (some 10) (vs 22)) (some 11) (vs 23)) none (vs 24)) none (vs 25)) none (vs 26)) none (vs 27)) W
    rw [e20, e21, e22, e23]
    clear e20 e21 e22 e23
    generalize vs 0 = z0
    generalize vs 1 = z1
    generalize vs 2 = z2
    generalize vs 3 = z3
    generalize vs 4 = z4
    generalize vs 5 = z5
    generalize vs 6 = z6
    generalize vs 7 = z7
    generalize vs 8 = z8
    generalize vs 9 = z9
    generalize vs 10 = z10
    generalize vs 11 = z11
    generalize vs 12 = z12
    generalize vs 13 = z13
    generalize vs 14 = z14
    generalize vs 15 = z15
    generalize vs 16 = z16
    generalize vs 17 = z17
    generalize vs 18 = z18
    generalize vs 19 = z19
    generalize vs 24 = z24
    generalize vs 25 = z25
    generalize vs 26 = z26
    generalize vs 27 = z27
    simp only [putAll, List.drop_succ_cons, List.drop_zero, Act.put, List.setIfInBounds_toArray, List.set_cons_zero, List.set_cons_succ]
    clear vs
    have HW := Lib.hid hS
    have HA := Lib.hid hpa
    have HBb := Lib.hid hpb
    have HC := Lib.hid hpc
    have HD := Lib.hid hpd
    clear hS hpa hpb hpc hpd
    have hmf : ∀ (fn : Fn) (first cap : Array Value) (w : World), (Instr.makeFunc fn first cap).run Try.prog w = .ok (.func fn first cap) w := fun _ _ _ _ => rfl
    go_wp2_with fail
    have hGW := HG1.out.below HW.out
    refine (turn_any g pa pb pc pd a b c d x 16 12 v HV.out ha hb hc hd hx (.inl (.inl rfl)) (.inl (.inr rfl)) W hGW HA.out HBb.out HC.out HD.out).mono ?_
    rintro e w2 ⟨rfl, hr2, hg2⟩
    have HR2 := Lib.hid hr2
    have HG2 := Lib.hid hg2
    have HGW := Lib.hid hGW
    clear hr2 hg2 hGW
    go_wp2_with fail
    have hA2 := HA.out.grown HG2.out (HA.out.ne HGW.out)
    have hB2 := HBb.out.grown HG2.out (HBb.out.ne HGW.out)
    have hC2 := HC.out.grown HG2.out (HC.out.ne HGW.out)
    have hD2 := HD.out.grown HG2.out (HD.out.ne HGW.out)
    refine (turn_any g pa pb pc pd a b c d y 8 7 _ (HV.out.half a b c d x 16 12 (by decide) (by decide)) ha hb hc hd hy (.inr (.inl rfl)) (.inr (.inr rfl)) w2 HR2.out hA2 hB2 hC2 hD2).mono ?_
    rintro e w3 ⟨rfl, hr3, hg3⟩
    have HR3 := Lib.hid hr3
    have HG3 := Lib.hid hg3
    clear hr3 hg3 hA2 hB2 hC2 hD2
    go_wp2_with fail
    go_end0
    exact ⟨rfl, HR3.out, (((grown_of_below HB1.out (some g)).trans (grown_of_below HW.out (some g))).trans HG2.out).trans HG3.out⟩
end Go.Proofs.Ytnemclbeofiakaa
