/-
  The document's orders.
-/
import Derived.Test.YtnemclbeofiakaaWv
namespace Go.Proofs.Ytnemclbeofiakaa
open Go.RowKit Bl

/-- the cells of an order's row -/
def ordW (r : Nat) : Array Value := ((List.range 16).map fun j => Value.int .i64 ((sg r j : Nat) : Int)).toArray
theorem sg_lt : ∀ r, r < 10 → ∀ j, j < 16 → sg r j < 16 := by decide
/-- the orders lie at G, in blocks from B on -/
def OrdAt (B G : Nat) (W : World) : Prop := B ≤ G ∧ ∀ r, r < 10 → ∃ g, B ≤ g ∧ W.cell? ⟨G, r, none⟩ = some (.slice (some ⟨g, 0, none⟩) 16 16) ∧ W.heap[g]? = some (.cells (ordW r) 3 (0, 0))
theorem OrdAt.below {B G : Nat} {W W' : World} (h : OrdAt B G W) (hb : Below W.heap.size W W') : OrdAt B G W' :=
  ⟨h.1, fun r hr => by obtain ⟨g, h1, h2, h3⟩ := h.2 r hr; exact ⟨g, h1, cell_below hb h2, blk_below h3 hb⟩⟩
theorem cell_grown {W W' : World} {g b o : Nat} {v : Value} (hc : W.cell? ⟨b, o, none⟩ = some v) (hg : W.grownBy W' (some g)) (hne : b ≠ g) : W'.cell? ⟨b, o, none⟩ = some v := by
  have hlt := cell_lt hc
  have hgb : W.heap[b]? = some W.heap[b] := by simp [hlt]
  have h4 := blk_grown hgb hg (fun e => by injection e with e; exact hne e)
  have : W'.cell? ⟨b, o, none⟩ = W.cell? ⟨b, o, none⟩ := by simp [World.cell?, hgb, h4]
  rw [this]; exact hc
theorem OrdAt.grown {B G g : Nat} {W W' : World} (h : OrdAt B G W) (hg : W.grownBy W' (some g)) (hlt : g < B) : OrdAt B G W' :=
  ⟨h.1, fun r hr => by
    obtain ⟨k, h1, h2, h3⟩ := h.2 r hr
    exact ⟨k, h1, cell_grown h2 hg (by have := h.1; omega), blk_grown h3 hg (fun e => by injection e with e; omega)⟩⟩
theorem ordW_get (r j : Nat) (hj : j < 16) : (ordW r)[j]? = some (.int .i64 ((sg r j : Nat) : Int)) := by simp [ordW, hj]

section
variable {Q : Exit → Act → World → Prop} {o : Oper} {a : Act} {w : World} {ops : Array Oper} {rest : List Oper}
theorem run_ord0 (w : World) : (Instr.buildSlice 49 16 #[(0, .int .i64 0), (1, .int .i64 1), (2, .int .i64 2), (3, .int .i64 3), (4, .int .i64 4), (5, .int .i64 5), (6, .int .i64 6), (7, .int .i64 7), (8, .int .i64 8), (9, .int .i64 9), (10, .int .i64 10), (11, .int .i64 11), (12, .int .i64 12), (13, .int .i64 13), (14, .int .i64 14), (15, .int .i64 15)]).run Try.prog w = .ok (.slice (some ⟨w.heap.size, 0, none⟩) 16 16) (w.alloc (.cells (ordW 0) 3)) := by kernel_rfl
theorem wpList_ord0 (hgd : o.guard = none) (_hd : o.dst = some 1) (ho : o.op = .buildSlice 49 16 #[(0, .const (.int .i64 0)), (1, .const (.int .i64 1)), (2, .const (.int .i64 2)), (3, .const (.int .i64 3)), (4, .const (.int .i64 4)), (5, .const (.int .i64 5)), (6, .const (.int .i64 6)), (7, .const (.int .i64 7)), (8, .const (.int .i64 8)), (9, .const (.int .i64 9)), (10, .const (.int .i64 10)), (11, .const (.int .i64 11)), (12, .const (.int .i64 12)), (13, .const (.int .i64 13)), (14, .const (.int .i64 14)), (15, .const (.int .i64 15))])
    (h : ∀ w', w'.heap[w.heap.size]? = some (.cells (ordW 0) 3 (0, 0)) → w'.heap.size = w.heap.size + 1 → Below w.heap.size w w' → wpList Try.prog ops Q rest (a.put o.dst (.slice (some ⟨w.heap.size, 0, none⟩) 16 16)) w') : wpList Try.prog ops Q (o :: rest) a w := by
  refine wpList_plain hgd fun K hK => ow_value' ?_ (hK _ _ (h _ (World.alloc_heap_new w _) (by simp) (below_alloc1 w _)))
  unfold execOp
  simp only [ho, List.map_toArray, List.map_cons, List.map_nil, Act.eval, Sem.run_bind, run_ord0, Result.andThen_ok]
  rfl
theorem run_ord1 (w : World) : (Instr.buildSlice 49 16 #[(0, .int .i64 14), (1, .int .i64 10), (2, .int .i64 4), (3, .int .i64 8), (4, .int .i64 9), (5, .int .i64 15), (6, .int .i64 13), (7, .int .i64 6), (8, .int .i64 1), (9, .int .i64 12), (10, .int .i64 0), (11, .int .i64 2), (12, .int .i64 11), (13, .int .i64 7), (14, .int .i64 5), (15, .int .i64 3)]).run Try.prog w = .ok (.slice (some ⟨w.heap.size, 0, none⟩) 16 16) (w.alloc (.cells (ordW 1) 3)) := by kernel_rfl
theorem wpList_ord1 (hgd : o.guard = none) (_hd : o.dst = some 2) (ho : o.op = .buildSlice 49 16 #[(0, .const (.int .i64 14)), (1, .const (.int .i64 10)), (2, .const (.int .i64 4)), (3, .const (.int .i64 8)), (4, .const (.int .i64 9)), (5, .const (.int .i64 15)), (6, .const (.int .i64 13)), (7, .const (.int .i64 6)), (8, .const (.int .i64 1)), (9, .const (.int .i64 12)), (10, .const (.int .i64 0)), (11, .const (.int .i64 2)), (12, .const (.int .i64 11)), (13, .const (.int .i64 7)), (14, .const (.int .i64 5)), (15, .const (.int .i64 3))])
    (h : ∀ w', w'.heap[w.heap.size]? = some (.cells (ordW 1) 3 (0, 0)) → w'.heap.size = w.heap.size + 1 → Below w.heap.size w w' → wpList Try.prog ops Q rest (a.put o.dst (.slice (some ⟨w.heap.size, 0, none⟩) 16 16)) w') : wpList Try.prog ops Q (o :: rest) a w := by
  refine wpList_plain hgd fun K hK => ow_value' ?_ (hK _ _ (h _ (World.alloc_heap_new w _) (by simp) (below_alloc1 w _)))
  unfold execOp
  simp only [ho, List.map_toArray, List.map_cons, List.map_nil, Act.eval, Sem.run_bind, run_ord1, Result.andThen_ok]
  rfl
theorem run_ord2 (w : World) : (Instr.buildSlice 49 16 #[(0, .int .i64 11), (1, .int .i64 8), (2, .int .i64 12), (3, .int .i64 0), (4, .int .i64 5), (5, .int .i64 2), (6, .int .i64 15), (7, .int .i64 13), (8, .int .i64 10), (9, .int .i64 14), (10, .int .i64 3), (11, .int .i64 6), (12, .int .i64 7), (13, .int .i64 1), (14, .int .i64 9), (15, .int .i64 4)]).run Try.prog w = .ok (.slice (some ⟨w.heap.size, 0, none⟩) 16 16) (w.alloc (.cells (ordW 2) 3)) := by kernel_rfl
theorem wpList_ord2 (hgd : o.guard = none) (_hd : o.dst = some 3) (ho : o.op = .buildSlice 49 16 #[(0, .const (.int .i64 11)), (1, .const (.int .i64 8)), (2, .const (.int .i64 12)), (3, .const (.int .i64 0)), (4, .const (.int .i64 5)), (5, .const (.int .i64 2)), (6, .const (.int .i64 15)), (7, .const (.int .i64 13)), (8, .const (.int .i64 10)), (9, .const (.int .i64 14)), (10, .const (.int .i64 3)), (11, .const (.int .i64 6)), (12, .const (.int .i64 7)), (13, .const (.int .i64 1)), (14, .const (.int .i64 9)), (15, .const (.int .i64 4))])
    (h : ∀ w', w'.heap[w.heap.size]? = some (.cells (ordW 2) 3 (0, 0)) → w'.heap.size = w.heap.size + 1 → Below w.heap.size w w' → wpList Try.prog ops Q rest (a.put o.dst (.slice (some ⟨w.heap.size, 0, none⟩) 16 16)) w') : wpList Try.prog ops Q (o :: rest) a w := by
  refine wpList_plain hgd fun K hK => ow_value' ?_ (hK _ _ (h _ (World.alloc_heap_new w _) (by simp) (below_alloc1 w _)))
  unfold execOp
  simp only [ho, List.map_toArray, List.map_cons, List.map_nil, Act.eval, Sem.run_bind, run_ord2, Result.andThen_ok]
  rfl
theorem run_ord3 (w : World) : (Instr.buildSlice 49 16 #[(0, .int .i64 7), (1, .int .i64 9), (2, .int .i64 3), (3, .int .i64 1), (4, .int .i64 13), (5, .int .i64 12), (6, .int .i64 11), (7, .int .i64 14), (8, .int .i64 2), (9, .int .i64 6), (10, .int .i64 5), (11, .int .i64 10), (12, .int .i64 4), (13, .int .i64 0), (14, .int .i64 15), (15, .int .i64 8)]).run Try.prog w = .ok (.slice (some ⟨w.heap.size, 0, none⟩) 16 16) (w.alloc (.cells (ordW 3) 3)) := by kernel_rfl
theorem wpList_ord3 (hgd : o.guard = none) (_hd : o.dst = some 4) (ho : o.op = .buildSlice 49 16 #[(0, .const (.int .i64 7)), (1, .const (.int .i64 9)), (2, .const (.int .i64 3)), (3, .const (.int .i64 1)), (4, .const (.int .i64 13)), (5, .const (.int .i64 12)), (6, .const (.int .i64 11)), (7, .const (.int .i64 14)), (8, .const (.int .i64 2)), (9, .const (.int .i64 6)), (10, .const (.int .i64 5)), (11, .const (.int .i64 10)), (12, .const (.int .i64 4)), (13, .const (.int .i64 0)), (14, .const (.int .i64 15)), (15, .const (.int .i64 8))])
    (h : ∀ w', w'.heap[w.heap.size]? = some (.cells (ordW 3) 3 (0, 0)) → w'.heap.size = w.heap.size + 1 → Below w.heap.size w w' → wpList Try.prog ops Q rest (a.put o.dst (.slice (some ⟨w.heap.size, 0, none⟩) 16 16)) w') : wpList Try.prog ops Q (o :: rest) a w := by
  refine wpList_plain hgd fun K hK => ow_value' ?_ (hK _ _ (h _ (World.alloc_heap_new w _) (by simp) (below_alloc1 w _)))
  unfold execOp
  simp only [ho, List.map_toArray, List.map_cons, List.map_nil, Act.eval, Sem.run_bind, run_ord3, Result.andThen_ok]
  rfl
theorem run_ord4 (w : World) : (Instr.buildSlice 49 16 #[(0, .int .i64 9), (1, .int .i64 0), (2, .int .i64 5), (3, .int .i64 7), (4, .int .i64 2), (5, .int .i64 4), (6, .int .i64 10), (7, .int .i64 15), (8, .int .i64 14), (9, .int .i64 1), (10, .int .i64 11), (11, .int .i64 12), (12, .int .i64 6), (13, .int .i64 8), (14, .int .i64 3), (15, .int .i64 13)]).run Try.prog w = .ok (.slice (some ⟨w.heap.size, 0, none⟩) 16 16) (w.alloc (.cells (ordW 4) 3)) := by kernel_rfl
theorem wpList_ord4 (hgd : o.guard = none) (_hd : o.dst = some 5) (ho : o.op = .buildSlice 49 16 #[(0, .const (.int .i64 9)), (1, .const (.int .i64 0)), (2, .const (.int .i64 5)), (3, .const (.int .i64 7)), (4, .const (.int .i64 2)), (5, .const (.int .i64 4)), (6, .const (.int .i64 10)), (7, .const (.int .i64 15)), (8, .const (.int .i64 14)), (9, .const (.int .i64 1)), (10, .const (.int .i64 11)), (11, .const (.int .i64 12)), (12, .const (.int .i64 6)), (13, .const (.int .i64 8)), (14, .const (.int .i64 3)), (15, .const (.int .i64 13))])
    (h : ∀ w', w'.heap[w.heap.size]? = some (.cells (ordW 4) 3 (0, 0)) → w'.heap.size = w.heap.size + 1 → Below w.heap.size w w' → wpList Try.prog ops Q rest (a.put o.dst (.slice (some ⟨w.heap.size, 0, none⟩) 16 16)) w') : wpList Try.prog ops Q (o :: rest) a w := by
  refine wpList_plain hgd fun K hK => ow_value' ?_ (hK _ _ (h _ (World.alloc_heap_new w _) (by simp) (below_alloc1 w _)))
  unfold execOp
  simp only [ho, List.map_toArray, List.map_cons, List.map_nil, Act.eval, Sem.run_bind, run_ord4, Result.andThen_ok]
  rfl
theorem run_ord5 (w : World) : (Instr.buildSlice 49 16 #[(0, .int .i64 2), (1, .int .i64 12), (2, .int .i64 6), (3, .int .i64 10), (4, .int .i64 0), (5, .int .i64 11), (6, .int .i64 8), (7, .int .i64 3), (8, .int .i64 4), (9, .int .i64 13), (10, .int .i64 7), (11, .int .i64 5), (12, .int .i64 15), (13, .int .i64 14), (14, .int .i64 1), (15, .int .i64 9)]).run Try.prog w = .ok (.slice (some ⟨w.heap.size, 0, none⟩) 16 16) (w.alloc (.cells (ordW 5) 3)) := by kernel_rfl
theorem wpList_ord5 (hgd : o.guard = none) (_hd : o.dst = some 6) (ho : o.op = .buildSlice 49 16 #[(0, .const (.int .i64 2)), (1, .const (.int .i64 12)), (2, .const (.int .i64 6)), (3, .const (.int .i64 10)), (4, .const (.int .i64 0)), (5, .const (.int .i64 11)), (6, .const (.int .i64 8)), (7, .const (.int .i64 3)), (8, .const (.int .i64 4)), (9, .const (.int .i64 13)), (10, .const (.int .i64 7)), (11, .const (.int .i64 5)), (12, .const (.int .i64 15)), (13, .const (.int .i64 14)), (14, .const (.int .i64 1)), (15, .const (.int .i64 9))])
    (h : ∀ w', w'.heap[w.heap.size]? = some (.cells (ordW 5) 3 (0, 0)) → w'.heap.size = w.heap.size + 1 → Below w.heap.size w w' → wpList Try.prog ops Q rest (a.put o.dst (.slice (some ⟨w.heap.size, 0, none⟩) 16 16)) w') : wpList Try.prog ops Q (o :: rest) a w := by
  refine wpList_plain hgd fun K hK => ow_value' ?_ (hK _ _ (h _ (World.alloc_heap_new w _) (by simp) (below_alloc1 w _)))
  unfold execOp
  simp only [ho, List.map_toArray, List.map_cons, List.map_nil, Act.eval, Sem.run_bind, run_ord5, Result.andThen_ok]
  rfl
theorem run_ord6 (w : World) : (Instr.buildSlice 49 16 #[(0, .int .i64 12), (1, .int .i64 5), (2, .int .i64 1), (3, .int .i64 15), (4, .int .i64 14), (5, .int .i64 13), (6, .int .i64 4), (7, .int .i64 10), (8, .int .i64 0), (9, .int .i64 7), (10, .int .i64 6), (11, .int .i64 3), (12, .int .i64 9), (13, .int .i64 2), (14, .int .i64 8), (15, .int .i64 11)]).run Try.prog w = .ok (.slice (some ⟨w.heap.size, 0, none⟩) 16 16) (w.alloc (.cells (ordW 6) 3)) := by kernel_rfl
theorem wpList_ord6 (hgd : o.guard = none) (_hd : o.dst = some 7) (ho : o.op = .buildSlice 49 16 #[(0, .const (.int .i64 12)), (1, .const (.int .i64 5)), (2, .const (.int .i64 1)), (3, .const (.int .i64 15)), (4, .const (.int .i64 14)), (5, .const (.int .i64 13)), (6, .const (.int .i64 4)), (7, .const (.int .i64 10)), (8, .const (.int .i64 0)), (9, .const (.int .i64 7)), (10, .const (.int .i64 6)), (11, .const (.int .i64 3)), (12, .const (.int .i64 9)), (13, .const (.int .i64 2)), (14, .const (.int .i64 8)), (15, .const (.int .i64 11))])
    (h : ∀ w', w'.heap[w.heap.size]? = some (.cells (ordW 6) 3 (0, 0)) → w'.heap.size = w.heap.size + 1 → Below w.heap.size w w' → wpList Try.prog ops Q rest (a.put o.dst (.slice (some ⟨w.heap.size, 0, none⟩) 16 16)) w') : wpList Try.prog ops Q (o :: rest) a w := by
  refine wpList_plain hgd fun K hK => ow_value' ?_ (hK _ _ (h _ (World.alloc_heap_new w _) (by simp) (below_alloc1 w _)))
  unfold execOp
  simp only [ho, List.map_toArray, List.map_cons, List.map_nil, Act.eval, Sem.run_bind, run_ord6, Result.andThen_ok]
  rfl
theorem run_ord7 (w : World) : (Instr.buildSlice 49 16 #[(0, .int .i64 13), (1, .int .i64 11), (2, .int .i64 7), (3, .int .i64 14), (4, .int .i64 12), (5, .int .i64 1), (6, .int .i64 3), (7, .int .i64 9), (8, .int .i64 5), (9, .int .i64 0), (10, .int .i64 15), (11, .int .i64 4), (12, .int .i64 8), (13, .int .i64 6), (14, .int .i64 2), (15, .int .i64 10)]).run Try.prog w = .ok (.slice (some ⟨w.heap.size, 0, none⟩) 16 16) (w.alloc (.cells (ordW 7) 3)) := by kernel_rfl
theorem wpList_ord7 (hgd : o.guard = none) (_hd : o.dst = some 8) (ho : o.op = .buildSlice 49 16 #[(0, .const (.int .i64 13)), (1, .const (.int .i64 11)), (2, .const (.int .i64 7)), (3, .const (.int .i64 14)), (4, .const (.int .i64 12)), (5, .const (.int .i64 1)), (6, .const (.int .i64 3)), (7, .const (.int .i64 9)), (8, .const (.int .i64 5)), (9, .const (.int .i64 0)), (10, .const (.int .i64 15)), (11, .const (.int .i64 4)), (12, .const (.int .i64 8)), (13, .const (.int .i64 6)), (14, .const (.int .i64 2)), (15, .const (.int .i64 10))])
    (h : ∀ w', w'.heap[w.heap.size]? = some (.cells (ordW 7) 3 (0, 0)) → w'.heap.size = w.heap.size + 1 → Below w.heap.size w w' → wpList Try.prog ops Q rest (a.put o.dst (.slice (some ⟨w.heap.size, 0, none⟩) 16 16)) w') : wpList Try.prog ops Q (o :: rest) a w := by
  refine wpList_plain hgd fun K hK => ow_value' ?_ (hK _ _ (h _ (World.alloc_heap_new w _) (by simp) (below_alloc1 w _)))
  unfold execOp
  simp only [ho, List.map_toArray, List.map_cons, List.map_nil, Act.eval, Sem.run_bind, run_ord7, Result.andThen_ok]
  rfl
theorem run_ord8 (w : World) : (Instr.buildSlice 49 16 #[(0, .int .i64 6), (1, .int .i64 15), (2, .int .i64 14), (3, .int .i64 9), (4, .int .i64 11), (5, .int .i64 3), (6, .int .i64 0), (7, .int .i64 8), (8, .int .i64 12), (9, .int .i64 2), (10, .int .i64 13), (11, .int .i64 7), (12, .int .i64 1), (13, .int .i64 4), (14, .int .i64 10), (15, .int .i64 5)]).run Try.prog w = .ok (.slice (some ⟨w.heap.size, 0, none⟩) 16 16) (w.alloc (.cells (ordW 8) 3)) := by kernel_rfl
theorem wpList_ord8 (hgd : o.guard = none) (_hd : o.dst = some 9) (ho : o.op = .buildSlice 49 16 #[(0, .const (.int .i64 6)), (1, .const (.int .i64 15)), (2, .const (.int .i64 14)), (3, .const (.int .i64 9)), (4, .const (.int .i64 11)), (5, .const (.int .i64 3)), (6, .const (.int .i64 0)), (7, .const (.int .i64 8)), (8, .const (.int .i64 12)), (9, .const (.int .i64 2)), (10, .const (.int .i64 13)), (11, .const (.int .i64 7)), (12, .const (.int .i64 1)), (13, .const (.int .i64 4)), (14, .const (.int .i64 10)), (15, .const (.int .i64 5))])
    (h : ∀ w', w'.heap[w.heap.size]? = some (.cells (ordW 8) 3 (0, 0)) → w'.heap.size = w.heap.size + 1 → Below w.heap.size w w' → wpList Try.prog ops Q rest (a.put o.dst (.slice (some ⟨w.heap.size, 0, none⟩) 16 16)) w') : wpList Try.prog ops Q (o :: rest) a w := by
  refine wpList_plain hgd fun K hK => ow_value' ?_ (hK _ _ (h _ (World.alloc_heap_new w _) (by simp) (below_alloc1 w _)))
  unfold execOp
  simp only [ho, List.map_toArray, List.map_cons, List.map_nil, Act.eval, Sem.run_bind, run_ord8, Result.andThen_ok]
  rfl
theorem run_ord9 (w : World) : (Instr.buildSlice 49 16 #[(0, .int .i64 10), (1, .int .i64 2), (2, .int .i64 8), (3, .int .i64 4), (4, .int .i64 7), (5, .int .i64 6), (6, .int .i64 1), (7, .int .i64 5), (8, .int .i64 15), (9, .int .i64 11), (10, .int .i64 9), (11, .int .i64 14), (12, .int .i64 3), (13, .int .i64 12), (14, .int .i64 13), (15, .int .i64 0)]).run Try.prog w = .ok (.slice (some ⟨w.heap.size, 0, none⟩) 16 16) (w.alloc (.cells (ordW 9) 3)) := by kernel_rfl
theorem wpList_ord9 (hgd : o.guard = none) (_hd : o.dst = some 10) (ho : o.op = .buildSlice 49 16 #[(0, .const (.int .i64 10)), (1, .const (.int .i64 2)), (2, .const (.int .i64 8)), (3, .const (.int .i64 4)), (4, .const (.int .i64 7)), (5, .const (.int .i64 6)), (6, .const (.int .i64 1)), (7, .const (.int .i64 5)), (8, .const (.int .i64 15)), (9, .const (.int .i64 11)), (10, .const (.int .i64 9)), (11, .const (.int .i64 14)), (12, .const (.int .i64 3)), (13, .const (.int .i64 12)), (14, .const (.int .i64 13)), (15, .const (.int .i64 0))])
    (h : ∀ w', w'.heap[w.heap.size]? = some (.cells (ordW 9) 3 (0, 0)) → w'.heap.size = w.heap.size + 1 → Below w.heap.size w w' → wpList Try.prog ops Q rest (a.put o.dst (.slice (some ⟨w.heap.size, 0, none⟩) 16 16)) w') : wpList Try.prog ops Q (o :: rest) a w := by
  refine wpList_plain hgd fun K hK => ow_value' ?_ (hK _ _ (h _ (World.alloc_heap_new w _) (by simp) (below_alloc1 w _)))
  unfold execOp
  simp only [ho, List.map_toArray, List.map_cons, List.map_nil, Act.eval, Sem.run_bind, run_ord9, Result.andThen_ok]
  rfl
theorem run_ords (g0 g1 g2 g3 g4 g5 g6 g7 g8 g9 : Nat) (w : World) : (Instr.buildSlice 47 10 #[(0, .slice (some ⟨g0, 0, none⟩) 16 16), (1, .slice (some ⟨g1, 0, none⟩) 16 16), (2, .slice (some ⟨g2, 0, none⟩) 16 16), (3, .slice (some ⟨g3, 0, none⟩) 16 16), (4, .slice (some ⟨g4, 0, none⟩) 16 16), (5, .slice (some ⟨g5, 0, none⟩) 16 16), (6, .slice (some ⟨g6, 0, none⟩) 16 16), (7, .slice (some ⟨g7, 0, none⟩) 16 16), (8, .slice (some ⟨g8, 0, none⟩) 16 16), (9, .slice (some ⟨g9, 0, none⟩) 16 16)]).run Try.prog w = .ok (.slice (some ⟨w.heap.size, 0, none⟩) 10 10) (w.alloc (.cells #[.slice (some ⟨g0, 0, none⟩) 16 16, .slice (some ⟨g1, 0, none⟩) 16 16, .slice (some ⟨g2, 0, none⟩) 16 16, .slice (some ⟨g3, 0, none⟩) 16 16, .slice (some ⟨g4, 0, none⟩) 16 16, .slice (some ⟨g5, 0, none⟩) 16 16, .slice (some ⟨g6, 0, none⟩) 16 16, .slice (some ⟨g7, 0, none⟩) 16 16, .slice (some ⟨g8, 0, none⟩) 16 16, .slice (some ⟨g9, 0, none⟩) 16 16] 49)) := by kernel_rfl
theorem wpList_ords (g0 g1 g2 g3 g4 g5 g6 g7 g8 g9 : Nat) (hgd : o.guard = none) (_hd : o.dst = some 11) (ho : o.op = .buildSlice 47 10 #[(0, .tmp 1), (1, .tmp 2), (2, .tmp 3), (3, .tmp 4), (4, .tmp 5), (5, .tmp 6), (6, .tmp 7), (7, .tmp 8), (8, .tmp 9), (9, .tmp 10)]) (h0 : a.eval (.tmp 1) = .slice (some ⟨g0, 0, none⟩) 16 16) (h1 : a.eval (.tmp 2) = .slice (some ⟨g1, 0, none⟩) 16 16) (h2 : a.eval (.tmp 3) = .slice (some ⟨g2, 0, none⟩) 16 16) (h3 : a.eval (.tmp 4) = .slice (some ⟨g3, 0, none⟩) 16 16) (h4 : a.eval (.tmp 5) = .slice (some ⟨g4, 0, none⟩) 16 16) (h5 : a.eval (.tmp 6) = .slice (some ⟨g5, 0, none⟩) 16 16) (h6 : a.eval (.tmp 7) = .slice (some ⟨g6, 0, none⟩) 16 16) (h7 : a.eval (.tmp 8) = .slice (some ⟨g7, 0, none⟩) 16 16) (h8 : a.eval (.tmp 9) = .slice (some ⟨g8, 0, none⟩) 16 16) (h9 : a.eval (.tmp 10) = .slice (some ⟨g9, 0, none⟩) 16 16)
    (h : ∀ w', w'.heap[w.heap.size]? = some (.cells #[.slice (some ⟨g0, 0, none⟩) 16 16, .slice (some ⟨g1, 0, none⟩) 16 16, .slice (some ⟨g2, 0, none⟩) 16 16, .slice (some ⟨g3, 0, none⟩) 16 16, .slice (some ⟨g4, 0, none⟩) 16 16, .slice (some ⟨g5, 0, none⟩) 16 16, .slice (some ⟨g6, 0, none⟩) 16 16, .slice (some ⟨g7, 0, none⟩) 16 16, .slice (some ⟨g8, 0, none⟩) 16 16, .slice (some ⟨g9, 0, none⟩) 16 16] 49 (0, 0)) → Below w.heap.size w w' → wpList Try.prog ops Q rest (a.put o.dst (.slice (some ⟨w.heap.size, 0, none⟩) 10 10)) w') : wpList Try.prog ops Q (o :: rest) a w := by
  refine wpList_plain hgd fun K hK => ow_value' ?_ (hK _ _ (h _ (World.alloc_heap_new w _) (below_alloc1 w _)))
  unfold execOp
  simp only [ho, List.map_toArray, List.map_cons, List.map_nil, h0, h1, h2, h3, h4, h5, h6, h7, h8, h9, Sem.run_bind, run_ords, Result.andThen_ok]
  rfl
end

set_option maxHeartbeats 1000000 in
theorem ordersR_any (w : World) : Calls Try.prog 20 #[] w fun e w' => ∃ G, e = .returned (.slice (some ⟨G, 0, none⟩) 10 10) ∧ OrdAt w.heap.size G w' ∧ Below w.heap.size w w' := by
  go_enter Try.func20, Try.ntmps20
  go_upto_region 1 with fail
  refine wp_region_lit ?_
  refine wpList_ord0 rfl rfl rfl ?_
  intro w1 hT hS hG
  have HT0 := Lib.hid hT
  have HG0 := Lib.hid hG
  clear hT hS hG
  refine wpList_ord1 rfl rfl rfl ?_
  intro w2 hT hS hG
  have HT1 := Lib.hid hT
  have HG1 := Lib.hid hG
  clear hT hS hG
  refine wpList_ord2 rfl rfl rfl ?_
  intro w3 hT hS hG
  have HT2 := Lib.hid hT
  have HG2 := Lib.hid hG
  clear hT hS hG
  refine wpList_ord3 rfl rfl rfl ?_
  intro w4 hT hS hG
  have HT3 := Lib.hid hT
  have HG3 := Lib.hid hG
  clear hT hS hG
  refine wpList_ord4 rfl rfl rfl ?_
  intro w5 hT hS hG
  have HT4 := Lib.hid hT
  have HG4 := Lib.hid hG
  clear hT hS hG
  refine wpList_ord5 rfl rfl rfl ?_
  intro w6 hT hS hG
  have HT5 := Lib.hid hT
  have HG5 := Lib.hid hG
  clear hT hS hG
  refine wpList_ord6 rfl rfl rfl ?_
  intro w7 hT hS hG
  have HT6 := Lib.hid hT
  have HG6 := Lib.hid hG
  clear hT hS hG
  refine wpList_ord7 rfl rfl rfl ?_
  intro w8 hT hS hG
  have HT7 := Lib.hid hT
  have HG7 := Lib.hid hG
  clear hT hS hG
  refine wpList_ord8 rfl rfl rfl ?_
  intro w9 hT hS hG
  have HT8 := Lib.hid hT
  have HG8 := Lib.hid hG
  clear hT hS hG
  refine wpList_ord9 rfl rfl rfl ?_
  intro w10 hT hS hG
  have HT9 := Lib.hid hT
  have HG9 := Lib.hid hG
  clear hT hS hG
  simp only [Act.put, List.setIfInBounds_toArray, List.set_cons_zero, List.set_cons_succ]
  refine wpList_ords w.heap.size w1.heap.size w2.heap.size w3.heap.size w4.heap.size w5.heap.size w6.heap.size w7.heap.size w8.heap.size w9.heap.size rfl rfl rfl rfl rfl rfl rfl rfl rfl rfl rfl rfl rfl ?_
  intro w11 hT hG
  have HT10 := Lib.hid hT
  have HG10 := Lib.hid hG
  clear hT hG
  go_wp2_with fail
  have b1 : Below w.heap.size w w1 := HG0.out
  have b2 : Below w.heap.size w w2 := b1.trans (HG1.out.mono b1.size)
  have b3 : Below w.heap.size w w3 := b2.trans (HG2.out.mono b2.size)
  have b4 : Below w.heap.size w w4 := b3.trans (HG3.out.mono b3.size)
  have b5 : Below w.heap.size w w5 := b4.trans (HG4.out.mono b4.size)
  have b6 : Below w.heap.size w w6 := b5.trans (HG5.out.mono b5.size)
  have b7 : Below w.heap.size w w7 := b6.trans (HG6.out.mono b6.size)
  have b8 : Below w.heap.size w w8 := b7.trans (HG7.out.mono b7.size)
  have b9 : Below w.heap.size w w9 := b8.trans (HG8.out.mono b8.size)
  have b10 : Below w.heap.size w w10 := b9.trans (HG9.out.mono b9.size)
  have b11 : Below w.heap.size w w11 := b10.trans (HG10.out.mono b10.size)
  go_ret
  refine ⟨w10.heap.size, rfl, ⟨b10.size, fun r hr => ?_⟩, b11⟩
  match r, hr with
  | 0, _ => exact ⟨w.heap.size, Nat.le_refl _, (cell_of_row _ _ 0 _ _ _ HT10.out).trans rfl, (blk_below (blk_below (blk_below (blk_below (blk_below (blk_below (blk_below (blk_below (blk_below (blk_below HT0.out HG1.out) HG2.out) HG3.out) HG4.out) HG5.out) HG6.out) HG7.out) HG8.out) HG9.out) HG10.out)⟩
  | 1, _ => exact ⟨w1.heap.size, b1.size, (cell_of_row _ _ 1 _ _ _ HT10.out).trans rfl, (blk_below (blk_below (blk_below (blk_below (blk_below (blk_below (blk_below (blk_below (blk_below HT1.out HG2.out) HG3.out) HG4.out) HG5.out) HG6.out) HG7.out) HG8.out) HG9.out) HG10.out)⟩
  | 2, _ => exact ⟨w2.heap.size, b2.size, (cell_of_row _ _ 2 _ _ _ HT10.out).trans rfl, (blk_below (blk_below (blk_below (blk_below (blk_below (blk_below (blk_below (blk_below HT2.out HG3.out) HG4.out) HG5.out) HG6.out) HG7.out) HG8.out) HG9.out) HG10.out)⟩
  | 3, _ => exact ⟨w3.heap.size, b3.size, (cell_of_row _ _ 3 _ _ _ HT10.out).trans rfl, (blk_below (blk_below (blk_below (blk_below (blk_below (blk_below (blk_below HT3.out HG4.out) HG5.out) HG6.out) HG7.out) HG8.out) HG9.out) HG10.out)⟩
  | 4, _ => exact ⟨w4.heap.size, b4.size, (cell_of_row _ _ 4 _ _ _ HT10.out).trans rfl, (blk_below (blk_below (blk_below (blk_below (blk_below (blk_below HT4.out HG5.out) HG6.out) HG7.out) HG8.out) HG9.out) HG10.out)⟩
  | 5, _ => exact ⟨w5.heap.size, b5.size, (cell_of_row _ _ 5 _ _ _ HT10.out).trans rfl, (blk_below (blk_below (blk_below (blk_below (blk_below HT5.out HG6.out) HG7.out) HG8.out) HG9.out) HG10.out)⟩
  | 6, _ => exact ⟨w6.heap.size, b6.size, (cell_of_row _ _ 6 _ _ _ HT10.out).trans rfl, (blk_below (blk_below (blk_below (blk_below HT6.out HG7.out) HG8.out) HG9.out) HG10.out)⟩
  | 7, _ => exact ⟨w7.heap.size, b7.size, (cell_of_row _ _ 7 _ _ _ HT10.out).trans rfl, (blk_below (blk_below (blk_below HT7.out HG8.out) HG9.out) HG10.out)⟩
  | 8, _ => exact ⟨w8.heap.size, b8.size, (cell_of_row _ _ 8 _ _ _ HT10.out).trans rfl, (blk_below (blk_below HT8.out HG9.out) HG10.out)⟩
  | 9, _ => exact ⟨w9.heap.size, b9.size, (cell_of_row _ _ 9 _ _ _ HT10.out).trans rfl, (blk_below HT9.out HG10.out)⟩
  | n + 10, hr => exact absurd hr (by omega)
end Go.Proofs.Ytnemclbeofiakaa
