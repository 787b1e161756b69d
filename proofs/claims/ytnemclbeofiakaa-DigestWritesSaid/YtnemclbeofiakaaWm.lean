/-
  Digests in memory; writeL.
-/
import Derived.Test.YtnemclbeofiakaaWl
namespace Go.Proofs.Ytnemclbeofiakaa
open Go.RowKit Bl

section
variable {P : Program} {Q : Exit → Act → World → Prop} {o : Oper} {a : Act} {w : World} {K : Act → World → Prop} {ops : Array Oper} {rest : List Oper}
/-- the first cells of a block, loaded as a row -/
theorem run_loadVar_part (w : World) (g : Nat) (ty : TypeId) (cs : Array Value) (d : TypeDesc) (hc : ∀ j v, cs[j]? = some v → w.cell? ⟨g, j, none⟩ = some v)
    (hu : P.underlying ty = some d) (hd : (match d with | .struct _ | .array _ _ => true | _ => false) = true) (hi : (P.info? ty).map (·.size) = some cs.size) :
    (loadVar ty ⟨g, 0, none⟩).run P w = .ok (.agg cs) w := by
  have hl : (loadCells ⟨g, 0, none⟩ cs.toList.length).run P w = .ok cs.toList.toArray w :=
    run_loadCells_list (P := P) w ⟨g, 0, none⟩ cs.toList (fun j v hv => by
      rw [add_plain, Nat.zero_add]
      exact hc j v (by simpa using hv))
  obtain ⟨i, hi1, hi2⟩ := Option.map_eq_some_iff.1 hi
  have hagg : (isAgg ty).run P w = .ok true w := by
    unfold isAgg
    rw [Sem.run_bind, run_underlying hu w]
    cases d <;> simp_all
  simp only [Array.length_toList, Array.toArray_toList] at hl
  simp [loadVar, Sem.run_bind, hagg, sizeOf, typeInfo, hi1, hi2, hl]
theorem ow_load_part (ty : TypeId) (x : Operand) (ho : o.op = .load ty x) (g : Nat) (hx : a.eval x = .pointer (some ⟨g, 0, none⟩)) (cs : Array Value) (d : TypeDesc) (hc : ∀ j v, cs[j]? = some v → w.cell? ⟨g, j, none⟩ = some v)
    (hu : P.underlying ty = some d) (hd : (match d with | .struct _ | .array _ _ => true | _ => false) = true) (hi : (P.info? ty).map (·.size) = some cs.size) (h : K (a.put o.dst (.agg cs)) w) : o.wp P a w K Q := by
  unfold Oper.wp execOp
  simp only [ho, hx, Instr.loadAt, Instr.sureAddr, Sem.run_bind, Sem.run_pure, Result.andThen_ok, run_loadVar_part w g ty cs d hc hu hd hi]
  exact h
/-- a row stored over the first cells of a block -/
theorem run_storeVar_part (g : Nat) (t ty : TypeId) (cur cs : Array Value) (hg : w.heap[g]? = some (.cells cur t (0, 0))) (hs : cs.size ≤ cur.size) (hi : (P.info? ty).map (·.size) = some cs.size)
    (h1 : ∀ u ∈ cs.toList, u.oneCell' = true) : ∃ w', (storeVar ty ⟨g, 0, none⟩ (.agg cs)).run P w = .ok () w' ∧ w'.heap[g]? = some (.cells (cs.toList ++ cur.toList.drop cs.size).toArray t (0, 0)) ∧ w'.heap.size = w.heap.size ∧ w.grownBy w' (some g) := by
  have hst := run_storeCells_at P g 0 t cs.toList 0 cur w hg (by simpa using hs) h1
  obtain ⟨i, hi1, hi2⟩ := Option.map_eq_some_iff.1 hi
  refine ⟨_, by simp [storeVar, Sem.run_bind, sizeOf, typeInfo, hi1, hi2, Value.cells]; exact hst, ?_, ?_, ?_⟩
  · rw [setRow_heap w g cur _ t (0, 0) hg]
    simp
  · simp
  · exact ⟨rfl, rfl, rfl, by simp, fun k _ hk => setRow_other w g k _ (fun e => hk (by simp [e]))⟩
theorem wpList_store_part (hgd : o.guard = none) (ty : TypeId) (x y : Operand) (ho : o.op = .store ty x y) (g : Nat) (hx : a.eval x = .pointer (some ⟨g, 0, none⟩)) (t : TypeId) (cur cs : Array Value) (hy : a.eval y = .agg cs)
    (hg : w.heap[g]? = some (.cells cur t (0, 0))) (hs : cs.size ≤ cur.size) (hi : (P.info? ty).map (·.size) = some cs.size) (h1 : ∀ u ∈ cs.toList, u.oneCell' = true)
    (h : ∀ w', w'.heap[g]? = some (.cells (cs.toList ++ cur.toList.drop cs.size).toArray t (0, 0)) → w'.heap.size = w.heap.size → w.grownBy w' (some g) → wpList P ops Q rest (a.put o.dst undef) w') : wpList P ops Q (o :: rest) a w := by
  refine wpList_plain hgd fun _ hK => ?_
  obtain ⟨w', hr, h2, h3, h4⟩ := run_storeVar_part (P := P) (w := w) g t ty cur cs hg hs hi h1
  unfold Oper.wp execOp
  simp only [ho, hx, hy, Instr.storeAt, Instr.sureAddr, Sem.run_bind, Sem.run_pure, Result.andThen_ok, hr]
  exact hK _ _ (h _ h2 h3 h4)
theorem ow_slice_lo (x : Operand) (e : TypeId) (t : TypeId) (lo : Nat) (ho : o.op = .slice t x (some (.const (.int .i64 (lo : Int)))) none none) (b j n c : Nat) (hx : a.eval x = .slice (some ⟨b, j, none⟩) n c)
    (hu : P.underlying t = some (.slice e)) (h1 : lo ≤ n) (_h2 : n ≤ c) (h3 : lo < c) (hi : (P.info? e).map (·.size) = some 1) (h : K (a.put o.dst (.slice (some ⟨b, j + lo, none⟩) (n - lo) (c - lo))) w) : o.wp P a w K Q := by
  refine ow_value (v := .slice (some ⟨b, j + lo, none⟩) (n - lo) (c - lo)) ?_ h
  obtain ⟨i, hi1, hi2⟩ := Option.map_eq_some_iff.1 hi
  unfold execOp
  simp only [ho, hx, Sem.run_bind, Option.map_some, Option.map_none]
  have h4 : ¬ c = lo := by omega
  simp [go_sem, hu, Act.eval, h1, h4, sizeOf, typeInfo, Sem.run_bind, hi1, hi2]
theorem ow_slice_hi (x : Operand) (e : TypeId) (t : TypeId) (k : Nat) (ho : o.op = .slice t x none (some (.const (.int .i64 (k : Int)))) none) (b j n c : Nat) (hx : a.eval x = .slice (some ⟨b, j, none⟩) n c)
    (hu : P.underlying t = some (.slice e)) (h1 : k ≤ c) (h3 : 0 < c) (hi : (P.info? e).map (·.size) = some 1) (h : K (a.put o.dst (.slice (some ⟨b, j, none⟩) k c)) w) : o.wp P a w K Q := by
  refine ow_value (v := .slice (some ⟨b, j, none⟩) k c) ?_ h
  obtain ⟨i, hi1, hi2⟩ := Option.map_eq_some_iff.1 hi
  unfold execOp
  simp only [ho, hx, Sem.run_bind, Option.map_some, Option.map_none]
  have h4 : ¬ c = 0 := by omega
  simp [go_sem, hu, Act.eval, h1, h4, sizeOf, typeInfo, Sem.run_bind, hi1, hi2]
theorem wpList_slice_lo (hgd : o.guard = none) (x : Operand) (e : TypeId) (t : TypeId) (lo : Nat) (ho : o.op = .slice t x (some (.const (.int .i64 (lo : Int)))) none none) (b j n c : Nat) (hx : a.eval x = .slice (some ⟨b, j, none⟩) n c)
    (hu : P.underlying t = some (.slice e)) (h1 : lo ≤ n) (h2 : n ≤ c) (h3 : lo < c) (hi : (P.info? e).map (·.size) = some 1) (h : wpList P ops Q rest (a.put o.dst (.slice (some ⟨b, j + lo, none⟩) (n - lo) (c - lo))) w) : wpList P ops Q (o :: rest) a w :=
  wpList_plain hgd fun _ hK => ow_slice_lo x e t lo ho b j n c hx hu h1 h2 h3 hi (hK _ _ h)
end
/-- a field's address in a Digest -/
theorem ow_field33 {Q : Exit → Act → World → Prop} {o : Oper} {a : Act} {w : World} {K : Act → World → Prop} (x : Operand) (f k : Nat) (ho : o.op = .fieldAddr 33 x f) (hk : (f = 0 ∧ k = 0) ∨ (f = 1 ∧ k = 8) ∨ (f = 2 ∧ k = 9) ∨ (f = 3 ∧ k = 10)) (g : Nat) (hx : a.eval x = .pointer (some ⟨g, 0, none⟩))
    (h : K (a.put o.dst (.pointer (some ⟨g, k, none⟩))) w) : o.wp Try.prog a w K Q := by
  refine ow_value (v := .pointer (some ⟨g, k, none⟩)) ?_ h
  unfold execOp
  simp only [ho, hx]
  rcases hk with ⟨rfl, rfl⟩ | ⟨rfl, rfl⟩ | ⟨rfl, rfl⟩ | ⟨rfl, rfl⟩ <;> kernel_rfl

/-! ### what is written -/
theorem writeL_stop (f : Nat) (h : List Nat) (n : Nat) (r : List UInt8) (hr : r.length ≤ 64) : writeL f h n r = (h, n, r) := by
  cases f with
  | zero => rfl
  | succ f => simp [writeL, hr]
theorem writeL_more : ∀ (f : Nat) (h : List Nat) (n : Nat) (r : List UInt8), r.length ≤ f → writeL f h n r = writeL r.length h n r := by
  intro f
  induction f using Nat.strongRecOn with
  | _ f ih =>
    intro h n r hr
    by_cases h64 : r.length ≤ 64
    · rw [writeL_stop _ _ _ _ h64, writeL_stop _ _ _ _ h64]
    · obtain ⟨k, hk⟩ : ∃ k, r.length = k + 1 := ⟨r.length - 1, by omega⟩
      obtain ⟨f', rfl⟩ : ∃ f', f = f' + 1 := ⟨f - 1, by omega⟩
      rw [hk]
      simp only [writeL, if_neg h64]
      have hl : (r.drop 64).length = r.length - 64 := by simp
      rw [ih f' (by omega) _ _ (r.drop 64) (by omega), ih k (by omega) _ _ (r.drop 64) (by omega)]
theorem writeL_step (h : List Nat) (n : Nat) (r : List UInt8) (h64 : 64 < r.length) : writeL r.length h n r = writeL (r.drop 64).length (mixF h (wordsF (r.take 64)) ((n + 64) % 18446744073709551616) false) ((n + 64) % 18446744073709551616) (r.drop 64) := by
  obtain ⟨k, hk⟩ : ∃ k, r.length = k + 1 := ⟨r.length - 1, by omega⟩
  have hl : (r.drop 64).length = r.length - 64 := by simp
  rw [hk]
  simp only [writeL, if_neg (show ¬ r.length ≤ 64 by omega)]
  exact writeL_more k _ _ _ (by omega)

/-- a Digest lies in block g, its bytes read as r -/
structure DgAt (g : Nat) (h : List Nat) (n : Nat) (size : Int) (sl : Value) (r : List UInt8) (W : World) : Prop where
  row : W.heap[g]? = some (.cells (dgV h sl n size) 33 (0, 0))
  data : SB W sl r
  wds : Wds 8 h
  nlt : n < 18446744073709551616
theorem DgAt.below {g : Nat} {h : List Nat} {n : Nat} {size : Int} {sl : Value} {r : List UInt8} {W W' : World} (H : DgAt g h n size sl r W) (hb : Below W.heap.size W W') : DgAt g h n size sl r W' := ⟨blk_below H.row hb, H.data.below hb, H.wds, H.nlt⟩
/-- bytes are read as before where one Digest's block alone is turned -/
theorem SB.grown33 {g : Nat} {W W' : World} {cs : Array Value} {v : Value} {r : List UInt8} (H : SB W v r) (hg : W.heap[g]? = some (.cells cs 33 (0, 0))) (hno : ∀ (i : Nat) (x : Int), cs[i]? ≠ some (Value.int .u8 x)) (hgr : W.grownBy W' (some g)) : SB W' v r := by
  obtain ⟨A, c, rfl, h1, h2, h3⟩ := H
  refine ⟨A, c, rfl, h1, h2, h3.imp id ?_⟩
  rintro ⟨b, o, rfl, hc⟩
  refine ⟨b, o, rfl, fun i hi => ?_⟩
  have h0 := hc i hi
  have hne : b ≠ g := by
    rintro rfl
    rw [cell_of_row W b _ _ _ _ hg] at h0
    exact hno _ _ h0
  have hlt := cell_lt h0
  have hgb : W.heap[b]? = some W.heap[b] := by simp [hlt]
  have h4 := blk_grown hgb hgr (fun e => by injection e with e; exact hne e)
  have : W'.cell? ⟨b, o + i, none⟩ = W.cell? ⟨b, o + i, none⟩ := by simp [World.cell?, hgb, h4]
  rw [this]
  exact h0
theorem dgV_nobyte {h : List Nat} {A : Option Addr} {m c : Nat} (n : Nat) (size : Int) : ∀ (i : Nat) (x : Int), (dgV h (.slice A m c) n size)[i]? ≠ some (Value.int .u8 x) := by
  intro i x e
  have hm := List.mem_of_getElem? (by simpa [dgV] using e : (wordsV h ++ [Value.slice A m c, .int .u64 (n : Int), .int .i64 size])[i]? = some (Value.int .u8 x))
  rcases List.mem_append.1 hm with h1 | h1
  · obtain ⟨y, _, hy⟩ := List.mem_map.1 h1
    injection hy with hy
    cases hy
  · simp only [List.mem_cons, List.not_mem_nil, or_false] at h1
    rcases h1 with h1 | h1 | h1
    · cases h1
    · injection h1 with h1; cases h1
    · injection h1 with h1; cases h1
end Go.Proofs.Ytnemclbeofiakaa
