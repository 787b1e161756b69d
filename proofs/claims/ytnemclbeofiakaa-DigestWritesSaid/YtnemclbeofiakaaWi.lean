/-
  digest.mix: the laws that it needs.
-/
import Derived.Test.YtnemclbeofiakaaWh
import Derived.Laws.CopyRow
import Derived.Deep.DeepCutAuto
namespace Go.Proofs.Ytnemclbeofiakaa
open Go.RowKit Bl

section
variable {P : Program} {Q : Exit → Act → World → Prop} {o : Oper} {a : Act} {w : World} {K : Act → World → Prop} {ops : Array Oper} {rest : List Oper}
theorem ow_copy (d s : Operand) (t t' : TypeId) (ho : o.op = .call { callee := .builtin .copy, args := #[d, s], argTypes := #[t, t'] }) (v u : Value) (hd : a.eval d = v) (hs : a.eval s = u) {v' : Value} {w' : World}
    (hr : (Builtin.copy_ #[t, t'] o.type #[v, u]).run P w = .ok v' w') (h : K (a.put o.dst v') w') : o.wp P a w K Q := by
  unfold Oper.wp execOp
  simp only [ho, resolve, invoke, builtin, Sem.run_bind, Sem.run_pure, Result.andThen_ok, List.map_toArray, List.map_cons, List.map_nil, hd, hs, hr]
  exact h
theorem wpList_copy (hgd : o.guard = none) (d s : Operand) (t t' : TypeId) (ho : o.op = .call { callee := .builtin .copy, args := #[d, s], argTypes := #[t, t'] }) (v u : Value) (hd : a.eval d = v) (hs : a.eval s = u) {v' : Value} {w' : World}
    (hr : (Builtin.copy_ #[t, t'] o.type #[v, u]).run P w = .ok v' w') (h : wpList P ops Q rest (a.put o.dst v') w') : wpList P ops Q (o :: rest) a w :=
  wpList_plain hgd fun _ hK => ow_copy d s t t' ho v u hd hs hr (hK _ _ h)
/-- an array sliced, from lo on -/
theorem ow_slice_arr_lo (x : Operand) (e : TypeId) (t : TypeId) (lo m : Nat) (ho : o.op = .slice t x (some (.const (.int .i64 (lo : Int)))) none none) (b : Nat) (hx : a.eval x = .pointer (some ⟨b, 0, none⟩))
    (hu : P.underlying t = some (.array m e)) (h1 : lo < m) (hi : (P.info? e).map (·.size) = some 1) (h : K (a.put o.dst (.slice (some ⟨b, lo, none⟩) (m - lo) (m - lo))) w) : o.wp P a w K Q := by
  refine ow_value (v := .slice (some ⟨b, lo, none⟩) (m - lo) (m - lo)) ?_ h
  obtain ⟨i, hi1, hi2⟩ := Option.map_eq_some_iff.1 hi
  unfold execOp
  simp only [ho, hx, Sem.run_bind, Option.map_some, Option.map_none]
  have h4 : ¬ m = lo := by omega
  have h5 : lo ≤ m := by omega
  simp [go_sem, hu, Act.eval, h4, h5, sizeOf, typeInfo, Sem.run_bind, hi1, hi2, add_plain]
theorem ow_slice_arr_hi (x : Operand) (e : TypeId) (t : TypeId) (k m : Nat) (ho : o.op = .slice t x none (some (.const (.int .i64 (k : Int)))) none) (b : Nat) (hx : a.eval x = .pointer (some ⟨b, 0, none⟩))
    (hu : P.underlying t = some (.array m e)) (h1 : k ≤ m) (h3 : 0 < m) (hi : (P.info? e).map (·.size) = some 1) (h : K (a.put o.dst (.slice (some ⟨b, 0, none⟩) k m)) w) : o.wp P a w K Q := by
  refine ow_value (v := .slice (some ⟨b, 0, none⟩) k m) ?_ h
  obtain ⟨i, hi1, hi2⟩ := Option.map_eq_some_iff.1 hi
  unfold execOp
  simp only [ho, hx, Sem.run_bind, Option.map_some, Option.map_none]
  have h4 : ¬ m = 0 := by omega
  simp [go_sem, hu, Act.eval, h1, h4, sizeOf, typeInfo, Sem.run_bind, hi1, hi2, add_plain]
theorem ow_slice_arr (x : Operand) (e : TypeId) (t : TypeId) (m : Nat) (ho : o.op = .slice t x none none none) (b : Nat) (hx : a.eval x = .pointer (some ⟨b, 0, none⟩))
    (hu : P.underlying t = some (.array m e)) (h3 : 0 < m) (hi : (P.info? e).map (·.size) = some 1) (h : K (a.put o.dst (.slice (some ⟨b, 0, none⟩) m m)) w) : o.wp P a w K Q := by
  refine ow_value (v := .slice (some ⟨b, 0, none⟩) m m) ?_ h
  obtain ⟨i, hi1, hi2⟩ := Option.map_eq_some_iff.1 hi
  unfold execOp
  simp only [ho, hx, Sem.run_bind, Option.map_none]
  have h4 : ¬ m = 0 := by omega
  simp [go_sem, hu, h4, sizeOf, typeInfo, Sem.run_bind, hi1, hi2, add_plain]
end

/-- words copied into a row of words -/
theorem copy_words (W : World) (g o b : Nat) (x y : List Nat) (t t' : TypeId) (n c c' : Nat) (dT ty elem : TypeId) (hu : Try.prog.underlying dT = some (.slice elem)) (hs : (Try.prog.info? elem).map (·.size) = some 1)
    (hg : W.heap[g]? = some (.cells (wordsV x).toArray t (0, 0))) (hb : W.heap[b]? = some (.cells (wordsV y).toArray t' (0, 0))) (hn : n = y.length) (hfit : o + n ≤ x.length) :
    ∃ W', (Builtin.copy_ #[dT, dT] ty #[.slice (some ⟨g, o, none⟩) n c, .slice (some ⟨b, 0, none⟩) n c']).run Try.prog W = .ok (goInt n) W' ∧
      W'.heap[g]? = some (.cells (wordsV (x.take o ++ y ++ x.drop (o + n))).toArray t (0, 0)) ∧ W.grownBy W' (some g) := by
  subst hn
  have hl : (wordsV y).length = y.length := by simp [wordsV]
  have h := run_copy_row (P := Try.prog) W dT dT ty elem g o y.length c ⟨b, 0, none⟩ y.length c' (wordsV x).toArray t (wordsV y) hu hs hg (by rw [hl]; exact (Nat.min_self _).symm)
    (fun j v hj => by
      rw [add_plain, Nat.zero_add, cell_of_row W b j _ _ _ hb]
      simpa using hj) (by rw [hl, wordsV_size]; exact hfit) (fun v hv => wordsV_one y v (by simpa using hv))
  refine ⟨_, h.trans (by rw [hl]), ?_, ?_⟩
  · rw [setRow_heap W g _ _ t (0, 0) hg]
    simp [wordsV]
  · exact ⟨rfl, rfl, rfl, by simp, fun k _ hk => setRow_other W g k _ (fun e => hk (by rw [e]))⟩

def marks (Ds : List Nat) : List Deferred := Ds.map fun D => { target := .collected D, args := #[] }
/-- mix's memory: N the copy of h, S the first words, S + 1 the block's, G those that are stirred; the marks that the ranges have left -/
structure MixAt (N S G : Nat) (w : World) (h m : List Nat) (Ds : List Nat) (x : List Nat) (W : World) : Prop where
  hb : W.heap[N]? = some (.cells (wordsV h).toArray 23 (0, 0))
  res : W.heap[N + 1]? = some (.cells (wordsV (List.replicate 8 0)).toArray 23 (0, 0))
  first : W.heap[S]? = some (.cells (wordsV iv).toArray 23 (0, 0))
  mb : W.heap[S + 1]? = some (.cells (wordsV m).toArray 57 (0, 0))
  v : RowAt W G x
  below : Below N w W
  lt : N + 2 ≤ S
  eq : G = S + 2
  mks : ∀ D ∈ Ds, N ≤ D ∧ W.heap[D]? = some (.deferred (some []))
theorem MixAt.to {N S G : Nat} {w W W' : World} {h m x x' : List Nat} {Ds : List Nat} (H : MixAt N S G w h m Ds x W) (hg : W.grownBy W' (some G)) (hv : RowAt W' G x') : MixAt N S G w h m Ds x' W' := by
  have hl := H.lt
  have he := H.eq
  have hlt := blk_lt H.mb
  exact ⟨blk_grown H.hb hg (fun e => by injection e with e; omega), blk_grown H.res hg (fun e => by injection e with e; omega), blk_grown H.first hg (fun e => by injection e with e; omega), blk_grown H.mb hg (fun e => by injection e with e; omega), hv,
    H.below.grown hg (by omega) (fun k e => by injection e with e; omega), hl, he, fun D hD => ⟨(H.mks D hD).1, blk_grown (H.mks D hD).2 hg (fun e => by
      injection e with e
      have h1 := (H.mks D hD).2
      rw [e, H.v] at h1
      injection h1 with h1
      cases h1)⟩⟩
theorem MixAt.keep {N S G : Nat} {w W W' : World} {h m x : List Nat} {Ds : List Nat} (H : MixAt N S G w h m Ds x W) (hb : Below W.heap.size W W') : MixAt N S G w h m Ds x W' :=
  H.to (grown_of_below hb _) (blk_below H.v hb)
theorem MixAt.set {N S G : Nat} {w W : World} {h m x : List Nat} {Ds : List Nat} (H : MixAt N S G w h m Ds x W) (i y : Nat) : MixAt N S G w h m Ds (x.set i y) (W.setCell ⟨G, i, none⟩ (.int .u32 (y : Int))) :=
  H.to (grown_setCell (grown_refl _ _) _ _) (H.v.set i y)

theorem init_sets (h : List Nat) (n : Nat) (h8 : h.length = 8) :
    init h n false = (((h ++ iv).set 12 ((h ++ iv).getD 12 0 ^^^ n % M)).set 13 (((h ++ iv).set 12 ((h ++ iv).getD 12 0 ^^^ n % M)).getD 13 0 ^^^ n / M % M)) ∧
    init h n true = (((h ++ iv).set 12 ((h ++ iv).getD 12 0 ^^^ n % M)).set 13 (((h ++ iv).set 12 ((h ++ iv).getD 12 0 ^^^ n % M)).getD 13 0 ^^^ n / M % M)).set 14 ((((h ++ iv).set 12 ((h ++ iv).getD 12 0 ^^^ n % M)).set 13 (((h ++ iv).set 12 ((h ++ iv).getD 12 0 ^^^ n % M)).getD 13 0 ^^^ n / M % M)).getD 14 0 ^^^ 4294967295) := by
  unfold init
  generalize n / M % M = p
  generalize n % M = q
  match h, h8 with
  | [z0, z1, z2, z3, z4, z5, z6, z7], _ =>
    constructor
    · simp [iv, List.getD]
    · simp [iv, List.getD]
theorem not32 (a : Nat) (ha : a < M) : bits BinOp.xor IntKind.u32 IntKind.u32.max (a : Int) = ((a ^^^ 4294967295 : Nat) : Int) := by
  rw [Nat.xor_comm, ← u32_xor_nat 4294967295 a (by decide) ha]
  rfl
theorem tag22 : ((Try.prog.info? 22).map (·.size)) = some 1 := by kernel_rfl
theorem below_touch {w A B : World} {N : Nat} {T : Nat → Obj → Prop} (h : Below N w A) (ht : Touch T A B) (hN : N ≤ w.heap.size) (hT : ∀ k o, T k o → N ≤ k) : Below N w B := by
  refine ⟨ht.os.trans h.os, ht.tape.trans h.tape, ht.output.trans h.output, Nat.le_trans h.size ht.size, fun i hi => ?_⟩
  have h1 := h.block i hi
  rw [← h1]
  have h3 : i < A.heap.size := by have := h.size; omega
  have h2 : A.heap[i]? = some A.heap[i] := by simp [h3]
  rw [h2]
  exact ht.same i _ h2 fun hh => by have := hT _ _ hh; omega
theorem MixAt.touch {N S G B0 : Nat} {w W W' : World} {h m x : List Nat} {Ds : List Nat} {T : Nat → Obj → Prop} (H : MixAt N S G w h m Ds x W) (ht : Touch T W W') (hT : ∀ k o, T k o → B0 ≤ k) (hG : G < B0) (hD : ∀ D ∈ Ds, D < B0) (hw : N ≤ w.heap.size) : MixAt N S G w h m Ds x W' := by
  have hl := H.lt
  have he := H.eq
  have hk : ∀ k o, k < B0 → W.heap[k]? = some o → W'.heap[k]? = some o := fun k o hk h0 => ht.same k o h0 fun h => by have := hT k o h; omega
  refine ⟨hk _ _ (by omega) H.hb, hk _ _ (by omega) H.res, hk _ _ (by omega) H.first, hk _ _ (by omega) H.mb, hk _ _ hG H.v, ?_, hl, he, fun D hd => ⟨(H.mks D hd).1, hk _ _ (hD D hd) (H.mks D hd).2⟩⟩
  exact below_touch H.below ht hw (fun k o h => by have := hT k o h; omega)
theorem quads_any (w : World) : Calls Try.prog 28 #[] w fun e w' => e = .returned (.func (.func 33) #[] #[]) ∧ w' = w := by
  go_enter Try.func28, Try.ntmps28
  go_wp2
  go_ret
  exact ⟨rfl, rfl⟩
theorem idx_ord (k : Nat) (hk : k < 10) (w : World) : (Instr.index 60 (.agg ordV) (.int .i64 (k : Int))).run Try.prog w = .ok (.string ⟨((ordS k).map UInt8.ofNat).toArray⟩) w := by
  rcases (show k = 0 ∨ k = 1 ∨ k = 2 ∨ k = 3 ∨ k = 4 ∨ k = 5 ∨ k = 6 ∨ k = 7 ∨ k = 8 ∨ k = 9 by omega) with rfl | rfl | rfl | rfl | rfl | rfl | rfl | rfl | rfl | rfl <;> kernel_rfl
theorem ord_ok : ∀ r, r < 10 → ∀ j, j < 16 → (ordS r).length = 16 ∧ 48 ≤ (ordS r).getD j 0 ∧ (ordS r).getD j 0 < 128 ∧ letter ((ordS r).getD j 0) = sg r j ∧ sg r j < 16 := by
  decide +kernel
theorem idx_str (r j : Nat) (hr : r < 10) (hj : j < 16) (w : World) : (Instr.index 9 (.string ⟨((ordS r).map UInt8.ofNat).toArray⟩) (.int .i64 (j : Int))).run Try.prog w = .ok (.int .u8 (((ordS r).getD j 0 : Nat) : Int)) w := by
  obtain ⟨h1, h2, h3, _⟩ := ord_ok r hr j hj
  rw [run_index_string w 9 _ .i64 _ Try.underlying9]
  have hs : (⟨((ordS r).map UInt8.ofNat).toArray⟩ : ByteArray).size = 16 := by show ((ordS r).map UInt8.ofNat).toArray.size = 16; simp [h1]
  rw [dif_pos (by rw [hs]; omega)]
  congr 2
  have e : ∀ hh, ((⟨((ordS r).map UInt8.ofNat).toArray⟩ : ByteArray)[j]'hh).toNat = (ordS r).getD j 0 := by
    intro hh
    show ((((ordS r).map UInt8.ofNat).toArray)[j]'hh).toNat = _
    have hl : j < (ordS r).length := by omega
    simp only [List.getElem_toArray, List.getElem_map, List.getD_eq_getElem?_getD, List.getElem?_eq_getElem hl, Option.getD_some] at h2 h3 ⊢
    simp
    omega
  exact congrArg Int.ofNat (e _)
section
variable {P : Program} {Q : Exit → Act → World → Prop} {o : Oper} {a : Act} {w : World} {K : Act → World → Prop}
theorem ow_index_run (x y : Operand) (t : TypeId) (ho : o.op = .index t x y) {u k v : Value} (hx : a.eval x = u) (hy : a.eval y = k) (hr : (Instr.index t u k).run P w = .ok v w) (h : K (a.put o.dst v) w) : o.wp P a w K Q := by
  refine ow_value (v := v) ?_ h
  unfold execOp
  simp only [ho, hx, hy, Sem.run_bind, hr, Result.andThen_ok]
  rfl
theorem ow_load_str (x : Operand) (t : TypeId) (ho : o.op = .load t x) (g i : Nat) (hx : a.eval x = .pointer (some ⟨g, i, none⟩)) (s : ByteArray) (hc : w.cell? ⟨g, i, none⟩ = some (.string s))
    (hu : P.underlying t = some .string) (h : K (a.put o.dst (.string s)) w) : o.wp P a w K Q := by
  refine ow_value (v := .string s) ?_ h
  unfold execOp
  simp only [ho, hx, Instr.loadAt, Instr.sureAddr, Sem.run_bind, Sem.run_pure, Result.andThen_ok]
  simp [go_sem, hc, hu, isAgg, underlying]
end
theorem range_snoc {pre : List Nat} {x k : Nat} (h : pre ++ [x] = List.range k) (hk : k ≤ 8) : x = pre.length ∧ x < 8 := by
  have h1 := congrArg List.length h
  simp at h1
  rw [← h1, List.range_succ] at h
  obtain ⟨_, h3⟩ := List.append_inj' h rfl
  injection h3 with h3
  omega
end Go.Proofs.Ytnemclbeofiakaa
