/-
  frame.records and frame.All.
-/
import Derived.Test.YtlhdnloimgckgaaWi
namespace Go.Proofs.Ytlhdnloimgckgaa
open Go.RowKit Go.Shelf
attribute [local go_sem] Oper.semAt_some

theorem records_any (A : Option Addr) (n c : Nat) (w : World) :
    Calls Try.prog 22 #[.slice A n c] w fun e w' => e = .returned (.func (.func 29) #[] #[.pointer (some ⟨w.heap.size, 0, none⟩)]) ∧ w' = w.alloc (.cells #[.slice A n c] 25) := by
  go_enter Try.func22, Try.ntmps22
  go_wp2
  go_ret
  exact ⟨rfl, rfl⟩

/-- a slice of slices of bytes, all of its own: it and each of them lie at or beyond B -/
def OutAt (B : Nat) (w : World) (v : Value) (L : List (List UInt8)) : Prop :=
  ∃ vs : List Value, vs.length = L.length ∧ w.ownsRow B 25 1 v L.length vs ∧ (∀ (i : Nat) (u : Value) (p : List UInt8), vs[i]? = some u → L[i]? = some p → w.ownsRow B 5 1 u p.length (bytesV p)) ∧ ∀ (i j : Nat) (u v : Value) (g : Nat), vs[i]? = some u → vs[j]? = some v → u.ownBlock = some g → v.ownBlock = some g → i = j
theorem own_move {A W : World} {B : Nat} {e : TypeId} {n : Nat} {v : Value} {xs : List Value} (h : A.ownsRow B e 1 v n xs) (hk : ∀ k cs, B ≤ k → A.heap[k]? = some (.cells cs e (0, 0)) → W.heap[k]? = some (.cells cs e (0, 0))) : W.ownsRow B e 1 v n xs := by
  refine ⟨h.1, h.2.imp id ?_⟩
  rintro ⟨g, cap, cur, h1, h2, h3, h4⟩
  exact ⟨g, cap, cur, h1, h2, hk g cur h2 h3, h4⟩
theorem OutAt.move {A W : World} {B : Nat} {v : Value} {L : List (List UInt8)} (h : OutAt B A v L) (hk : ∀ k cs t, (t = 25 ∨ t = 5) → B ≤ k → A.heap[k]? = some (.cells cs t (0, 0)) → W.heap[k]? = some (.cells cs t (0, 0))) : OutAt B W v L := by
  obtain ⟨vs, h1, h2, h3, h4⟩ := h
  exact ⟨vs, h1, own_move h2 (fun k cs => hk k cs 25 (.inl rfl)), fun i u p hu hp => own_move (h3 i u p hu hp) (fun k cs => hk k cs 5 (.inr rfl)), h4⟩
theorem OutAt.base_le {w : World} {B B' : Nat} {v : Value} {L : List (List UInt8)} (h : OutAt B w v L) (hb : B' ≤ B) : OutAt B' w v L := by
  obtain ⟨vs, h1, h2, h3, h4⟩ := h
  exact ⟨vs, h1, h2.base_le hb, fun i u p hu hp => (h3 i u p hu hp).base_le hb, h4⟩
theorem OutAt.sbb {w : World} {B : Nat} {v : Value} {L : List (List UInt8)} (h : OutAt B w v L) (hL : L.length ≤ 140737488355328) (hp : ∀ p ∈ L, p.length ≤ 140737488355328) : SBB w v L := by
  obtain ⟨vs, h1, h2, h3, -⟩ := h
  rcases h2.2 with ⟨rfl, h0⟩ | ⟨g, cap, cur, rfl, _, hg, hcap, _, hsz, htk⟩
  · have : L = [] := List.eq_nil_of_length_eq_zero h0
    subst this
    exact ⟨_, _, rfl, by simp, by simp, .inl rfl⟩
  · refine ⟨_, _, rfl, hcap, hL, .inr ⟨g, 0, rfl, fun i hi => ?_⟩⟩
    have hlt : i < vs.length := by omega
    refine ⟨vs[i], ?_, SB_of_own (h3 i vs[i] L[i] (by simp [hlt]) (by simp [hi])) (hp _ (List.getElem_mem hi))⟩
    rw [Nat.zero_add, cell_of_row w g i _ _ _ hg]
    have hci : i < cur.size := by omega
    have h5 : vs[i]? = cur.toList[i]? := by rw [← htk, List.getElem?_take_of_lt (by omega)]
    have h6 : vs[i]? = some vs[i] := by simp [hlt]
    rw [← h6, h5]
    simp

theorem alloc_new_at {w : World} {n : Nat} (h : w.heap.size = n) (o : Obj) : (w.alloc o).heap[n]? = some o := by subst h; exact World.alloc_heap_new w o
theorem run_build1 (u : Value) (hu : u.oneCell' = true) (w : World) : (Instr.buildSlice 22 1 #[(0, u)]).run Try.prog w = .ok (.slice (some ⟨w.heap.size, 0, none⟩) 1 1) (w.alloc (.cells #[u] 25)) := by
  cases u <;> first | (simp [Value.oneCell'] at hu; done) | kernel_rfl
theorem ow_build1 {Q : Exit → Act → World → Prop} {o : Oper} {a : Act} {w : World} {K : Act → World → Prop} (x : Operand) (ho : o.op = .buildSlice 22 1 #[(0, x)]) {u : Value} (hx : a.eval x = u) (hu : u.oneCell' = true)
    (h : K (a.put o.dst (.slice (some ⟨w.heap.size, 0, none⟩) 1 1)) (w.alloc (.cells #[u] 25))) : o.wp Try.prog a w K Q := by
  refine ow_value' ?_ h
  unfold execOp
  simp only [ho, List.map_toArray, List.map_cons, List.map_nil, hx, Sem.run_bind, Sem.run_pure, run_build1 u hu, Result.andThen_ok]
theorem own_one {w : World} {B : Nat} {e : TypeId} {n : Nat} {v : Value} {xs : List Value} (h : w.ownsRow B e 1 v n xs) : v.oneCell' = true := by
  rcases h.2 with ⟨rfl, _⟩ | ⟨g, cap, cur, rfl, _⟩ <;> rfl
theorem ow_store1 {P : Program} {Q : Exit → Act → World → Prop} {o : Oper} {a : Act} {w : World} {K : Act → World → Prop} (ty : TypeId) (x y : Operand) (ho : o.op = .store ty x y) (g : Nat) (hx : a.eval x = .pointer (some ⟨g, 0, none⟩)) (t : TypeId) (c0 v : Value) (hy : a.eval y = v) (hv : v.oneCell' = true)
    (hg : w.heap[g]? = some (.cells #[c0] t (0, 0))) (hi : (P.info? ty).map (·.size) = some 1)
    (h : ∀ w', w'.heap[g]? = some (.cells #[v] t (0, 0)) → w'.heap.size = w.heap.size → w.grownBy w' (some g) → K (a.put o.dst undef) w') : o.wp P a w K Q := by
  have hc : w.cell? ⟨g, 0, none⟩ = some c0 := cell_of_row w g 0 _ _ _ hg
  have hf : w.frozen? ⟨g, 0, none⟩ = false := frozen_of_row w g 0 _ _ hg
  have hcs : v.cells = #[v] := by cases v <;> first | (simp [Value.oneCell'] at hv; done) | rfl
  obtain ⟨i, hi1, hi2⟩ := Option.map_eq_some_iff.1 hi
  have hr : (execOp a.eval o).run P w = .ok .skip (w.setCell ⟨g, 0, none⟩ v) := by
    unfold execOp
    simp only [ho, hx, hy, Instr.storeAt, Instr.sureAddr, Sem.run_bind, Sem.run_pure, Result.andThen_ok, storeVar, sizeOf, typeInfo, hcs]
    simp [Sem.run_bind, hi1, hi2, storeCells, run_store P w _ v .plain hv, add_plain, hc, hf]
  unfold Oper.wp
  rw [hr]
  exact h _ (blk_setCell hg v) (by simp) (grown_setCell (grown_refl w (some g)) 0 v)
theorem ow_load1 {P : Program} {Q : Exit → Act → World → Prop} {o : Oper} {a : Act} {w : World} {K : Act → World → Prop} (x : Operand) (e : TypeId) (t : TypeId) (ho : o.op = .load t x) (g : Nat) (hx : a.eval x = .pointer (some ⟨g, 0, none⟩)) (v : Value) (t' : TypeId) (hg : w.heap[g]? = some (.cells #[v] t' (0, 0)))
    (hu : P.underlying t = some (.slice e)) (h : K (a.put o.dst v) w) : o.wp P a w K Q := by
  have hc : w.cell? ⟨g, 0, none⟩ = some v := cell_of_row w g 0 _ _ _ hg
  refine ow_value (v := v) ?_ h
  unfold execOp
  simp only [ho, hx, Instr.loadAt, Instr.sureAddr, Sem.run_bind, Sem.run_pure, Result.andThen_ok]
  simp [go_sem, hc, hu, isAgg, underlying]
theorem OutAt.push {W : World} {B M : Nat} {v' u' : Value} {L : List (List UInt8)} {p : List UInt8} (vs : List Value) (hvs : vs.length = L.length) (hel : ∀ (i : Nat) (u : Value) (p : List UInt8), vs[i]? = some u → L[i]? = some p → W.ownsRow B 5 1 u p.length (bytesV p))
    (hdis : ∀ (i j : Nat) (u v : Value) (g : Nat), vs[i]? = some u → vs[j]? = some v → u.ownBlock = some g → v.ownBlock = some g → i = j) (hM : ∀ (i : Nat) (u : Value) (g : Nat), vs[i]? = some u → u.ownBlock = some g → g < M)
    (hrow : W.ownsRow B 25 1 v' (L.length + 1) (vs ++ [u'])) (hBM : B ≤ M) (hu : W.ownsRow M 5 1 u' p.length (bytesV p)) : OutAt B W v' (L ++ [p]) := by
  have hsplit : ∀ (i : Nat) (u : Value), (vs ++ [u'])[i]? = some u → (i < L.length ∧ vs[i]? = some u) ∨ (i = L.length ∧ u = u') := by
    intro i u h1
    by_cases hi : i < L.length
    · rw [List.getElem?_append_left (by omega)] at h1
      exact .inl ⟨hi, h1⟩
    · rw [List.getElem?_append_right (by omega)] at h1
      have h3 : i - L.length = 0 := by
        have := (List.getElem?_eq_some_iff.1 h1).1
        simp at this
        omega
      rw [hvs, h3] at h1
      simp at h1
      exact .inr ⟨by omega, h1.symm⟩
  have hnew : ∀ g, u'.ownBlock = some g → M ≤ g := by
    intro g hg
    rcases hu.2 with ⟨hv, _⟩ | ⟨g', cap, cur, hv, h2, _⟩
    · rw [hv] at hg; cases hg
    · rw [hv] at hg
      injection hg with hg
      subst hg
      exact h2
  refine ⟨vs ++ [u'], by simp [hvs], by simpa using hrow, fun i u q h1 h2 => ?_, fun i j u v g h1 h2 h3 h4 => ?_⟩
  · rcases hsplit i u h1 with ⟨hi, h⟩ | ⟨hi, rfl⟩
    · rw [List.getElem?_append_left (by omega)] at h2
      exact hel i u q h h2
    · rw [hi] at h2
      simp at h2
      subst h2
      exact hu.base_le hBM
  · rcases hsplit i u h1 with ⟨hi, h⟩ | ⟨hi, rfl⟩ <;> rcases hsplit j v h2 with ⟨hj, h'⟩ | ⟨hj, rfl⟩
    · exact hdis i j u v g h h' h3 h4
    · have := hM i u g h h3
      have := hnew g h4
      omega
    · have := hM j v g h' h4
      have := hnew g h3
      omega
    · omega
theorem results2 {P : Program} {fn : Func} {p0 p : Tmp} {ty : TypeId} (h : fn.results = #[.tmp p0, .cell p ty]) (tmps : Array Value) (w : World) (g : Nat) (t : TypeId) (cs : Array Value) (fr : Nat × Nat) (d : TypeDesc)
    (hp : tmps.getD p undef = .pointer (some ⟨g, 0, none⟩)) (hg : w.heap[g]? = some (.cells cs t fr))
    (hu : P.underlying ty = some d) (hd : (match d with | .struct _ | .array _ _ => true | _ => false) = true) (hi : (P.info? ty).map (·.size) = some cs.size) :
    (results fn tmps).run P w = .ok (.tuple #[tmps.getD p0 undef, .agg cs]) w := by
  have hp' : tmps[p]?.getD undef = .pointer (some ⟨g, 0, none⟩) := by simpa using hp
  simp [results, h, hp', asAddr, run_loadVar_row w g t ty cs fr d hg hu hd hi]
abbrev zeroT : Array Value := #[.int .i64 0, .int .i64 0, .int .u32 0]
/-- All, between two rounds: N: the heap's size at its start -/
structure AllAt (N : Nat) (w : World) (L : List (List UInt8)) (W : World) : Prop where
  res : W.heap[N]? = some (.cells zeroT 30 (0, 0))
  last : W.heap[N + 2]? = some (.cells (tvs (tailOf L)) 30 (0, 0))
  below : Below N w W
  out : ∃ v, W.heap[N + 1]? = some (.cells #[v] 22 (0, 0)) ∧ OutAt (N + 7) W v L

theorem below_touch {w A B : World} {N : Nat} {T : Nat → Obj → Prop} (h : Below N w A) (ht : Touch T A B) (hN : N ≤ w.heap.size) (hT : ∀ k o, T k o → N ≤ k) : Below N w B := by
  refine ⟨ht.os.trans h.os, ht.tape.trans h.tape, ht.output.trans h.output, Nat.le_trans h.size ht.size, fun i hi => ?_⟩
  have h1 := h.block i hi
  rw [← h1]
  have h3 : i < A.heap.size := by have := h.size; omega
  have h2 : A.heap[i]? = some A.heap[i] := by simp [h3]
  rw [h2]
  exact ht.same i _ h2 fun hh => by have := hT _ _ hh; omega
theorem AllAt.touch {N : Nat} {w A B : World} {L : List (List UInt8)} {T : Nat → Obj → Prop} (h : AllAt N w L A) (ht : Touch T A B) (hN : N ≤ w.heap.size) (hT : ∀ k o, T k o → N + 3 ≤ k ∧ k ≤ N + 6) : AllAt N w L B := by
  have hk : ∀ (k : Nat) (o : Obj), (k < N + 3 ∨ N + 7 ≤ k) → A.heap[k]? = some o → B.heap[k]? = some o := fun k o hk h0 => ht.same k o h0 fun hh => by have := hT k o hh; omega
  obtain ⟨v, h1, h2⟩ := h.out
  exact ⟨hk _ _ (.inl (by omega)) h.res, hk _ _ (.inl (by omega)) h.last, below_touch h.below ht hN (fun k o hh => by have := hT k o hh; omega), v, hk _ _ (.inl (by omega)) h1, h2.move fun k cs t _ hk' h0 => hk k _ (.inr hk') h0⟩

/-- All's region 6: what each value is good for; what each operation keeps; what waits -/
def EA (N M : Nat) (vout u : Value) (p : List UInt8) (L : List (List UInt8)) (T : Nat × Nat × Nat) : Nat → Value → World → Prop
  | 0, v, _ => v = vout
  | 1, v, _ => v = u
  | 2, v, W => W.ownsRow M 5 1 v p.length (bytesV p)
  | 3, v, W => ∃ g u', v = .slice (some ⟨g, 0, none⟩) 1 1 ∧ M ≤ g ∧ W.heap[g]? = some (.cells #[u'] 25 (0, 0)) ∧ W.ownsRow M 5 1 u' p.length (bytesV p)
  | 4, v, W => OutAt (N + 7) W v (L ++ [p])
  | 5, v, _ => v = .agg (tvs T)
  | 6, _, W => ∃ v', W.heap[N + 1]? = some (.cells #[v'] 22 (0, 0)) ∧ OutAt (N + 7) W v' (L ++ [p])
  | _, _, _ => True
def GA (N : Nat) (own : Option Nat) (k : Nat) (W W' : World) : Prop := ∀ (j : Nat) (o : Obj), (k = 4 → some j ≠ own) → (k = 6 → j ≠ N + 1) → W.heap[j]? = some o → W'.heap[j]? = some o
def PA (N : Nat) (vout : Value) (L : List (List UInt8)) (vs : List Value) : Nat → World → Prop
  | 0, W => W.heap[N + 1]? = some (.cells #[vout] 22 (0, 0))
  | 4, W => W.ownsRow (N + 7) 25 1 vout L.length vs
  | _, _ => True
def SA (N : Nat) (own : Option Nat) (A W : World) : Prop := Touch (fun k _ => k = N + 1 ∨ some k = own) A W ∧ ∃ v', W.heap[N + 1]? = some (.cells #[v'] 22 (0, 0))
theorem PA.keep {N : Nat} {vout : Value} {L : List (List UInt8)} {vs : List Value} {W W' : World} (hk : ∀ (j : Nat) (o : Obj), W.heap[j]? = some o → W'.heap[j]? = some o) (i : Nat) (h : PA N vout L vs i W) : PA N vout L vs i W' := by
  unfold PA at *
  split
  · exact hk _ _ h
  · exact own_move h (fun k cs _ h0 => hk _ _ h0)
  · trivial
theorem GA.keep {N : Nat} {own : Option Nat} {W W' : World} (hk : ∀ (j : Nat) (o : Obj), W.heap[j]? = some o → W'.heap[j]? = some o) (k : Nat) : GA N own k W W' := fun j o _ _ h => hk j o h
theorem SA.keep {N : Nat} {own : Option Nat} {A W W' : World} (h : SA N own A W) (hb : Below W.heap.size W W') : SA N own A W' := by
  obtain ⟨h1, v, h2⟩ := h
  refine ⟨⟨hb.os.trans h1.os, hb.tape.trans h1.tape, hb.output.trans h1.output, Nat.le_trans h1.size hb.size, fun k o hk hn => blk_below (h1.same k o hk hn) hb⟩, v, blk_below h2 hb⟩

set_option maxHeartbeats 1000000 in
theorem All_any (v : Value) (bs : List UInt8) (w : World) (hv : SB w v bs) (hsm : bs.length ≤ 1099511627776) :
    Calls Try.prog 13 #[v] w fun e w' => ∃ u, e = .returned (.tuple #[u, tv (tailOf (recs bs.length 0 bs))]) ∧ OutAt w.heap.size w' u (recs bs.length 0 bs) ∧ Below w.heap.size w w' := by
  obtain ⟨A, c, rfl, hv, hm⟩ := hv.shape
  have HV := Lib.hid hv
  clear hv
  refine callsIn_wide.1 (?_ : CallsIn Fence.wide 3 _ _ _ _ _)
  refine callsIn_of_wp_marks Try.func13 rfl (by simp [Fence.wide]) ?_ rfl
  simp only [Try.ntmps13, List.size_toArray, List.length_cons, List.length_nil, Nat.reduceAdd, Nat.reduceSub, Array.replicate_succ, Array.replicate_zero, List.push_toArray, List.append_toArray, List.nil_append, List.cons_append]
  gi_wp2_with (refine ⟨trivial, ?_⟩; gi_at_call 22; refine (callsIn_wide.2 (records_any _ _ _ _)).mono ?_; rintro e w' ⟨rfl, rfl⟩)
  obtain ⟨N, hN⟩ : ∃ N, w.heap.size = N := ⟨_, rfl⟩
  have e1 : N + 1 + 1 = N + 2 := rfl
  have e2 : N + 1 + 1 + 1 = N + 3 := rfl
  rw [hN, e2, e1]
  obtain ⟨W0, hW0⟩ : ∃ W0, W0 = ((((w.alloc (Obj.cells #[Value.int IntKind.i64 0, Value.int IntKind.i64 0, Value.int IntKind.u32 0] 30)).alloc (Obj.cells #[Value.slice none 0 0] 22)).alloc (Obj.cells #[Value.int IntKind.i64 0, Value.int IntKind.i64 0, Value.int IntKind.u32 0] 30)).alloc (Obj.cells #[Value.slice A bs.length c] 25)) := ⟨_, rfl⟩
  rw [← hW0]
  have hb0 : W0.heap[N]? = some (.cells zeroT 30 (0, 0)) := by rw [hW0]; exact blk_alloc (blk_alloc (blk_alloc (alloc_new_at hN _) _) _) _
  have hb1 : W0.heap[N + 1]? = some (.cells #[Value.slice none 0 0] 22 (0, 0)) := by rw [hW0]; exact blk_alloc (blk_alloc (alloc_new_at (by simp [hN]) _) _) _
  have hb2 : W0.heap[N + 2]? = some (.cells zeroT 30 (0, 0)) := by rw [hW0]; exact blk_alloc (alloc_new_at (by simp [hN]) _) _
  have hb3 : W0.heap[N + 3]? = some (.cells #[.slice A bs.length c] 25 (0, 0)) := by rw [hW0]; exact alloc_new_at (by simp [hN]) _
  have hsz : W0.heap.size = N + 4 := by rw [hW0]; simp [hN]
  have hbel : Below N w W0 := by rw [hW0, ← hN]; exact ((((Below.refl _ _).alloc (Nat.le_refl _) _).alloc (by simp) _).alloc (by simp; omega) _).alloc (by simp; omega) _
  have hvA : ∀ b o n c', (Value.slice A bs.length c) = .slice (some ⟨b, o, none⟩) n c' → 0 < n → b < N := by
    intro b o n c' e hpos
    injection e with e1 e2 e3
    obtain ⟨b2, o2, e4, hc⟩ := SB.at_ HV.out 0 (by omega)
    rw [e1] at e4
    injection e4 with e4; injection e4 with e4 e5
    have := cell_lt hc
    omega
  have hdat : SBK N W0 (.slice A bs.length c) bs := by
    exact ⟨HV.out.below (hN ▸ hbel), hvA⟩
  clear hW0
  refine wp_range_all (n := 3) (gf := 29) (lb := #[.pointer (some ⟨N + 3, 0, none⟩)]) rfl (enters_of Try.func29 (by kernel_rfl) rfl) (records1_iterates N (N + 3) A c bs W0 hb3 (by omega) hdat) (fun _ => rfl)
    (by rintro k o (h | ⟨h, _⟩) <;> omega) (fun A B C h1 h2 => h1.trans h2) (fun A B h => Kept.of_touch h (fun k o hk => by omega))
    (fun pre W => AllAt N w (pays pre) W) ?hI ?h0
    (fun x a' W => ∃ Bx, W0.heap.size + 2 ≤ Bx ∧ W.heap[Bx]? = some (.cells (tvs x.2.2) 30 (0, 0)) ∧ a' = { tmps := #[.slice A bs.length c, undef, .slice none 0 0, .pointer (some ⟨N, 0, none⟩), .pointer (some ⟨N + 1, 0, none⟩), .pointer (some ⟨N + 2, 0, none⟩), x.1, .pointer (some ⟨Bx, 0, none⟩), .slice A bs.length c, .func (.func 29) #[] #[.pointer (some ⟨N + 3, 0, none⟩)], x.1, tv x.2.2, undef, undef, undef, undef, undef, undef, undef, undef], defers := [] })
    ?hAx ?assign ?body ?done
  case hI =>
    intro pre A B h ht
    refine h.touch ht (by omega) ?_
    rintro k o ((h | ⟨h, _⟩) | h | h) <;> omega
  case h0 => exact ⟨hb0, hb2, hbel, _, hb1, [], rfl, World.ownsRow_nil _ _ _ _, by simp, by simp⟩
  case hAx =>
    rintro x a' A B ⟨Bx, h1, h2, h3⟩ ht
    exact ⟨Bx, h1, ht.same _ _ h2 (by omega), h3⟩
  case assign =>
    rintro l ⟨u, p, C, Z, S4⟩ W K hW hK
    simp only [enc, tv, tailV]
    gi_wp2
    exact hK _ _ (touch_alloc W _) ⟨W.heap.size, hW, World.alloc_heap_new _ _, rfl⟩
  case body =>
    rintro l pre ⟨u, p, T⟩ a' A1 hall hgood hsz1 hlim ⟨Bx, hBx, hbx, rfl⟩
    obtain ⟨vout, hv1, vs, hvs, hown, hel, hdis⟩ := hall.out
    have hpy : pays (pre ++ [((u, p, T) : Pay)]) = pays pre ++ [p] := pays_snoc _ _
    have hsbk : SBK N W0 u p := hgood.1 (u, p, T) (by simp)
    have hT : T = tailOf (pays pre ++ [p]) := by rw [← hpy]; exact hgood.2.1 pre (u, p, T) rfl
    have hlen := hgood.2.2
    rw [hpy] at hlen
    simp only [List.length_append, List.length_singleton, List.flatten_append, List.flatten_cons, List.flatten_nil, List.append_nil] at hlen
    have hnl : (pays pre).length = pre.length := by simp [pays]
    have hlowA : Low N W0 A1 := by
      intro k o hk h0
      have h1 := hbel.block k hk
      have h2 := hall.below.block k hk
      rw [h2, ← h1, h0]
    have hsbA : SBK N A1 u p := hsbk.kept hlowA
    obtain ⟨i0, hi0, hz0, hz1, hz2⟩ := info_parts info25
    obtain ⟨own, hOwn⟩ : ∃ o, o = vout.ownBlock := ⟨_, rfl⟩
    have hownlt : ∀ k, some k = own → N + 7 ≤ k ∧ k < A1.heap.size ∧ ∃ cs, A1.heap[k]? = some (.cells cs 25 (0, 0)) := by
      intro k hk
      rcases hown.2 with ⟨hv, _⟩ | ⟨g, cap, cur, hv, h2, h3, _⟩
      · rw [hOwn, hv] at hk; cases hk
      · rw [hOwn, hv] at hk
        injection hk with hk
        subst hk
        exact ⟨h2, blk_lt h3, cur, h3⟩
    obtain ⟨M, hM⟩ : ∃ M, A1.heap.size = M := ⟨_, rfl⟩
    gi_wp2
    refine region_ev_p_in 7 (EA N M vout u p (pays pre) T) (GA N own) (SA N own A1) (fun i _ W => PA N vout (pays pre) vs i W) ?hq (by kernel_rfl) (by kernel_rfl) (by kernel_rfl) ?hst ?h0 ?hp0 ?step ?fin
    case hq => exact fun a w h => absurd h.1 (by simp)
    case hst =>
      intro i k v W W' hki hnd hE hG
      match i, hE with
      | 0, h => exact h
      | 1, h => exact h
      | 2, h => exact own_move h (fun j cs hj h0 => hG j _ (fun _ e => by have := hownlt j e; omega) (fun _ e => by omega) h0)
      | 3, ⟨g, u', h1, h2, h3, h4⟩ =>
        refine ⟨g, u', h1, h2, hG g _ (fun _ e => by have := hownlt g e; omega) (fun _ e => by omega) h3, own_move h4 (fun j cs hj h0 => hG j _ (fun _ e => by have := hownlt j e; omega) (fun _ e => by omega) h0)⟩
      | 4, h => exact OutAt.move h (fun j cs t _ hj h0 => hG j _ (fun e => absurd e hki) (fun _ e => by omega) h0)
      | 5, h => exact h
      | 6, ⟨v', h1, h2⟩ =>
        have hk4 : k ≠ 4 := by
          rintro rfl
          exact absurd (hnd.symm.trans (by kernel_rfl)) Bool.false_ne_true
        exact ⟨v', hG _ _ (fun e => absurd e hk4) (fun e => absurd e hki) h1, OutAt.move h2 (fun j cs t _ hj h0 => hG j _ (fun e => absurd e hk4) (fun e => absurd e hki) h0)⟩
      | n + 7, _ => trivial
    case h0 => exact ⟨Touch.of_below (Below.refl _ _).drew, vout, hv1⟩
    case hp0 =>
      intro i hi
      match i with
      | 0 => exact hv1
      | 4 => exact hown
      | 1 | 2 | 3 | 5 | 6 => trivial
    case step =>
      intro i op hi ho a W hS hP hag hdep
      have hid : ∀ (j : Nat) (o : Obj), W.heap[j]? = some o → W.heap[j]? = some o := fun _ _ h => h
      have hMW : M ≤ W.heap.size := by have := hS.1.size; omega
      match i, hi, ho with
      | 0, _, rfl => exact ow_load1 _ 25 22 rfl (N + 1) (hag 4 rfl) vout 22 hP Try.underlying22 ⟨_, rfl, ⟨rfl, fun h => by cases h⟩, GA.keep hid _, hS, fun j _ _ _ h => h⟩
      | 1, _, rfl => exact ow_move _ rfl (hag 6 rfl) ⟨_, rfl, ⟨rfl, fun h => by cases h⟩, GA.keep hid _, hS, fun j _ _ _ h => h⟩
      | 2, _, rfl =>
        have h1 : a.eval (.tmp 13) = u := hdep 1 (by omega) (by kernel_rfl)
        have hlowW : Low N A1 W := fun k o hk h0 => hS.1.same k o h0 (by rintro (h | h); omega; have := hownlt k h; omega)
        refine ow_call Try.func23 (by kernel_rfl) rfl _ _ rfl (vs := #[u]) (by simp only [List.map_toArray, List.map_cons, List.map_nil, h1]) ?_
        refine (Clone_any u p W (hsbA.kept hlowW).1).mono ?_
        rintro e w' ⟨v', rfl, hown', hbb⟩
        exact ⟨_, rfl, _, rfl, ⟨hown'.base_le hMW, fun h => by cases h⟩, GA.keep (fun j o h => blk_below h hbb) _, hS.keep hbb, fun j _ _ _ h => PA.keep (fun j o h => blk_below h hbb) j h⟩
      | 3, _, rfl =>
        have h1 : W.ownsRow M 5 1 (a.eval (.tmp 14)) p.length (bytesV p) := hdep 2 (by omega) (by kernel_rfl)
        have hbb := below_alloc1 W (.cells #[a.eval (.tmp 14)] 25)
        exact ow_build1 _ rfl rfl (own_one h1) ⟨_, rfl, ⟨⟨_, _, rfl, hMW, heap_alloc_new W _, own_move h1 (fun j cs _ h0 => blk_below h0 hbb)⟩, fun h => by cases h⟩, GA.keep (fun j o h => blk_below h hbb) _, hS.keep hbb, fun j _ _ _ h => PA.keep (fun j o h => blk_below h hbb) j h⟩
      | 4, _, rfl =>
        have h0 : a.eval (.tmp 12) = vout := hdep 0 (by omega) (by kernel_rfl)
        obtain ⟨g, u', h1, h2, h3, h4⟩ : ∃ g u', a.eval (.tmp 15) = .slice (some ⟨g, 0, none⟩) 1 1 ∧ M ≤ g ∧ W.heap[g]? = some (.cells #[u'] 25 (0, 0)) ∧ W.ownsRow M 5 1 u' p.length (bytesV p) := hdep 3 (by omega) (by kernel_rfl)
        refine wp_append_src W _ _ 22 rfl (N + 7) 25 i0 (.slice none 0 0) 24 Try.underlying22 hi0 hz0 hz1 hz2 rfl vout (pays pre).length vs h0 hP (some ⟨g, 0, none⟩) 1 1 [u'] h1 rfl (by simp) ?_ ?_ ?_ ?_ (by omega) ?_
        · intro ad e j v hv
          injection e with e
          subst e
          have hj : j = 0 := by have := (List.getElem?_eq_some_iff.1 hv).1; simp at this; omega
          subst hj
          rw [add_plain, cell_of_row W g (0 + 0) _ _ _ h3]
          simpa using hv
        · intro v hv
          rw [List.mem_singleton.1 hv]
          exact own_one h4
        · unfold maxLen; omega
        · omega
        · intro v' w' hrow hg _
          have hkp : ∀ (j : Nat) (o : Obj), some j ≠ own → W.heap[j]? = some o → w'.heap[j]? = some o := fun j o hj h => blk_grown h hg (by rw [← hOwn]; exact hj)
          have hown4 : w'.ownsRow M 5 1 u' p.length (bytesV p) := own_move h4 (fun j cs hj h => hkp j _ (fun e => by have := hownlt j e; omega) h)
          have hel4 : ∀ (i : Nat) (u : Value) (p : List UInt8), vs[i]? = some u → (pays pre)[i]? = some p → w'.ownsRow (N + 7) 5 1 u p.length (bytesV p) := by
            intro i u p hu hp
            refine own_move (hel i u p hu hp) (fun j cs hj h => ?_)
            have hne : some j ≠ own := by
              intro e
              obtain ⟨_, _, cs', h'⟩ := hownlt j e
              rw [h] at h'
              injection h' with h'
              injection h' with _ h'
              cases h'
            refine hkp j _ hne (hS.1.same j _ h ?_)
            rintro (e | e)
            · omega
            · exact hne e
          have helM : ∀ (i : Nat) (u : Value) (g : Nat), vs[i]? = some u → u.ownBlock = some g → g < M := by
            intro i u g hu hg
            have hi : i < (pays pre).length := by have := (List.getElem?_eq_some_iff.1 hu).1; omega
            have := (hel i u (pays pre)[i] hu (by simp [hi])).lt g hg
            omega
          have hN1 : some (N + 1) ≠ own := fun e => by have := hownlt _ e; omega
          obtain ⟨ht, v1, hv1'⟩ := hS
          refine ⟨_, rfl, ⟨OutAt.push vs hvs hel4 hdis helM hrow (by omega) hown4, fun h => by cases h⟩, fun j o h _ hh => hkp j o (h rfl) hh, ⟨⟨hg.os.trans ht.os, hg.tape.trans ht.tape, hg.output.trans ht.output, Nat.le_trans ht.size hg.size, fun j o hj hn => ?_⟩, v1, hkp _ _ hN1 hv1'⟩, ?_⟩
          · exact hkp j o (fun e => hn (.inr e)) (ht.same j o hj hn)
          · intro j hj hne hdp hPj
            match j, hj, hne with
            | 0, _, _ => exact absurd (hdp.symm.trans (by kernel_rfl)) Bool.false_ne_true
            | 1, _, _ => trivial
            | 2, _, _ => trivial
            | 3, _, _ => trivial
            | 5, _, _ => trivial
            | 6, _, _ => trivial
      | 5, _, rfl =>
        have hbW : W.heap[Bx]? = some (.cells (tvs T) 30 (0, 0)) := hS.1.same _ _ hbx (by
          rintro (e | e)
          · omega
          · obtain ⟨_, _, cs', h'⟩ := hownlt _ e
            rw [hbx] at h'
            injection h' with h'
            injection h' with _ h'
            cases h')
        exact ow_load_row 30 _ rfl Bx (hag 7 rfl) 30 _ (0, 0) _ hbW Try.underlying30 rfl (by kernel_rfl) ⟨_, rfl, ⟨rfl, fun h => by cases h⟩, GA.keep hid _, hS, fun j _ _ _ h => h⟩
      | 6, _, rfl =>
        have h1 : OutAt (N + 7) W (a.eval (.tmp 16)) (pays pre ++ [p]) := hdep 4 (by omega) (by kernel_rfl)
        obtain ⟨ht, v1, hv1'⟩ := hS
        have hone : (a.eval (.tmp 16)).oneCell' = true := by
          obtain ⟨_, _, h2, _, _⟩ := h1
          exact own_one h2
        refine ow_store1 22 _ _ rfl (N + 1) (hag 4 rfl) 22 v1 _ rfl hone hv1' (by kernel_rfl) ?_
        intro w' hb' hs' hg'
        have hkp : ∀ (j : Nat) (o : Obj), j ≠ N + 1 → W.heap[j]? = some o → w'.heap[j]? = some o := fun j o hj h => blk_grown h hg' (fun e => by injection e with e; exact hj e)
        have h2 : OutAt (N + 7) w' (a.eval (.tmp 16)) (pays pre ++ [p]) := h1.move (fun j cs t _ hj h => hkp j _ (by omega) h)
        refine ⟨undef, rfl, ⟨⟨_, hb', h2⟩, fun _ _ => ⟨_, hb', h2⟩⟩, fun j o _ h hh => hkp j o (h rfl) hh, ⟨⟨hg'.os.trans ht.os, hg'.tape.trans ht.tape, hg'.output.trans ht.output, Nat.le_trans ht.size hg'.size, fun j o hj hn => hkp j o (fun e => hn (.inl e)) (ht.same j o hj hn)⟩, _, hb'⟩, ?_⟩
        intro j hj hne hdp hPj
        match j, hj, hne with
        | 0, _, _ => exact absurd (hdp.symm.trans (by kernel_rfl)) Bool.false_ne_true
        | 1, _, _ => trivial
        | 2, _, _ => trivial
        | 3, _, _ => trivial
        | 4, _, _ => exact absurd (hdp.symm.trans (by kernel_rfl)) Bool.false_ne_true
        | 5, _, _ => trivial
        | 6, _, h => exact absurd rfl h
    case fin =>
      intro a W hS hsz hdf hag hf
      have h5 : a.eval (.tmp 5) = .pointer (some ⟨N + 2, 0, none⟩) := hag 5 rfl
      have h17 : a.eval (.tmp 17) = .agg (tvs T) := hf 5 (by omega)
      obtain ⟨v', hv', hout'⟩ : ∃ v', W.heap[N + 1]? = some (.cells #[v'] 22 (0, 0)) ∧ OutAt (N + 7) W v' (pays pre ++ [p]) := hf 6 (by omega)
      obtain ⟨ht, _⟩ := hS
      have hnot : ∀ (k : Nat) (cs : Array Value) (t : TypeId), t ≠ 25 → A1.heap[k]? = some (.cells cs t (0, 0)) → k ≠ N + 1 → ¬ (k = N + 1 ∨ some k = own) := by
        intro k cs t ht25 h hk hh
        rcases hh with hh | hh
        · exact hk hh
        · obtain ⟨_, _, cs', h'⟩ := hownlt k hh
          rw [h] at h'
          injection h' with h'
          injection h' with _ h'
          exact ht25 h'
      have hlast := ht.same _ _ hall.last (hnot _ _ _ (by decide) hall.last (by omega))
      have hres := ht.same _ _ hall.res (hnot _ _ _ (by decide) hall.res (by omega))
      simp only [List.drop_succ_cons, List.drop_zero]
      refine wpList_store_row rfl 30 _ _ rfl (N + 2) h5 30 _ _ h17 hlast rfl (by kernel_rfl) (by simp [tvs, Value.oneCell']) ?_
      intro w3 hT3 hS3 hG3
      have hkp : ∀ (j : Nat) (o : Obj), j ≠ N + 2 → W.heap[j]? = some o → w3.heap[j]? = some o := fun j o hj h => blk_grown h hG3 (fun e => by injection e with e; exact hj e)
      have htt : Touch (fun k _ => k = N + 1 ∨ k = N + 2 ∨ some k = own) A1 w3 := ⟨hG3.os.trans ht.os, hG3.tape.trans ht.tape, hG3.output.trans ht.output, Nat.le_trans ht.size hG3.size, fun j o hj hn => hkp j o (fun e => hn (.inr (.inl e))) (ht.same j o hj (fun h => hn (h.elim .inl (fun h => .inr (.inr h)))))⟩
      refine ⟨rfl, ⟨hkp _ _ (by omega) hres, ?_, below_touch hall.below htt (by omega) ?_, v', hkp _ _ (by omega) hv', ?_⟩, Kept.of_touch htt ?_, ?_⟩
      · rw [hpy, ← hT]; exact hT3
      · rintro k o (h | h | h)
        · omega
        · omega
        · have := hownlt k h; omega
      · rw [hpy]; exact hout'.move (fun j cs t _ hj h => hkp j _ (by omega) h)
      · rintro k o (h | h | h)
        · omega
        · omega
        · have := hownlt k h; omega
      · intro k o hk h0 hc
        refine htt.same k o h0 ?_
        rintro (h | h | h)
        · omega
        · omega
        · obtain ⟨_, _, cs', h'⟩ := hownlt k h
          rw [h0] at h'
          injection h' with h'
          subst h'
          cases hc
  case done =>
    rintro xs B hdn hall hK hsz2
    have hsz0 : W0.heap.size = N + 4 := hsz
    obtain ⟨v0, hv1, hv2⟩ := hall.out
    have hlast := hall.last
    gi_wp2
    refine wpIn_wide.2 (region_ev 3 (fun i v _ => match i with | 0 => v = v0 | 1 => v = .agg (tvs (tailOf (pays xs))) | 2 => v = v0 | _ => True) (fun W W' => W = W') (fun W => W = B.drew) (by kernel_rfl) (by kernel_rfl) (by kernel_rfl) ?hst2 ?h02 ?step2 ?fin2)
    case hst2 => rintro i v W W' hE rfl; exact hE
    case h02 => rfl
    case step2 =>
      rintro i op hi ho a W rfl hag hdep
      match i, hi, ho with
      | 0, _, rfl => exact ow_load1 _ 25 22 rfl (N + 1) (hag 4 rfl) v0 22 hv1 Try.underlying22 ⟨_, rfl, rfl, rfl, rfl⟩
      | 1, _, rfl => exact ow_load_row 30 _ rfl (N + 2) (hag 5 rfl) 30 _ (0, 0) _ hlast Try.underlying30 rfl (by kernel_rfl) ⟨_, rfl, rfl, rfl, rfl⟩
      | 2, _, rfl =>
        have h1 : a.eval (.tmp 18) = v0 := hdep 0 (by omega) (by kernel_rfl)
        exact ow_assign _ rfl h1 ⟨_, rfl, rfl, rfl, rfl⟩
    case fin2 =>
      rintro a W rfl hsz hdf hag hf
      obtain ⟨⟨tl⟩, ds⟩ := a
      match tl, hsz with
      | [x0, x1, x2, x3, x4, x5, x6, x7, x8, x9, x10, x11, x12, x13, x14, x15, x16, x17, x18, x19], _ =>
      obtain rfl : ds = [{ target := .collected (N + 4), args := #[] }] := hdf
      obtain rfl : x3 = .pointer (some ⟨N, 0, none⟩) := hag 3 rfl
      obtain rfl : x19 = .agg (tvs (tailOf (pays xs))) := hf 1 (by omega)
      have hx2 : x2 = v0 := hf 2 (by omega)
      subst hx2
      clear hag hf hsz
      have hK1 : B.drew.heap[N + 4]? = some (.deferred (some [])) := by rw [← hsz0]; exact hK
      have hbB := hall.below
      have HH := Lib.hid hv2
      change wpList Try.prog _ _ _ ⟨#[x0, x1, x2, .pointer (some ⟨N, 0, none⟩), x4, x5, x6, x7, x8, x9, x10, x11, x12, x13, x14, x15, x16, x17, x18, .agg (tvs (tailOf (pays xs)))], _⟩ B.drew
      simp only [List.drop_succ_cons, List.drop_zero]
      refine wpList_store_row rfl 30 _ _ rfl N rfl 30 _ _ rfl hall.res rfl (by kernel_rfl) (by simp [tvs, Value.oneCell']) ?_
      intro w3 hT3 hS3 hG3
      show Exit.then _ _ _ _ _
      simp only [Exit.then, Act.put]
      apply_assumption
      gi_wp2
      have hK3 : w3.heap[N + 4]? = some (.deferred (some [])) := blk_grown hK1 hG3 (fun e => by injection e with e; omega)
      refine ⟨by simp, .inl ⟨_, _, rfl, run_takeDeferred hK3, ?_⟩⟩
      have hT4 : (w3.putObj (N + 4) (.deferred none)).heap[N]? = some (.cells (tvs (tailOf (pays xs))) 30 (0, 0)) := (World.putObj_heap_other (by omega)).trans hT3
      refine ⟨_, results2 (P := Try.prog) (p0 := 2) (p := 3) (ty := 30) rfl _ _ N 30 _ (0, 0) _ rfl hT4 Try.underlying30 rfl (by kernel_rfl), x2, ?_, ?_, ?_⟩
      · rw [← hdn]; rfl
      · rw [← hdn]
        refine (HH.out.move (fun k cs t _ hk h0 => ?_)).base_le (by omega)
        rw [World.putObj_heap_other (by omega)]
        exact blk_grown (w := B.drew) h0 hG3 (fun e => by injection e with e; omega)
      · exact below_putObj (((hbB.drew).grown hG3 (by have := hbB.size; simp; omega) (fun k e => by injection e with e; omega))) (by omega) (by have := hbB.size; have := hG3.size; simp at this; omega) _
end Go.Proofs.Ytlhdnloimgckgaa
