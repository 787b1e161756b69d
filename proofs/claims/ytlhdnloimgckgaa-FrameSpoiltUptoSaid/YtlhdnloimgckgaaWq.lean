/-
  Words for FrameGoesOn, FrameRow: laws of single operations, a row of slices that were there before, Put's two ways in one.
-/
import Derived.Test.YtlhdnloimgckgaaWo
import Derived.Test.YtlhdnloimgckgaaLaws
namespace Go.Proofs.Ytlhdnloimgckgaa
open Go.RowKit Go.Shelf

section
variable {P : Program} {Q : Exit → Act → World → Prop} {o : Oper} {a : Act} {w : World} {K : Act → World → Prop}
theorem ow_extract (x : Operand) (i : Nat) (ho : o.op = .extract x i) {vs : Array Value} (hx : a.eval x = .tuple vs) {v : Value} (hv : vs[i]? = some v) (h : K (a.put o.dst v) w) : o.wp P a w K Q := by
  refine ow_value (v := v) ?_ h
  unfold execOp
  simp only [ho, hx]
  simp [go_sem, hv]
theorem ow_index (x y : Operand) (e t : TypeId) (ho : o.op = .indexAddr t x y) (b j n c k : Nat) (hx : a.eval x = .slice (some ⟨b, j, none⟩) n c) (hy : a.eval y = .int .i64 (k : Int)) (hk : k < n)
    (hu : P.underlying t = some (.slice e)) (hi : (P.info? e).map (·.size) = some 1) (h : K (a.put o.dst (.pointer (some ⟨b, j + k, none⟩))) w) : o.wp P a w K Q := by
  refine ow_value (v := .pointer (some ⟨b, j + k, none⟩)) ?_ h
  obtain ⟨i, hi1, hi2⟩ := Option.map_eq_some_iff.1 hi
  unfold execOp
  simp only [ho, hx, hy]
  simp [go_sem, hu, hk, sizeOf, typeInfo, Sem.run_bind, hi1, hi2, add_plain]
theorem ow_load_slice' (x : Operand) (e : TypeId) (t : TypeId) (ho : o.op = .load t x) (g i : Nat) (hx : a.eval x = .pointer (some ⟨g, i, none⟩)) (A : Option Addr) (n c : Nat) (hg : w.cell? ⟨g, i, none⟩ = some (.slice A n c))
    (hu : P.underlying t = some (.slice e)) (h : K (a.put o.dst (.slice A n c)) w) : o.wp P a w K Q := by
  refine ow_value (v := .slice A n c) ?_ h
  unfold execOp
  simp only [ho, hx, Instr.loadAt, Instr.sureAddr, Sem.run_bind, Sem.run_pure, Result.andThen_ok]
  simp [go_sem, hg, hu, isAgg, underlying]
theorem ow_alloc_row (e : TypeId) (ho : o.op = .alloc e) (z : Value) (hz : (zeroValue e).run P w = .ok z w)
    (h : ∀ w', w'.heap[w.heap.size]? = some (.cells z.cells e (0, 0)) → Below w.heap.size w w' → K (a.put o.dst (.pointer (some ⟨w.heap.size, 0, none⟩))) w') : o.wp P a w K Q := by
  have hr : (execOp a.eval o).run P w = .ok (.value (.pointer (some ⟨w.heap.size, 0, none⟩))) (w.alloc (.cells z.cells e)) := by
    unfold execOp
    simp only [ho]
    simp [Instr.alloc, hz, newVar, newRow, newObj, Sem.run_bind]
    rfl
  unfold Oper.wp
  rw [hr]
  exact h _ (heap_alloc_new w _) (below_alloc1 w _)
end

/-- the values of a slice of slices -/
theorem SBB.vals {w : World} {A : Option Addr} {c : Nat} {L : List (List UInt8)} (h : SBB w (.slice A L.length c) L) :
    ∃ vs : List Value, vs.length = L.length ∧ (A = none → L.length = 0) ∧ (∀ ad, A = some ad → ∀ (j : Nat) u, vs[j]? = some u → w.cell? (ad.add j) = some u) ∧ (∀ (i : Nat) u p, vs[i]? = some u → L[i]? = some p → SB w u p) ∧ ∀ u ∈ vs, u.oneCell' = true := by
  obtain ⟨A', c', e, h1, h2, h3⟩ := h
  injection e with e1 e2 e3
  subst e1
  rcases h3 with rfl | ⟨b, o, rfl, hc⟩
  · exact ⟨[], rfl, fun _ => rfl, fun _ _ j u h => by simp at h, fun i u p h => by simp at h, fun u h => by simp at h⟩
  · refine ⟨List.ofFn fun i : Fin L.length => (hc i.1 i.2).choose, by simp, fun h => by simp at h, ?_, ?_, ?_⟩
    · intro ad e j u hj
      injection e with e
      subst e
      obtain ⟨hlt, rfl⟩ := List.getElem?_eq_some_iff.1 hj
      have hlt' : j < L.length := by simpa using hlt
      rw [add_plain]
      simp only [List.getElem_ofFn]
      exact (hc j hlt').choose_spec.1
    · intro i u p hi hp
      obtain ⟨hlt, rfl⟩ := List.getElem?_eq_some_iff.1 hi
      obtain ⟨hlt', rfl⟩ := List.getElem?_eq_some_iff.1 hp
      simp only [List.getElem_ofFn]
      exact (hc i hlt').choose_spec.2
    · intro u hu
      obtain ⟨i, rfl⟩ := List.mem_ofFn.1 hu
      obtain ⟨A, c, e, _⟩ := (hc i.1 i.2).choose_spec.2
      rw [e]; rfl

/-- a row of its own, of slices that lie in w and read as acc -/
def AllIn (w : World) (B : Nat) (W : World) (s : Value) (acc : List (List UInt8)) : Prop :=
  ∃ vs : List Value, vs.length = acc.length ∧ W.ownsRow B 25 1 s acc.length vs ∧ ∀ (i : Nat) u p, vs[i]? = some u → acc[i]? = some p → SB w u p
theorem AllIn.move {w : World} {B : Nat} {W W' : World} {s : Value} {acc : List (List UInt8)} (h : AllIn w B W s acc) (hk : ∀ k cs, B ≤ k → W.heap[k]? = some (.cells cs 25 (0, 0)) → W'.heap[k]? = some (.cells cs 25 (0, 0))) : AllIn w B W' s acc := by
  obtain ⟨vs, h1, h2, h3⟩ := h
  exact ⟨vs, h1, own_move h2 hk, h3⟩
theorem AllIn.below {w : World} {B : Nat} {W W' : World} {s : Value} {acc : List (List UInt8)} (h : AllIn w B W s acc) (hb : Below W.heap.size W W') : AllIn w B W' s acc := h.move fun _ _ _ h => blk_below h hb
theorem AllIn.sbb {w : World} {B : Nat} {W : World} {s : Value} {acc : List (List UInt8)} (h : AllIn w B W s acc) (hb : Below w.heap.size w W) (hL : acc.length ≤ 140737488355328) : SBB W s acc := by
  obtain ⟨vs, h1, h2, h3⟩ := h
  rcases h2.2 with ⟨rfl, h0⟩ | ⟨g, cap, cur, rfl, _, hg, hcap, _, hsz, htk⟩
  · have : acc = [] := List.eq_nil_of_length_eq_zero h0
    subst this
    exact ⟨_, _, rfl, by simp, by simp, .inl rfl⟩
  · refine ⟨_, _, rfl, hcap, hL, .inr ⟨g, 0, rfl, fun i hi => ?_⟩⟩
    have hlt : i < vs.length := by omega
    refine ⟨vs[i], ?_, (h3 i vs[i] acc[i] (by simp [hlt]) (by simp [hi])).below hb⟩
    rw [Nat.zero_add, cell_of_row W g i _ _ _ hg]
    have h5 : vs[i]? = cur.toList[i]? := by rw [← htk, List.getElem?_take_of_lt (by omega)]
    have h6 : vs[i]? = some vs[i] := by simp [hlt]
    rw [← h6, h5]
    simp

theorem own_block {W : World} {B n : Nat} {e : TypeId} {v : Value} {xs : List Value} (h : W.ownsRow B e 1 v n xs) {j : Nat} (hj : v.ownBlock = some j) : B ≤ j ∧ ∃ cs, W.heap[j]? = some (.cells cs e (0, 0)) := by
  rcases h.2 with ⟨hv, _⟩ | ⟨g, cap, cur, hv, h2, h3, _⟩
  · rw [hv] at hj; cases hj
  · rw [hv] at hj
    injection hj with hj
    subst hj
    exact ⟨h2, cur, h3⟩
theorem blk_grown_ty {W W' : World} {B n : Nat} {e : TypeId} {v : Value} {xs : List Value} (ho : W.ownsRow B e 1 v n xs) (hg : W.grownBy W' v.ownBlock) {j : Nat} {cs : Array Value} {t : TypeId} {fr : Nat × Nat} (h : W.heap[j]? = some (.cells cs t fr)) (ht : t ≠ e) : W'.heap[j]? = some (.cells cs t fr) :=
  blk_grown h hg (fun he => by
    obtain ⟨_, cs', h'⟩ := own_block ho he.symm
    rw [h] at h'
    injection h' with h'
    injection h' with _ h'
    exact ht h')
theorem cell_grown_lo {W W' : World} {B n : Nat} {e : TypeId} {v : Value} {xs : List Value} (ho : W.ownsRow B e 1 v n xs) (hg : W.grownBy W' v.ownBlock) {b o : Nat} {x : Value} (h : W.cell? ⟨b, o, none⟩ = some x) (hb : b < B) : W'.cell? ⟨b, o, none⟩ = some x :=
  hg.cell h (fun he => by have := (own_block ho (j := b) he.symm).1; omega)
theorem below_grown_own {w W W' : World} {B n : Nat} {e : TypeId} {v : Value} {xs : List Value} (hb : Below w.heap.size w W) (ho : W.ownsRow B e 1 v n xs) (hB : w.heap.size ≤ B) (hg : W.grownBy W' v.ownBlock) : Below w.heap.size w W' :=
  hb.grown hg hb.size (fun _ he => Nat.le_trans hB (own_block ho he).1)
theorem blk_grown_tail {W W' : World} {g : Nat} {c0 : Array Value} {t0 : TypeId} (h0 : W.heap[g]? = some (.cells c0 t0 (0, 0))) (hg : W.grownBy W' (some g)) {j : Nat} {cs : Array Value} {t : TypeId} {fr : Nat × Nat} (h : W.heap[j]? = some (.cells cs t fr)) (ht : t ≠ t0) : W'.heap[j]? = some (.cells cs t fr) :=
  blk_grown h hg (fun he => by
    injection he with he
    subst he
    rw [h] at h0
    injection h0 with h0
    injection h0 with _ h0
    exact ht h0)

/-- what Put hands back -/
def PutRes (B : Nat) (c s x : Nat) (p : List UInt8) (W : World) (u : Value) (t : Array Value) (e : Int) : Prop :=
  (p.length ≤ 16384 ∧ t = tvs (c + 1, s + (8 + p.length), rsum x p) ∧ e = 0 ∧ W.ownsRow B 5 1 u (rec_ x p).length (bytesV (rec_ x p))) ∨ (16384 < p.length ∧ t = zeroT ∧ e = 6 ∧ u = .slice none 0 0)
theorem PutRes.below {B c s x : Nat} {p : List UInt8} {W W' : World} {u : Value} {t : Array Value} {e : Int} (h : PutRes B c s x p W u t e) (hb : Below W.heap.size W W') : PutRes B c s x p W' u t e :=
  h.imp (fun ⟨h1, h2, h3, h4⟩ => ⟨h1, h2, h3, own_move h4 fun _ _ _ h => blk_below h hb⟩) id
theorem PutRes.base_le {B B' c s x : Nat} {p : List UInt8} {W : World} {u : Value} {t : Array Value} {e : Int} (h : PutRes B c s x p W u t e) (hb : B' ≤ B) : PutRes B' c s x p W u t e :=
  h.imp (fun ⟨h1, h2, h3, h4⟩ => ⟨h1, h2, h3, h4.base_le hb⟩) id
/-- only blocks of tails from B on are written -/
def G30 (B : Nat) (W W' : World) : Prop :=
  (∀ j o, W.heap[j]? = some o → (¬ (B ≤ j ∧ ∃ cs, o = .cells cs 30 (0, 0))) → W'.heap[j]? = some o) ∧ (∀ j cs, B ≤ j → W.heap[j]? = some (.cells cs 30 (0, 0)) → ∃ cs', cs'.size = cs.size ∧ W'.heap[j]? = some (.cells cs' 30 (0, 0)))
theorem G30.of_below {B : Nat} {W W' : World} (h : Below W.heap.size W W') : G30 B W W' := ⟨fun _ _ hj _ => blk_below hj h, fun _ cs _ hj => ⟨cs, rfl, blk_below hj h⟩⟩
theorem G30.of_grown {B g : Nat} {W W' : World} {cs cs' : Array Value} (h : W.grownBy W' (some g)) (hB : B ≤ g) (h1 : W.heap[g]? = some (.cells cs 30 (0, 0))) (h2 : W'.heap[g]? = some (.cells cs' 30 (0, 0))) (hs : cs'.size = cs.size) : G30 B W W' := by
  refine ⟨fun j o hj hn => blk_grown hj h (fun e => ?_), fun j c hBj hj => ?_⟩
  · injection e with e
    subst e
    rw [h1] at hj
    injection hj with hj
    exact hn ⟨hB, cs, hj.symm⟩
  · by_cases e : j = g
    · subst e
      rw [h1] at hj
      injection hj with hj
      injection hj with hj
      subst hj
      exact ⟨cs', hs, h2⟩
    · exact ⟨c, rfl, blk_grown hj h (fun e' => e (Option.some.inj e'))⟩
theorem PutRes.g30 {B0 B c s x : Nat} {p : List UInt8} {W W' : World} {u : Value} {t : Array Value} {e : Int} (h : PutRes B c s x p W u t e) (hb : G30 B0 W W') : PutRes B c s x p W' u t e :=
  h.imp (fun ⟨h1, h2, h3, h4⟩ => ⟨h1, h2, h3, own_move h4 fun _ _ _ h => hb.1 _ _ h (fun ⟨_, _, e⟩ => by injection e with _ e; cases e)⟩) id
def tP (c s x : Nat) (p : List UInt8) : Array Value := if p.length ≤ 16384 then tvs (c + 1, s + (8 + p.length), rsum x p) else zeroT
def nP (p : List UInt8) : Int := if p.length ≤ 16384 then 0 else 6
theorem PutRes.eq {B c s x : Nat} {p : List UInt8} {W : World} {u : Value} {t : Array Value} {e : Int} (h : PutRes B c s x p W u t e) : t = tP c s x p ∧ e = nP p := by
  unfold tP nP
  rcases h with ⟨h1, h2, h3, _⟩ | ⟨h1, h2, h3, _⟩
  · rw [if_pos h1, if_pos h1]; exact ⟨h2, h3⟩
  · rw [if_neg (by omega), if_neg (by omega)]; exact ⟨h2, h3⟩
theorem tP_size (c s x : Nat) (p : List UInt8) : (tP c s x p).size = 3 := by unfold tP; split <;> rfl
theorem tP_one (c s x : Nat) (p : List UInt8) : ∀ u ∈ (tP c s x p).toList, u.oneCell' = true := by
  unfold tP; split <;> simp [tvs, Value.oneCell']
theorem Put_any (c s x : Nat) (hx : x < 4294967296) (hc : c ≤ 140737488355328) (hs : s ≤ 140737488355328) (v : Value) (p : List UInt8) (w : World) (hv : SB w v p) :
    Calls Try.prog 18 #[.agg (tvs (c, s, x)), v] w fun e w' => (∃ u t n, e = .returned (.tuple #[u, .agg t, .int .i64 n]) ∧ PutRes w.heap.size c s x p w' u t n) ∧ Below w.heap.size w w' := by
  by_cases hp : p.length ≤ 16384
  · refine (Put_ok c s x hx hc hs v p w hv hp).mono ?_
    rintro e w' ⟨u, rfl, h1, h2⟩
    exact ⟨⟨u, _, _, rfl, .inl ⟨hp, rfl, rfl, h1⟩⟩, h2⟩
  · refine (Put_long c s x v p w hv (by omega)).mono ?_
    rintro e w' ⟨rfl, h2⟩
    exact ⟨⟨_, _, _, rfl, .inr ⟨by omega, rfl, rfl, rfl⟩⟩, h2⟩
end Go.Proofs.Ytlhdnloimgckgaa
