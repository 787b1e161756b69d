/-
  A range over a function whose rounds all go on: one law, in which the iterator may keep state of its own in cells. No program here.
-/
import Derived.RangeFuncNested
import Derived.RangeFuncCalls
import Derived.RangeFuncLeaves
import Derived.Test.YtncjgfhipflokaaMem
namespace Go.Proofs.Ytncjgfhipflokaa
open Go.RowKit

/-- B is A with new blocks, and with other contents in blocks of which T speaks -/
structure Touch (T : Nat → Obj → Prop) (A B : World) : Prop where
  os : B.os = A.os
  tape : B.tape = A.tape
  output : B.output = A.output
  size : A.heap.size ≤ B.heap.size
  same : ∀ k o, A.heap[k]? = some o → ¬ T k o → B.heap[k]? = some o
theorem Touch.refl (T : Nat → Obj → Prop) (A : World) : Touch T A A := ⟨rfl, rfl, rfl, Nat.le_refl _, fun _ _ h _ => h⟩
theorem Touch.mono {T T' : Nat → Obj → Prop} {A B : World} (h : Touch T A B) (ht : ∀ k o, T k o → T' k o) : Touch T' A B := ⟨h.os, h.tape, h.output, h.size, fun k o hk hn => h.same k o hk fun h' => hn (ht k o h')⟩
theorem Touch.of_grown {T : Nat → Obj → Prop} {A B : World} {row : Option Nat} (h : A.grownBy B row) (ht : ∀ k o, row = some k → A.heap[k]? = some o → T k o) : Touch T A B :=
  ⟨h.os, h.tape, h.output, h.size, fun k o hk hn => (h.block k (Array.getElem?_eq_some_iff.1 hk).1 (fun e => hn (ht k o e.symm hk))).trans hk⟩
theorem Touch.of_below {T : Nat → Obj → Prop} {A B : World} (h : Below A.heap.size A B) : Touch T A B := Touch.of_grown (grown_of_below h none) (by simp)
theorem touch_alloc {T : Nat → Obj → Prop} (A : World) (o : Obj) : Touch T A (A.alloc o) := Touch.of_below (below_alloc1 A o)
theorem touch_putObj {T : Nat → Obj → Prop} (A : World) (l : Nat) (o : Obj) (ht : ∀ o', A.heap[l]? = some o' → T l o') : Touch T A (A.putObj l o) :=
  Touch.of_grown (grownBy_putObj' A l o) (fun k o' e hk => by injection e with e; subst e; exact ht o' hk)
theorem below_putObj {w W : World} {B l : Nat} (h : Below B w W) (hl : B ≤ l) (hB : B ≤ W.heap.size) (o : Obj) : Below B w (W.putObj l o) :=
  h.grown (grownBy_putObj' W l o) hB (fun k e => by injection e with e; omega)

/-- what an iterator does with a loop body that always goes on: it hands it values, one by one: those till now are ever Good, all of them are Done; T: the blocks of its own that it writes; Kp: what it wants kept by a round -/
def Iterates {α : Type} (P : Program) (gf : Nat) (lb : Array Value) (encs : α → Array Value) (Good Done : List α → Prop) (T : Nat → Obj → Prop) (Kp : World → World → Prop) (lim : Nat) (w : World) : Prop :=
  ∀ (n l : Nat) (J : List α → World → Prop) (W : World), Below w.heap.size w W → W.heap.size = w.heap.size + 2 → (∀ pre A B, J pre A → Touch T A B → J pre B) →
    (∀ pre x A, J pre A → lim ≤ A.heap.size → Good (pre ++ [x]) → YieldAt Fence.wide (n - 1) P l (encs x) A fun e B => e = .returned (.bool true) ∧ J (pre ++ [x]) B ∧ Kp A B) → J [] W →
    CallsIn Fence.wide n P gf (#[.func (.yield l) #[] #[]] ++ lb) W fun e B => (∃ v, e = .returned v) ∧ ∃ xs, Done xs ∧ J xs B

theorem wp_range_all {α : Type} {P : Program} {n : Nat} {g : Operand} {ps : Array Tmp} {assign body : Code} {Q : Exit → Act → World → Prop} {a : Act} {w : World}
    {gf : Nat} {lb : Array Value} (hg : a.eval g = .func (.func gf) #[] lb) (eg : ∀ args w, (callFunc gf args).run P w = .ok (.enter gf args) w)
    {encs : α → Array Value} {Good Done : List α → Prop} {T : Nat → Obj → Prop} {Kp : World → World → Prop} {lim : Nat} (hit : Iterates P gf lb encs Good Done T Kp lim w) (hps : ∀ x, (encs x).size = ps.size)
    (hT : ∀ k o, T k o → k ≠ w.heap.size ∧ k ≠ w.heap.size + 1) (hKt : ∀ A B C, Kp A B → Kp B C → Kp A C) (hKr : ∀ A B, Touch (fun k _ => k = w.heap.size + 1) A B → Kp A B)
    (I : List α → World → Prop) (hI : ∀ pre A B, I pre A → Touch (fun k o => T k o ∨ k = w.heap.size ∨ k = w.heap.size + 1) A B → I pre B) (h0 : I [] w) (Ax : α → Act → World → Prop) (hAx : ∀ x a' A B, Ax x a' A → Touch (fun k _ => k = w.heap.size + 1) A B → Ax x a' B)
    (hassign : ∀ (l : Nat) (x : α) (W : World) (K : Act → World → Prop), w.heap.size + 2 ≤ W.heap.size → (∀ a' W', Touch (fun _ _ => False) W W' → Ax x a' W' → K a' W') →
      assign.wpIn (Fence.wide.inRound l) (n - 1 - 1) P (Exit.then K (fun _ _ _ => False)) { tmps := (ps.zip (encs x)).foldl (fun t (p, v) => t.setIfInBounds p v) a.tmps, defers := [] } W)
    (hbody : ∀ (l : Nat) (pre : List α) (x : α) (a' : Act) (A : World), I pre A → Good (pre ++ [x]) → w.heap.size + 2 ≤ A.heap.size → lim ≤ A.heap.size → Ax x a' A → body.wpIn (Fence.wide.inRound l) (n - 1 - 1) P
      (fun e _ B => e = .normal ∧ I (pre ++ [x]) B ∧ Kp A B ∧ ∀ k o, w.heap.size ≤ k → A.heap[k]? = some o → o.isCells = false → B.heap[k]? = some o) a' A)
    (hdone : ∀ xs B, Done xs → I xs B → B.heap[w.heap.size]? = some (.deferred (some [])) → w.heap.size + 2 ≤ B.heap.size → Q .normal { a with defers := { target := .collected w.heap.size, args := #[] } :: a.defers } B) :
    (Code.rangeFunc g ps assign body).wpIn Fence.wide n P Q a w := by
  refine wpIn_rangeFunc fun fn hfn => ?_
  have hsz : ((w.alloc (.deferred (some []))).heap.size) = w.heap.size + 1 := World.size_alloc _ _
  -- the loop's record, in the states that it goes through
  let rec_ : LoopState → Option Code → Loop := fun st pe => { state := st, pending := pe, fn, tmps := a.tmps, params := ps, assign, body, defers := w.heap.size }
  let W1 : World := (w.alloc (.deferred (some []))).alloc (.loop (rec_ .ready none))
  have hW1 : W1.heap.size = w.heap.size + 2 := by show (World.alloc _ _).heap.size = _; rw [World.size_alloc, hsz]
  have hL : W1.heap[w.heap.size + 1]? = some (.loop (rec_ .ready none)) := by
    have := World.alloc_heap_new (w.alloc (.deferred (some []))) (.loop (rec_ .ready none)); rwa [hsz] at this
  have hD : W1.heap[w.heap.size]? = some (.deferred (some [])) := blk_alloc (World.alloc_heap_new w _) _
  refine ⟨w.heap.size + 1, [{ target := .collected w.heap.size, args := #[] }], W1, { target := .fn (.func gf) lb, args := #[.func (.yield (w.heap.size + 1)) #[] #[]] }, W1, gf, #[.func (.yield (w.heap.size + 1)) #[] #[]] ++ lb, W1, run_enterLoop_outer _ _ _ _ _, ?_, fun _ _ => trivial, ?_, fun h => by simp [Fence.wide] at h, ?_⟩
  · simp only [resolve, hg]; simp [go_sem]
  · simp [invoke, go_sem, eg]
  · refine (hit (n - 1) (w.heap.size + 1) (fun pre W => I pre W ∧ W.heap[w.heap.size + 1]? = some (.loop (rec_ .ready none)) ∧ W.heap[w.heap.size]? = some (.deferred (some []))) W1
      (((Below.refl _ w).alloc (Nat.le_refl _) _).alloc (by simp) _) hW1 ?_ ?_ ⟨?_, hL, hD⟩).mono ?_
    · rintro pre A B ⟨h1, h2, h3⟩ ht
      refine ⟨hI pre A B h1 (ht.mono fun k o h => .inl h), ht.same _ _ h2 fun h => (hT _ _ h).2 rfl, ht.same _ _ h3 fun h => (hT _ _ h).1 rfl⟩
    · rintro pre x A ⟨h1, h2, h3⟩ hlim hpre
      have hlt : w.heap.size + 1 < A.heap.size := blk_lt h2
      refine ⟨fn, _, assign, body, run_yield (P := P) (args := encs x) h2 (hps x), roundIn_of_wpIn hfn (hassign _ x A _ hlt fun a' A2 hA2 hax => ?_)⟩
      have h2' : A2.heap[w.heap.size + 1]? = some (.loop (rec_ .ready none)) := hA2.same _ _ h2 (by simp)
      have h3' : A2.heap[w.heap.size]? = some (.deferred (some [])) := hA2.same _ _ h3 (by simp)
      have hlt2 : w.heap.size + 1 < A2.heap.size := blk_lt h2'
      refine ⟨_, run_beginRound h2' rfl, ?_⟩
      have b2 : (A2.putObj (w.heap.size + 1) (.loop { rec_ .ready none with state := .busy })).heap[w.heap.size + 1]? = some (.loop { rec_ .ready none with state := .busy }) := World.putObj_heap_same hlt2
      have b3 : (A2.putObj (w.heap.size + 1) (.loop { rec_ .ready none with state := .busy })).heap[w.heap.size]? = some (.deferred (some [])) := (World.putObj_heap_other (by omega)).trans h3'
      have t1 : Touch (fun k _ => k = w.heap.size + 1) A (A2.putObj (w.heap.size + 1) (.loop { rec_ .ready none with state := .busy })) := by
        have ta : Touch (fun k (_ : Obj) => k = w.heap.size + 1) A A2 := hA2.mono (fun _ _ h => h.elim)
        have tb : Touch (fun k (_ : Obj) => k = w.heap.size + 1) A2 (A2.putObj (w.heap.size + 1) (.loop { rec_ .ready none with state := .busy })) := touch_putObj _ _ _ (fun _ _ => rfl)
        exact ⟨tb.os.trans ta.os, tb.tape.trans ta.tape, tb.output.trans ta.output, Nat.le_trans ta.size tb.size, fun k o hk hn => tb.same k o (ta.same k o hk hn) hn⟩
      refine wpIn_mono (hbody _ pre x _ _ (hI pre A _ h1 (t1.mono fun _ _ h => .inr (.inr h))) hpre (by simp; omega) (by have := hA2.size; simp; omega) (hAx _ _ _ _ hax (touch_putObj _ _ _ (fun _ _ => rfl)))) ?_
      rintro e a3 W3 ⟨rfl, hi3, hk3, hr3⟩
      have c2 := hr3 _ _ (by omega) b2 rfl
      have c3 := hr3 _ _ (Nat.le_refl _) b3 rfl
      have hend := run_endRound (P := P) none c2
      refine ⟨_, _, hend, rfl, ⟨?_, World.putObj_heap_same (blk_lt c2), (World.putObj_heap_other (by omega)).trans c3⟩, ?_⟩
      · exact hI _ _ _ hi3 (touch_putObj _ _ _ (fun _ _ => .inr (.inr rfl)))
      · exact hKt _ _ _ (hKr _ _ t1) (hKt _ _ _ hk3 (hKr _ _ (touch_putObj _ _ _ (fun _ _ => rfl))))
    · exact hI _ _ _ h0 (Touch.of_below (((Below.refl _ w).alloc (Nat.le_refl _) _).alloc (by simp) _))
    · rintro e W2 ⟨⟨v, rfl⟩, xs, hdn, hi, hl, hd⟩
      have hlt := blk_lt hl
      refine ⟨none, _, run_endLoop (P := P) hl (by show LoopState.ready ≠ LoopState.busy; simp), hdone xs _ hdn ?_ ((World.putObj_heap_other (by omega)).trans hd) (by simp; omega)⟩
      exact hI _ _ _ hi (touch_putObj _ _ _ (fun _ _ => .inr (.inr rfl)))
end Go.Proofs.Ytncjgfhipflokaa
