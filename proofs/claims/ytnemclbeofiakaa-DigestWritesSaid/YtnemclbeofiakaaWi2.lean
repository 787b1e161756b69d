/-
  digest.mix: the fold at its end; the way out, marks and all.
-/
import Derived.RangeFuncNested
import Derived.RangeFuncBound
import Derived.RangeFuncCalls
import Derived.RangeFuncLeaves
import Derived.RangeFuncBox
import Derived.Test.YtnemclbeofiakaaWi
namespace Go.Proofs.Ytnemclbeofiakaa
open Go.RowKit Bl

/-- the first k words folded -/
def foldTo (h v : List Nat) (k : Nat) : List Nat := (List.range 8).map fun i => if i < k then h.getD i 0 ^^^ (v.getD i 0 ^^^ v.getD (i + 8) 0) else h.getD i 0
theorem foldTo_zero {h : List Nat} (v : List Nat) (h8 : h.length = 8) : foldTo h v 0 = h := by
  apply List.ext_getElem
  · simp [foldTo, h8]
  · intro i h1 h2
    simp [foldTo, List.getD_eq_getElem?_getD, h2]
theorem foldTo_eight (h v : List Nat) : foldTo h v 8 = fold h v := by
  unfold foldTo fold
  refine List.map_congr_left fun i hi => ?_
  rw [if_pos (List.mem_range.1 hi)]
theorem foldTo_length (h v : List Nat) (k : Nat) : (foldTo h v k).length = 8 := by simp [foldTo]
theorem foldTo_getD (h v : List Nat) {k : Nat} (hk : k < 8) : (foldTo h v k).getD k 0 = h.getD k 0 := by
  rw [List.getD_eq_getElem?_getD]
  simp [foldTo, hk]
theorem foldTo_succ (h v : List Nat) {k : Nat} (_hk : k < 8) : foldTo h v (k + 1) = (foldTo h v k).set k (h.getD k 0 ^^^ (v.getD k 0 ^^^ v.getD (k + 8) 0)) := by
  apply List.ext_getElem
  · simp [foldTo]
  · intro i h1 h2
    simp only [foldTo_length] at h1
    rw [List.getElem_set]
    by_cases e : k = i
    · subst e
      rw [if_pos rfl]
      simp [foldTo]
    · rw [if_neg e]
      simp only [foldTo, List.getElem_map, List.getElem_range]
      by_cases h3 : i < k
      · rw [if_pos (by omega), if_pos h3]
      · rw [if_neg (by omega), if_neg h3]

/-- mix's memory at its end -/
structure EndAt (N G : Nat) (w : World) (v : List Nat) (Ds : List Nat) (x : List Nat) (W : World) : Prop where
  hb : W.heap[N]? = some (.cells (wordsV x).toArray 23 (0, 0))
  res : W.heap[N + 1]? = some (.cells (wordsV (List.replicate 8 0)).toArray 23 (0, 0))
  v : RowAt W G v
  below : Below N w W
  lt : N + 2 ≤ G
  mks : ∀ D ∈ Ds, N ≤ D ∧ W.heap[D]? = some (.deferred (some []))
theorem MixAt.toEnd {N S G : Nat} {w W : World} {h m x : List Nat} {Ds : List Nat} (H : MixAt N S G w h m Ds x W) : EndAt N G w x Ds h W := ⟨H.hb, H.res, H.v, H.below, by have := H.lt; have := H.eq; omega, H.mks⟩
theorem EndAt.keep {N G : Nat} {w W W' : World} {v x : List Nat} {Ds : List Nat} (H : EndAt N G w v Ds x W) (hb : Below W.heap.size W W') : EndAt N G w v Ds x W' :=
  ⟨blk_below H.hb hb, blk_below H.res hb, H.v.below hb, H.below.trans (hb.mono (by have := blk_lt H.hb; omega)), H.lt, fun D hD => ⟨(H.mks D hD).1, blk_below (H.mks D hD).2 hb⟩⟩
theorem EndAt.set {N G : Nat} {w W : World} {v x : List Nat} {Ds : List Nat} (H : EndAt N G w v Ds x W) (i y : Nat) : EndAt N G w v Ds (x.set i y) (W.setCell ⟨N, i, none⟩ (.int .u32 (y : Int))) := by
  have hl := H.lt
  have hg : W.grownBy (W.setCell ⟨N, i, none⟩ (.int .u32 (y : Int))) (some N) := grown_setCell (grown_refl _ _) _ _
  refine ⟨?_, blk_grown H.res hg (fun e => by injection e with e; omega), blk_grown H.v hg (fun e => by injection e with e; omega), H.below.grown hg (by have := blk_lt H.hb; omega) (fun k e => by injection e with e; omega), hl, fun D hD => ⟨(H.mks D hD).1, blk_grown (H.mks D hD).2 hg (fun e => ?_)⟩⟩
  · have := blk_setCell (i := i) H.hb (.int .u32 (y : Int))
    rw [wordsV_set] at this
    exact this
  · injection e with e
    have h1 := (H.mks D hD).2
    rw [e, H.hb] at h1
    injection h1 with h1
    cases h1

theorem leaves_marks {F : Fence} {n : Nat} {P : Program} (fn : Func) (tmps : Array Value) (R : Ending → World → Prop) : ∀ (Ds : List Nat) (W : World), Ds.Nodup → (∀ D ∈ Ds, W.heap[D]? = some (.deferred (some []))) →
    (∀ W', Touch (fun k _ => k ∈ Ds) W W' → LeavesInM F n P fn tmps R [] .returning W') → LeavesInM F n P fn tmps R (marks Ds) .returning W := by
  intro Ds
  induction Ds with
  | nil => intro W _ _ h; exact h W (Touch.refl _ _)
  | cons D Ds ih =>
    intro W hnd hmk h
    obtain ⟨hn1, hn2⟩ := List.nodup_cons.1 hnd
    have hD := hmk D List.mem_cons_self
    refine ⟨by simp, .inl ⟨D, _, rfl, run_takeDeferred hD, ih _ hn2 (fun D' hD' => ?_) (fun W' ht => h W' ?_)⟩⟩
    · have hne : D' ≠ D := fun e => hn1 (e ▸ hD')
      rw [World.putObj_heap_other hne]
      exact hmk D' (List.mem_cons_of_mem _ hD')
    · have t1 : Touch (fun k (_ : Obj) => k ∈ D :: Ds) W (W.putObj D (.deferred none)) := touch_putObj _ _ _ (fun _ _ => List.mem_cons_self)
      have t2 : Touch (fun k (_ : Obj) => k ∈ D :: Ds) (W.putObj D (.deferred none)) W' := ht.mono (fun k _ hk => List.mem_cons_of_mem _ hk)
      exact ⟨t2.os.trans t1.os, t2.tape.trans t1.tape, t2.output.trans t1.output, Nat.le_trans t1.size t2.size, fun k o hk hn => t2.same k o (t1.same k o hk hn) hn⟩
end Go.Proofs.Ytnemclbeofiakaa
