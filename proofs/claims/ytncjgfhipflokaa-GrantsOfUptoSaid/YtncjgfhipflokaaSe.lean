/-
  grants.channels: the walk.
-/
import Derived.Test.YtncjgfhipflokaaSd
namespace Go.Proofs.Ytncjgfhipflokaa
open Go.RowKit Go.Shelf Hp Go.Maps
attribute [local go_sem] Oper.semAt_some

/-- the channels of a user, one grant behind the other -/
def chF (u : S) (l : List (S × S)) : List S := (l.filter fun p => decide (p.1 = u)).map (·.2)
/-- a user's channels -/
def chansOf (docs : List Doc) (u : S) : List S := chF u (pairs docs)
theorem chF_snoc (u : S) (l : List (S × S)) (x : S × S) : chF u (l ++ [x]) = if x.1 = u then chF u l ++ [x.2] else chF u l := by
  unfold chF
  rw [List.filter_append, List.map_append]
  by_cases h : x.1 = u <;> simp [h]
theorem chF_len (u : S) (l : List (S × S)) : (chF u l).length ≤ l.length := by
  unfold chF
  rw [List.length_map]
  exact List.length_filter_le _ _
/-- the user's box and the map at b, which counts ks -/
def CU (N : Nat) (u : S) (w : World) (ks : List S) (n : Nat) (W : World) : Prop := W.heap[N + 1]? = some (.cells #[encStr u] 9 (0, 0)) ∧ W.heap[N + 3]? = some (.cells #[.map (some (N + 2))] 54 (0, 0)) ∧ (∃ D : DataW Unit, W.ownsMap Try.prog 9 (plainElem Try.prog 3) (N + 2) n D ∧ KM D ks) ∧ Below N w W
theorem CU.touch {N n : Nat} {u : S} {w A B : World} {ks : List S} {T : Nat → Obj → Prop} (h : CU N u w ks n A) (ht : Touch T A B) (hN : N ≤ w.heap.size) (hT : ∀ k o, T k o → N + 4 ≤ k) : CU N u w ks n B := by
  obtain ⟨h0, h1, ⟨D, h2, h3⟩, h4⟩ := h
  have hk : ∀ (k : Nat) (o : Obj), k < N + 4 → A.heap[k]? = some o → B.heap[k]? = some o := fun k o hk h0 => ht.same k o h0 fun hh => by have := hT k o hh; omega
  refine ⟨hk _ _ (by omega) h0, hk _ _ (by omega) h1, ⟨D, own_touch h2 (fun o h0 => hk _ _ (by omega) h0), h3⟩, ?_⟩
  refine ⟨ht.os.trans h4.os, ht.tape.trans h4.tape, ht.output.trans h4.output, Nat.le_trans h4.size ht.size, fun i hi => ?_⟩
  have h5 := h4.block i hi
  rw [← h5]
  have h6 : i < A.heap.size := by have := h4.size; omega
  have h7 : A.heap[i]? = some A.heap[i] := by simp [h6]
  rw [h7]
  exact hk i _ (by omega) h7

set_option maxHeartbeats 1000000 in
set_option maxRecDepth 4000 in
theorem chans_any (T : World → Value → Prop) (hT : ∀ B0 w w' v, Low B0 w w' → T w v → T w' v) (docs : List Doc) (sq : Int) (dv lv sv : Value) (w : World) (u : S) (B0 : Nat) (hB : B0 ≤ w.heap.size) (hds : DS T B0 w dv docs) (hpl : (pairs docs).length ≤ 99999) :
    Calls Try.prog 25 #[.agg (stV sq dv lv sv), encStr u] w fun e w' => ∃ b D, e = .returned (.map (some b)) ∧ w.heap.size ≤ b ∧ w'.ownsMap Try.prog 9 (plainElem (H := Unit) Try.prog 3) b (pairs docs).length D ∧ KM D (chansOf docs u) ∧ Below w.heap.size w w' := by
  have hmm := @run_makeMap Try.prog
  have hle := pairs_le hds
  obtain ⟨W0, hW0⟩ : ∃ W0, W0 = ((((w.alloc (.cells (stV sq dv lv sv) 27)).alloc (.cells #[encStr u] 9)).alloc (.map #[] 0)).alloc (.cells #[.map (some (w.heap.size + 1 + 1))] 54)) := ⟨_, rfl⟩
  have hrow : W0.heap[w.heap.size]? = some (.cells (stV sq dv lv sv) 27 (0, 0)) := by rw [hW0]; exact blk_alloc (blk_alloc (blk_alloc (World.alloc_heap_new w _) _) _) _
  have hr0 := cell_of_row W0 w.heap.size 0 _ _ _ hrow
  have hr1 := cell_of_row W0 w.heap.size 1 _ _ _ hrow
  have hr2 := cell_of_row W0 w.heap.size 2 _ _ _ hrow
  have hr3 := cell_of_row W0 w.heap.size 3 _ _ _ hrow
  replace hr0 : W0.cell? ⟨w.heap.size, 0, none⟩ = some (.int .u64 sq) := hr0
  replace hr1 : W0.cell? ⟨w.heap.size, 1, none⟩ = some dv := hr1
  replace hr2 : W0.cell? ⟨w.heap.size, 2, none⟩ = some lv := hr2
  replace hr3 : W0.cell? ⟨w.heap.size, 3, none⟩ = some sv := hr3
  rw [hW0] at hr0 hr1 hr2 hr3
  have HW0 := Lib.hid hW0
  have HLE := Lib.hid hle
  have HPL := Lib.hid hpl
  have HDS := Lib.hid hds
  clear hds hle hpl hrow hW0
  refine callsIn_wide.1 (?_ : CallsIn Fence.wide 3 _ _ _ _ _)
  refine callsIn_of_wp_marks Try.func25 rfl (by simp [Fence.wide]) ?_ rfl
  simp only [Try.ntmps25, List.size_toArray, List.length_cons, List.length_nil, Nat.reduceAdd, Nat.reduceSub, Array.replicate_succ, Array.replicate_zero, List.push_toArray, List.append_toArray, List.nil_append, List.cons_append]
  gi_wp2_with (refine ⟨trivial, ?_⟩; gi_at_call 28; refine (callsIn_wide.2 (all_any _ _ _ _ _)).mono ?_; rintro e w' ⟨rfl, rfl⟩)
  obtain ⟨N, hN⟩ : ∃ N, w.heap.size = N := ⟨_, rfl⟩
  have e1 : N + 1 + 1 = N + 2 := rfl
  have e2 : N + 1 + 1 + 1 = N + 3 := rfl
  have e3 : N + 1 + 1 + 1 + 1 = N + 4 := rfl
  clear hr0 hr1 hr2 hr3
  have hW0' := HW0.out
  rw [← hW0']
  rw [hN] at hW0' hB ⊢
  rw [e3, e2, e1]
  obtain ⟨W1, hW1⟩ : ∃ W1, W1 = W0.alloc (.cells (stV sq dv lv sv) 27) := ⟨_, rfl⟩
  rw [← hW1]
  have hs0 : W0.heap.size = N + 4 := by rw [hW0']; simp [hN]
  have hsz : W1.heap.size = N + 5 := by rw [hW1]; simp [hs0]
  have hbox : W1.heap[N + 4]? = some (.cells (stV sq dv lv sv) 27 (0, 0)) := by rw [hW1, ← hs0]; exact World.alloc_heap_new _ _
  have hvar : W1.heap[N + 3]? = some (.cells #[.map (some (N + 2))] 54 (0, 0)) := by
    rw [hW1, hW0']
    exact blk_alloc (alloc_new_at (by simp [hN])) _
  have husr : W1.heap[N + 1]? = some (.cells #[encStr u] 9 (0, 0)) := by
    rw [hW1, hW0']
    exact blk_alloc (blk_alloc (blk_alloc (alloc_new_at (by simp [hN])) _) _) _
  have hmap : W1.ownsMap Try.prog 9 (plainElem (H := Unit) Try.prog 3) (N + 2) 0 (.map []) := by
    have h1 := World.ownsMap_made (H := Unit) ((w.alloc (.cells (stV sq dv lv sv) 27)).alloc (.cells #[encStr u] 9)) Try.prog 9 (plainElem Try.prog 3)
    rw [World.size_alloc, World.size_alloc, hN] at h1
    rw [hW1, hW0']
    exact (h1.alloc _).alloc _
  have hbel : Below N w W1 := by
    rw [hW1, hW0', ← hN]
    exact (((((Below.refl _ w).alloc (Nat.le_refl _) _).alloc (by simp) _).alloc (by simp; omega) _).alloc (by simp; omega) _).alloc (by simp; omega) _
  have hds : DS T B0 W1 dv docs := HDS.out.low hT (Low.of_below hbel hB)
  clear e1 e2 e3
  clear hW1 hW0'
  refine wp_range_all (n := 3) (gf := 41) (lb := #[.pointer (some ⟨N + 4, 0, none⟩)]) rfl (enters_of Try.func41 (by kernel_rfl) rfl) (all1_iterates T hT B0 (N + 4) docs sq dv lv sv W1 hbox hds (by omega)) (fun _ => rfl)
    (fun _ _ h => h.elim) (fun A B C h1 h2 => h1.trans h2) (fun A B h k o hk h0 => h.same k o h0 (by omega))
    (fun pre A => CU N u w (chF u pre) pre.length A) ?hI ⟨husr, hvar, ⟨_, hmap, KM.start⟩, hbel⟩
    (fun x a' A => a' = { tmps := #[Value.agg (stV sq dv lv sv), encStr u, .pointer (some ⟨N, 0, none⟩), .pointer (some ⟨N + 1, 0, none⟩), .map none, .pointer (some ⟨N + 3, 0, none⟩), encStr x.1, encStr x.2, .map (some (N + 2)), .agg (stV sq dv lv sv), .func (.func 41) #[] #[.pointer (some ⟨N + 4, 0, none⟩)], encStr x.1, encStr x.2, undef, undef, undef, undef, undef, undef, undef, undef], defers := [] })
    ?hAx ?assign ?body ?done
  case hI =>
    intro pre A B h ht
    refine h.touch ht (by omega) ?_
    rintro k o (h | h | h)
    · exact h.elim
    · omega
    · omega
  case hAx => exact fun x a' A B h _ => h
  case assign =>
    rintro l x W K hW hK
    simp only [penc]
    gi_wp2
    exact hK _ _ (Touch.of_below (Below.refl _ _)) rfl
  case body =>
    rintro l pre x a' A ⟨hu, hv, ⟨D, hm, hkm⟩, hb⟩ hgood hszA hlim rfl
    have hmem : x ∈ pairs docs ∧ (pre ++ [x]).length ≤ (pairs docs).length := by
      obtain ⟨k, hk⟩ := hgood
      constructor
      · have : x ∈ (pairs docs).take k := by rw [← hk]; simp
        exact List.mem_of_mem_take this
      · rw [hk]; simp; omega
    have hkey := key_str x.2 (HLE.out x hmem.1).2
    have hpl : pre.length ≤ 99999 := by have := HPL.out; have := hmem.2; simp at this; omega
    have hml : pre.length < maxLen := by unfold maxLen; omega
    obtain ⟨cn, hcn, hcb, _⟩ := hkm.at_ x.2
    have hcb' : cn ≤ 99999 := by have := chF_len u pre; omega
    have hcell : A.cell? ⟨N + 3, 0, none⟩ = some (.map (some (N + 2))) := row_cell hv
    have hcellu : A.cell? ⟨N + 1, 0, none⟩ = some (encStr u) := row_cell hu
    have HSN := Lib.hid (chF_snoc u pre x)
    by_cases hxu : x.1 = u
    · rw [if_pos hxu] at HSN
      have hq : (x.1 == u) = true := by simpa using hxu
      gi_wp2_with (first
        | (gi_at_lookup; refine wpListIn_lookup_own_int _ rfl _ _ 54 rfl 9 3 .i64 law9 Try.underlying54 Try.underlying3 (zero3 _) (N + 2) _ D rfl hm _ _ rfl hkey ?_; intro c hat hwc)
        | (gi_at_mapUpdate; refine wpListIn_mapUpdate_own _ rfl _ _ _ 54 rfl 9 3 law9 Try.underlying54 _ (N + 2) _ D rfl hm hml _ _ _ rfl rfl hkey _ [] (plainElem_int Try.underlying3 (wrap64_wf _)) ?_; intro w1 hown1 hgrow1)
        | gi_in)
      have hcc : c = (cn : Int) := by
        have h := hat.symm.trans hcn
        injection h with h
        injection h with h h'
      subst hcc
      have hwr : wrap64 ((cn : Int) + 1) = (cn : Int) + 1 := by unfold wrap64; omega
      rw [hwr] at hown1
      have hkp : ∀ (k : Nat) (o : Obj), k ≠ N + 2 → A.heap[k]? = some o → w1.heap[k]? = some o := fun k o hk h0 => blk_grown h0 hgrow1 (fun e => by injection e with e; exact hk e)
      refine ⟨⟨hkp _ _ (by omega) hu, hkp _ _ (by omega) hv, ⟨_, hown1, ?_⟩, hb.grown hgrow1 (by have := hb.size; omega) (fun k e => by injection e with e; omega)⟩, fun k o hk h0 => hkp k o (by omega) h0, fun k o hk h0 _ => hkp k o (by omega) h0⟩
      rw [HSN.out]
      exact hkm.put x.2 hat
    · rw [if_neg hxu] at HSN
      have hq : (x.1 == u) = false := by simpa using hxu
      gi_wp2
      refine ⟨⟨hu, hv, ⟨_, hm.mono (by omega), ?_⟩, hb⟩, fun k o hk h0 => h0, fun k o hk h0 _ => h0⟩
      rw [HSN.out]
      exact hkm
  case done =>
    rintro xs B rfl ⟨hu, hv, ⟨D, hm, hkm⟩, hb⟩ hK hsz2
    have hcell : B.cell? ⟨N + 3, 0, none⟩ = some (.map (some (N + 2))) := row_cell hv
    have HKM := Lib.hid hkm
    have HB := Lib.hid hb
    have HM := Lib.hid hm
    have HK := Lib.hid hK
    clear hkm hb hm hK
    gi_wp2
    have hK3 := HK.out
    rw [hsz] at hK3 ⊢
    refine ⟨by simp, .inl ⟨_, _, rfl, run_takeDeferred hK3, ?_⟩⟩
    have hBs : N + 7 ≤ B.heap.size := by omega
    refine ⟨_, results_t (p := 4) rfl _ _, N + 2, D, rfl, by omega, own_touch HM.out (fun o h => ?_), HKM.out, ?_⟩
    · rw [World.putObj_heap_other (by omega)]
      exact h
    · rw [hN]
      exact below_putObj HB.out (l := N + 5) (by omega) (by omega) _
end Go.Proofs.Ytncjgfhipflokaa
