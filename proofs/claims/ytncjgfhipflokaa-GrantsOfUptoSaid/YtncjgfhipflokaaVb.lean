/-
  tidewrackref01.Copy: a value, copied.
-/
import Derived.Test.YtncjgfhipflokaaVa
namespace Go.Proofs.Ytncjgfhipflokaa
open Go.RowKit Go.Shelf Hp Go.Maps

section
variable {P : Program} {Q : Exit → Act → World → Prop} {o : Oper} {a : Act} {w : World} {K : Act → World → Prop} {ops : Array Oper} {rest : List Oper}
theorem run_storeVar_at (g i : Nat) (t ty : TypeId) (cur : Array Value) (v : Value) (vs : List Value) (hv : v.cells = vs.toArray) (hg : w.heap[g]? = some (.cells cur t (0, 0))) (hs : i + vs.length ≤ cur.size) (hi : (P.info? ty).map (·.size) = some vs.length)
    (h1 : ∀ u ∈ vs, u.oneCell' = true) : ∃ w', (storeVar ty ⟨g, i, none⟩ v).run P w = .ok () w' ∧ w'.heap[g]? = some (.cells (cur.toList.take i ++ vs ++ cur.toList.drop (i + vs.length)).toArray t (0, 0)) ∧ w'.heap.size = w.heap.size ∧ w.grownBy w' (some g) := by
  have hst := run_storeCells_at P g i t vs 0 cur w hg (by simpa using hs) h1
  obtain ⟨k, hi1, hi2⟩ := Option.map_eq_some_iff.1 hi
  refine ⟨_, by simp [storeVar, Sem.run_bind, sizeOf, typeInfo, hi1, hi2, hv]; exact hst, ?_, ?_, ?_⟩
  · rw [setRow_heap w g cur _ t (0, 0) hg]
    simp
  · simp
  · exact ⟨rfl, rfl, rfl, by simp, fun k _ hk => setRow_other w g k _ (fun e => hk (by simp [e]))⟩
theorem wpList_store_at (hgd : o.guard = none) (ty : TypeId) (x y : Operand) (ho : o.op = .store ty x y) (g i : Nat) (hx : a.eval x = .pointer (some ⟨g, i, none⟩)) (t : TypeId) (cur : Array Value) (v : Value) (vs : List Value) (hy : a.eval y = v) (hv : v.cells = vs.toArray)
    (hg : w.heap[g]? = some (.cells cur t (0, 0))) (hs : i + vs.length ≤ cur.size) (hi : (P.info? ty).map (·.size) = some vs.length) (h1 : ∀ u ∈ vs, u.oneCell' = true)
    (h : ∀ w', w'.heap[g]? = some (.cells (cur.toList.take i ++ vs ++ cur.toList.drop (i + vs.length)).toArray t (0, 0)) → w'.heap.size = w.heap.size → w.grownBy w' (some g) → wpList P ops Q rest (a.put o.dst undef) w') : wpList P ops Q (o :: rest) a w := by
  refine wpList_plain hgd fun _ hK => ?_
  obtain ⟨w', hr, h2, h3, h4⟩ := run_storeVar_at (P := P) (w := w) g i t ty cur v vs hv hg hs hi h1
  unfold Oper.wp execOp
  simp only [ho, hx, hy, Instr.storeAt, Instr.sureAddr, Sem.run_bind, Sem.run_pure, Result.andThen_ok, hr]
  exact hK _ _ (h _ h2 h3 h4)
end
theorem RTo.of_own {w : World} {B : Nat} {v : Value} {l : List S} {ok : Nat → Prop} (h : w.ownsRow B 9 1 v l.length (l.map encStr)) (hl : l.length ≤ maxLen) (hok : ∀ b, B ≤ b → b < w.heap.size → ok b) : RTo w ok v l := by
  have hf : (l.map fun s => [encStr s]).flatten = l.map encStr := by
    clear h hl
    induction l with
    | nil => rfl
    | cons x l ih => simp [ih]
  rw [← hf] at h
  obtain ⟨A, c, rfl, _, _, h3⟩ := own_cells h (by simp) (fun r hr => by obtain ⟨s, _, rfl⟩ := List.mem_map.1 hr; rfl)
  refine ⟨A, c, rfl, hl, h3.imp _root_.id ?_⟩
  rintro ⟨b, rfl, g1, g2, h4⟩
  refine ⟨b, 0, rfl, hok b g1 g2, fun k hk => ?_⟩
  have := h4 k 0 [encStr (at_ l k)] (encStr (at_ l k)) (by rw [List.getElem?_map, List.getElem?_eq_getElem hk]; simp [at_, hk]) rfl
  simpa using this
theorem zero87 (w : World) : (zeroValue 87).run Try.prog w = .ok (.agg #[.int .i64 0, .int .i64 0, .string ⟨#[]⟩, .slice none 0 0, .slice none 0 0]) w := by kernel_rfl
theorem app9 : (Try.prog.info? 9).map (fun i => (i.zero.map (·.cells.size), i.size, i.bytes)) = some (some 1, 1, 16) := by kernel_rfl
theorem app87 : (Try.prog.info? 87).map (fun i => (i.zero.map (·.cells.size), i.size, i.bytes)) = some (some 5, 5, 80) := by kernel_rfl
theorem bld87 : (Try.prog.info? 87).map (fun i => (i.size, i.zero.isSome)) = some (5, true) := by kernel_rfl
theorem fld87_3 : Fld 87 3 3 := fun _ _ _ => by kernel_rfl
theorem inf9 : (Try.prog.info? 9).isSome = true := by kernel_rfl

set_option maxHeartbeats 4000000 in
set_option maxRecDepth 8000 in
theorem copyV_any (B0 : Nat) : ∀ (m : Nat) (cs : List Value) (W : World), B0 ≤ W.heap.size → VF W (fun b => b < B0) m cs →
    Calls Try.prog 44 #[.agg cs.toArray] W fun e w' => ∃ cs', e = .returned (.agg cs'.toArray) ∧ VE m w' (fun b => b < B0 ∨ W.heap.size ≤ b) cs cs' ∧ Below W.heap.size W w' := by
  intro m
  induction m with
  | zero => intro cs W _ h; exact h.elim
  | succ m ih =>
    rintro cs W hB ⟨k0, k1, tx, lv, kv, n, ks, rfl, hkl, hkr, hlr⟩
    have hkr0 := hkr
    obtain ⟨KA, kc, rfl, -, hka⟩ := hkr
    obtain ⟨LA, lc, rfl, hln, hla⟩ := hlr
    obtain ⟨N, hN⟩ : ∃ N, N = W.heap.size := ⟨_, rfl⟩
    obtain ⟨W0, hW0⟩ : ∃ W0, W0 = W.alloc (.cells (valC (.int .i64 k0) (.int .i64 k1) tx (.slice LA n lc) (.slice KA ks.length kc)).toArray 87) := ⟨_, rfl⟩
    have hrow : W0.heap[N]? = some (.cells (valC (.int .i64 k0) (.int .i64 k1) tx (.slice LA n lc) (.slice KA ks.length kc)).toArray 87 (0, 0)) := by rw [hW0, hN]; exact World.alloc_heap_new W _
    have hbel : Below W.heap.size W W0 := by rw [hW0]; exact (Below.refl _ W).alloc (Nat.le_refl _) _
    obtain ⟨b, o, hbo⟩ : ∃ b o, n = 0 ∨ (LA = some ⟨b, o, none⟩ ∧ b < B0 ∧ ∀ k, k < n → ∃ es : List Value, es.length = 5 ∧ (∀ j u, es[j]? = some u → W.cell? ⟨b, o + k * 5 + j, none⟩ = some u) ∧ VF W (fun b => b < B0) m es) := by
      rcases hla with h | ⟨b, o, h1, h2, h3⟩
      · exact ⟨0, 0, .inl h⟩
      · exact ⟨b, o, .inr ⟨h1, h2, h3⟩⟩
    have hsz : W0.heap.size = N + 1 := by rw [hW0, hN]; simp
    have HSZ0 := Lib.hid hsz
    have HROW := Lib.hid hrow
    have HBEL := Lib.hid hbel
    have HN := Lib.hid hN
    have HIH := Lib.hid ih
    have HKR := Lib.hid hkr0
    have HKA := Lib.hid hka
    have HBO := Lib.hid hbo
    have HB := Lib.hid hB
    clear hrow hbel ih hkr0 hka hbo hB hla hsz
    go_enter Try.func44, Try.ntmps44
    go_upto_region 1 with (rw [← HN.out, ← hW0]; refine wpList_alloc_row rfl 87 rfl _ (zero87 _) ?_; rw [HSZ0.out]; intro w1 hT hS hG; have HT1 := Lib.hid hT; have HS1 := Lib.hid hS; have HG1 := Lib.hid (below_of_grown hG); clear hT hS hG)
    clear hN hW0
    have HR1 := Lib.hid (blk_below HROW.out HG1.out)
    have hs1 : w1.heap.size = N + 2 := by have := HS1.out; have := HSZ0.out; omega
    have HZ1 := Lib.hid hs1
    have HB1 := Lib.hid (HBEL.out.trans (HG1.out.mono HBEL.out.size))
    clear HROW HBEL HSZ0 HG1 HS1 hs1
    go_upto_region 2 with (first
      | (refine wpList_load_row rfl 87 _ rfl N rfl 87 _ (0, 0) _ HR1.out Try.underlying87 rfl (by kernel_rfl) ?_)
      | (refine wpList_alloc_row rfl 87 rfl _ (zero87 _) ?_; rw [HZ1.out]; intro w2 hT hS hG; have HT2 := Lib.hid hT; have HS2 := Lib.hid hS; have HG2 := Lib.hid (below_of_grown hG); clear hT hS hG)
      | (refine wpList_store_row rfl 87 _ _ rfl (N + 2) rfl 87 _ _ rfl HT2.out rfl (by kernel_rfl) (valC_one _ _ rfl rfl _ _ _ _ _ _ _) ?_; intro w3 hT hS hG; have HT3 := Lib.hid hT; have HS3 := Lib.hid hS; have HG3 := Lib.hid hG; clear hT hS hG))
    have HR3 := Lib.hid (blk_grown (blk_below HR1.out HG2.out) HG3.out (fun e => by injection e with e; omega))
    have HQ3 := Lib.hid (blk_grown (blk_below HT1.out HG2.out) HG3.out (fun e => by injection e with e; omega))
    have hs3 : w3.heap.size = N + 3 := by have := HS2.out; have := HS3.out; have := HZ1.out; omega
    have HZ3 := Lib.hid hs3
    have HB3 := Lib.hid ((HB1.out.trans (HG2.out.mono HB1.out.size)).grown HG3.out (by have := HN.out; have := HS2.out; have := HZ1.out; omega) (fun k e => by injection e with e; have := HN.out; omega))
    clear HR1 HT1 HZ1 HB1 HT2 HS2 HG2 HS3 HG3 hs3
    simp only [Act.put, List.setIfInBounds_toArray, List.set_cons_zero, List.set_cons_succ]
    have hkm : ks.length ≤ 9223372036854775807 := by omega
    obtain ⟨w4, hw4⟩ : ∃ w4, w4 = w3.alloc (.cells #[] 9) := ⟨_, rfl⟩
    have hg4 : Below w3.heap.size w3 w4 := by rw [hw4]; exact below_alloc1 _ _
    have HT4 := Lib.hid (show w4.heap[N + 3]? = some (.cells #[] 9 (0, 0)) from by rw [hw4]; exact alloc_new_at HZ3.out)
    have HG4 := Lib.hid hg4
    have HR4 := Lib.hid (blk_below HR3.out hg4)
    have HW4 := Lib.hid hw4
    have hr4 : (w3.alloc (.cells #[] 9)).cell? ⟨N, 4, none⟩ = some (.slice KA ks.length kc) := by rw [← hw4]; exact cell_of_row w4 N 4 _ _ _ HR4.out
    have HNA := Lib.hid (show KA = none → ks.length = 0 from fun h => by
      rcases HKA.out with h0 | ⟨_, _, e, _⟩
      · exact h0
      · rw [h] at e; cases e)
    have HNC := Lib.hid (show ∀ ad, KA = some ad → ∀ (j : Nat) u, (ks.map encStr)[j]? = some u → w4.cell? (ad.add j) = some u from fun ad e j u hu => by
      rcases HKA.out with h0 | ⟨bk, ok, e', hbk, hk⟩
      · rw [List.eq_nil_of_length_eq_zero h0] at hu; simp at hu
      · rw [e] at e'
        injection e' with e'
        subst e'
        have hj : j < ks.length := by have := (List.getElem?_eq_some_iff.1 hu).1; simpa using this
        rw [add_plain]
        have h5 := hk j hj
        rw [List.getElem?_map, List.getElem?_eq_getElem hj] at hu
        injection hu with hu
        rw [← hu, show ks[j] = at_ ks j from by simp [at_, hj]]
        exact below_cell hg4 (below_cell HB3.out h5))
    clear hg4 hw4
    go_upto_region 3 with (first
      | (at_builtin; rw [HZ3.out, ← HW4.out]; refine wpList_append_n rfl (.tmp 6) (.tmp 8) 35 rfl (N + 3) 9 1 16 Try.underlying35 app9 (by decide) _ 0 [] (by rfl) (own_new w4 (N + 3) (N + 3) 1 9 (Nat.le_refl _) HT4.out) KA ks.length kc (ks.map encStr) (by rfl) (by simp) HNA.out HNC.out (fun u hu => by obtain ⟨s, _, rfl⟩ := List.mem_map.1 hu; rfl) (by unfold maxLen; omega) (by omega) (by have := HG4.out.size; have := HZ3.out; omega) ?_
         rw [Nat.zero_add, List.nil_append]; intro kv' w5 hown hgr hbl; have HOWN5 := Lib.hid hown; have HGR5 := Lib.hid hgr; clear hown hgr hbl hr4
         obtain ⟨KA', kc', rfl⟩ := own_shape HOWN5.out
         have HR5 := Lib.hid (blk_grown HR4.out HGR5.out (fun e => absurd (Option.some.inj e : N = N + 3) (by omega)))
         have HX5 := Lib.hid (blk_grown (blk_below HT3.out HG4.out) HGR5.out (fun e => absurd (Option.some.inj e : N + 2 = N + 3) (by omega))))
      | (refine wpList_store_at rfl 35 _ _ rfl (N + 2) 4 rfl 87 _ (.slice KA' ks.length kc') [.slice KA' ks.length kc'] rfl rfl HX5.out (by simp [valC]) (by kernel_rfl) (by intro u hu; rw [List.mem_singleton.1 hu]; rfl) ?_; intro w6 hT hS hG; have HX6 := Lib.hid (show w6.heap[N + 2]? = some (.cells (valC (.int .i64 k0) (.int .i64 k1) tx (.slice LA n lc) (.slice KA' ks.length kc')).toArray 87 (0, 0)) from hT); have HS6 := Lib.hid hS; have HG6 := Lib.hid hG; clear hT hS hG))
    simp only [Act.put]
    have hb5 := ((HB3.out.trans (HG4.out.mono HB3.out.size)).grown HGR5.out (by have := HG4.out.size; have := HZ3.out; have := HN.out; omega) (fun k e => by have e : N + 3 = k := Option.some.inj e; have := HN.out; omega))
    have HB6 := Lib.hid (hb5.grown HG6.out hb5.size (fun k e => by injection e with e; have := HN.out; omega))
    have HR6 := Lib.hid (blk_grown HR5.out HG6.out (fun e => by injection e with e; omega))
    have HQ6 := Lib.hid (blk_grown (blk_grown (blk_below HQ3.out HG4.out) HGR5.out (fun e => absurd (Option.some.inj e : N + 1 = N + 3) (by omega))) HG6.out (fun e => by injection e with e; omega))
    have HO6 := Lib.hid (ownm_keep2 HOWN5.out (W := w6) (fun g o hk _ h0 => blk_grown h0 HG6.out (fun e => by injection e with e; omega)))
    clear hb5 HR3 HX5 HR5 HB3 HG4 HGR5 HG6 HQ3 HOWN5 HZ3 HS6 HT3 HT4 HR4 HW4 HNA HNC
    go_upto_region 4 with (refine wpList_store_at rfl 85 _ _ rfl (N + 2) 3 rfl 87 _ (.slice none 0 0) [.slice none 0 0] rfl rfl HX6.out (by simp [valC]) (by kernel_rfl) (by intro u hu; rw [List.mem_singleton.1 hu]; rfl) ?_; intro w7 hT hS hG; have HX7 := Lib.hid (show w7.heap[N + 2]? = some (.cells (valC (.int .i64 k0) (.int .i64 k1) tx (.slice none 0 0) (.slice KA' ks.length kc')).toArray 87 (0, 0)) from hT); have HS7 := Lib.hid hS; have HG7 := Lib.hid hG; clear hT hS hG)
    simp only [Act.put]
    have HB7 := Lib.hid (HB6.out.grown HG7.out HB6.out.size (fun k e => by injection e with e; have := HN.out; omega))
    have HR7 := Lib.hid (blk_grown HR6.out HG7.out (fun e => by injection e with e; omega))
    have HQ7 := Lib.hid (blk_grown HQ6.out HG7.out (fun e => by injection e with e; omega))
    have HO7 := Lib.hid (ownm_keep2 HO6.out (W := w7) (fun g o hk _ h0 => blk_grown h0 HG7.out (fun e => by injection e with e; omega)))
    clear HX6 HB6 HR6 HQ6 HO6 HG7 HS7
    have hn1 : n ≤ 9223372036854775807 := by omega
    go_wp2_with fail
    go_loopw [4] (fun vi wr => ∃ (q : Nat) (lvx : Value), vi = .int .i64 (q : Int) ∧ q ≤ n ∧ Below (N + 2) w7 wr ∧ wr.heap[N + 2]? = some (.cells (valC (.int .i64 k0) (.int .i64 k1) tx lvx (.slice KA' ks.length kc')).toArray 87 (0, 0)) ∧ wr.ownsRow (N + 3) 9 1 (.slice KA' ks.length kc') ks.length (ks.map encStr) ∧ Cp (VE m) B0 (N + 2) 87 5 b o q lvx wr) (fun vi _ => n - (intOf vi).toNat)
    case atStart => exact ⟨0, .slice none 0 0, rfl, Nat.zero_le _, Below.refl _ _, HX7.out, HO7.out, Cp.zero (own_nil _ _ _ _)⟩
    case round =>
      obtain ⟨q, lvx, rfl, hq, hbl, hx, ho, hcp⟩ := hrel
      obtain ⟨A', c', rfl⟩ := hcp.shape
      have hr3 : wr.cell? ⟨N, 3, none⟩ = some (.slice LA n lc) := cell_of_row wr N 3 _ _ _ ((hbl.block N (by omega)).trans HR7.out)
      have HQ := Lib.hid ((hbl.block (N + 1) (by omega)).trans HQ7.out)
      have HBL := Lib.hid hbl
      have HX := Lib.hid hx
      have HO := Lib.hid ho
      have HCP := Lib.hid hcp
      have HBW := Lib.hid (HB7.out.trans (hbl.mono (by have := HN.out; omega)))
      clear hbl hx ho hcp HX7 HO7
      rcases (show q = n ∨ q < n by omega) with rfl | hql
      · have hd : decide ((q : Int) < (q : Int)) = false := by simp
        go_wp2_with (first
          | (refine wpList_load_row rfl 87 _ rfl (N + 2) rfl 87 _ (0, 0) _ HX.out Try.underlying87 rfl (by kernel_rfl) ?_)
          | (refine wpList_store_row rfl 87 _ _ rfl (N + 1) rfl 87 _ _ rfl HQ.out rfl (by kernel_rfl) (valC_one _ _ rfl rfl _ _ _ _ _ _ _) ?_; intro w9 hT hS hG; have HT9 := Lib.hid hT; have HG9 := Lib.hid hG; clear hT hS hG))
        have hbw9 : Below W.heap.size W w9 := HBW.out.grown HG9.out HBW.out.size (fun k e => by injection e with e; have := HN.out; omega)
        have hcp9 := HCP.out.keep (VE.lk m) (w' := w9) (fun k v hk h0 => blk_grown h0 HG9.out (fun e => by injection e with e; have := HB.out; have := HN.out; omega))
        have ho9 := ownm_keep2 HO.out (W := w9) (fun g o hk _ h0 => blk_grown h0 HG9.out (fun e => by injection e with e; omega))
        have hve : VE (m + 1) w9 (fun b => b < B0 ∨ W.heap.size ≤ b) (valC (.int .i64 k0) (.int .i64 k1) tx (.slice LA q lc) (.slice KA ks.length kc)) (valC (.int .i64 k0) (.int .i64 k1) tx (.slice A' q c') (.slice KA' ks.length kc')) := by
          refine ⟨k0, k1, tx, _, _, _, _, q, ks, rfl, rfl, HKR.out.keep (Keep.of_below hbw9) (fun _ h _ => .inl h), RTo.of_own ho9 (by unfold maxLen; omega) (fun b hb _ => .inr (by have := HN.out; omega)), ?_⟩
          rcases HBO.out with h0 | ⟨e, hb, _⟩
          · exact ⟨LA, lc, A', c', rfl, rfl, hln, .inl h0⟩
          · rw [e]
            exact hcp9.two (VE.lk m) (by omega) hln (fun k hk _ => hk.imp _root_.id (fun h => by have := HN.out; omega))
        refine bodyPost_ret (v := .agg (valC (.int .i64 k0) (.int .i64 k1) tx (.slice A' q c') (.slice KA' ks.length kc')).toArray) ?_ rfl ⟨_, rfl, hve, hbw9⟩
        exact results_cell_row rfl _ w9 (N + 1) 87 _ (0, 0) _ rfl HT9.out Try.underlying87 rfl (by kernel_rfl)
      · have hd : decide ((q : Int) < (n : Int)) = true := by simp; omega
        have hd' : decide (q < n) = true := by simp; omega
        obtain ⟨rfl, hb, hla⟩ := HBO.out.resolve_left (by omega)
        obtain ⟨es, hlen, hces, hvf⟩ := hla q hql
        have HLEN := Lib.hid hlen
        have HC := Lib.hid (show ∀ j u, es[j]? = some u → wr.cell? ⟨b, o + q * 5 + j, none⟩ = some u from fun j u hj => below_cell HBW.out (hces j u hj))
        have HVF := Lib.hid (VF.keep (Keep.of_below HBW.out) (fun _ h _ => h) m es hvf)
        have HBB := Lib.hid hb
        have HBR := Lib.hid (show B0 ≤ wr.heap.size from by have := HB.out; have := HBW.out.size; omega)
        have HOK := Lib.hid (show ∀ k, wr.heap.size ≤ k → N + 2 < k ∧ (Value.slice A' q c').ownBlock ≠ some k from fun k hk => ⟨by have := blk_lt HX.out; omega, fun e => by obtain ⟨rows, hr, _⟩ := HCP.out; have := ownm_lt hr k e; omega⟩)
        have hx3 : wr.cell? ⟨N + 2, 3, none⟩ = some (.slice A' q c') := cell_of_row wr (N + 2) 3 _ _ _ HX.out
        clear hlen hces hvf hb hla HQ
        go_upto_region 7 with fail
        refine region_f 9 (fun i vs W => match i with
            | 0 => vs 0 = .pointer (some ⟨(N + 2), 0 + 3, none⟩)
            | 1 => vs 1 = .slice (A') q c'
            | 2 => vs 2 = .pointer (some ⟨N, 0 + 3, none⟩)
            | 3 => vs 3 = .slice (some ⟨b, o, none⟩) n lc
            | 4 => vs 4 = .int .i64 (q : Int)
            | 5 => vs 5 = .pointer (some ⟨b, o + q * 5, none⟩)
            | 6 => vs 6 = .agg es.toArray
            | 7 => ∃ es' : List Value, vs 7 = .agg es'.toArray ∧ VE m W (okq B0 (N + 2) (.slice A' q c')) es es'
            | 8 => ∃ (g : Nat) (es' : List Value), vs 8 = .slice (some ⟨g, 0, none⟩) 1 1 ∧ W.heap[g]? = some (.cells es'.toArray 87 (0, 0)) ∧ VE m W (okq B0 (N + 2) (.slice A' q c')) es es'
            | _ => True) (fun _ W W' => Below W.heap.size W W') (fun W => Below wr.heap.size wr W) (by kernel_rfl) (by kernel_rfl) ?hstv ?h0v ?stepv ?finv
        case hstv =>
          intro i k vs W W' _ _ h hG
          match i, h with
          | 0, h => exact h
          | 1, h => exact h
          | 2, h => exact h
          | 3, h => exact h
          | 4, h => exact h
          | 5, h => exact h
          | 6, h => exact h
          | 7, ⟨es', e1, e2⟩ => exact ⟨es', e1, VE.lk m _ _ _ _ _ _ e2 (Keep.of_below hG) (fun _ h _ => h)⟩
          | 8, ⟨g, es', e1, e2, e3⟩ => exact ⟨g, es', e1, blk_below e2 hG, VE.lk m _ _ _ _ _ _ e3 (Keep.of_below hG) (fun _ h _ => h)⟩
          | n + 9, _ => trivial
        case h0v => exact (Below.refl _ _).drew
        case stepv =>
          intro i op hi ho ac W hS hag hdep
          have hbr : Below W.heap.size W W := Below.refl _ _
          match i, hi, ho with
          | 0, _, rfl =>
            exact ow_field fld87_3 _ rfl (N + 2) (0) (hag 3 rfl) ⟨_, rfl, fun vs' h _ => h (fun e => by cases e), hbr, hS⟩
          | 1, _, rfl =>
            have hp : ac.eval (.tmp 19) = .pointer (some ⟨(N + 2), 0 + 3, none⟩) := hdep 0 (by omega) (by kernel_rfl)
            exact ow_load_slice' _ 87 85 rfl (N + 2) (0 + 3) hp (A') q c' (below_cell hS hx3) Try.underlying85 ⟨_, rfl, fun vs' h _ => h (fun e => by cases e), hbr, hS⟩
          | 2, _, rfl =>
            exact ow_field fld87_3 _ rfl N (0) (hag 1 rfl) ⟨_, rfl, fun vs' h _ => h (fun e => by cases e), hbr, hS⟩
          | 3, _, rfl =>
            have hp : ac.eval (.tmp 21) = .pointer (some ⟨N, 0 + 3, none⟩) := hdep 2 (by omega) (by kernel_rfl)
            exact ow_load_slice' _ 87 85 rfl N (0 + 3) hp (some ⟨b, o, none⟩) n lc (below_cell hS hr3) Try.underlying85 ⟨_, rfl, fun vs' h _ => h (fun e => by cases e), hbr, hS⟩
          | 4, _, rfl =>
            exact ow_move _ rfl (v := .int .i64 (q : Int)) (hag 4 rfl) ⟨_, rfl, fun vs' h _ => h (fun e => by cases e), hbr, hS⟩
          | 5, _, rfl =>
            have hs : ac.eval (.tmp 22) = .slice (some ⟨b, o, none⟩) n lc := hdep 3 (by omega) (by kernel_rfl)
            have hi : ac.eval (.tmp 23) = .int .i64 (q : Int) := hdep 4 (by omega) (by kernel_rfl)
            exact ow_index_n _ _ 87 85 5 rfl b o n lc q hs hi hql Try.underlying85 info87 ⟨_, rfl, fun vs' h _ => h (fun e => by cases e), hbr, hS⟩
          | 6, _, rfl =>
            have h5 : ac.eval (.tmp 24) = .pointer (some ⟨b, o + q * 5, none⟩) := hdep 5 (by omega) (by kernel_rfl)
            exact ow_load_at 87 _ rfl b (o + q * 5) h5 es _ (fun j u hj => below_cell hS (HC.out j u hj)) Try.underlying87 rfl (by rw [HLEN.out]; exact info87) ⟨_, rfl, fun vs' h _ => h (fun e => by cases e), hbr, hS⟩
          | 7, _, rfl =>
            have h6 : ac.eval (.tmp 25) = .agg es.toArray := hdep 6 (by omega) (by kernel_rfl)
            refine ow_call Try.func44 (by kernel_rfl) rfl _ _ rfl (vs := #[.agg es.toArray]) (by simp only [List.map_toArray, List.map_cons, List.map_nil, h6]) ?_
            refine (HIH.out es W (Nat.le_trans HBR.out hS.size) (VF.keep (Keep.of_below hS) (fun _ h _ => h) m es HVF.out)).mono ?_
            rintro e w' ⟨es', rfl, hve, hbb⟩
            exact ⟨_, rfl, ⟨_, rfl, fun vs' h _ => ⟨es', h (fun e => by cases e), VE.lk m _ _ _ _ _ _ hve (fun _ _ _ h => h) (fun k hk _ => hk.imp _root_.id (fun h => HOK.out k (Nat.le_trans hS.size h)))⟩, hbb, hS.trans (hbb.mono hS.size)⟩⟩
          | 8, _, rfl =>
            obtain ⟨es', h1, h2⟩ : ∃ es' : List Value, ac.eval (.tmp 26) = .agg es'.toArray ∧ VE m W (okq B0 (N + 2) (.slice A' q c')) es es' := hdep 7 (by omega) (by kernel_rfl)
            have hbb := below_alloc1 W (.cells es'.toArray 87)
            exact ow_build1 85 87 _ rfl es' h1 Try.underlying85 (by rw [h2.len]; exact bld87) (by rw [h2.len]; omega) (by rw [h2.len]; omega) ⟨_, rfl, fun vs' h _ => ⟨_, es', h (fun e => by cases e), World.alloc_heap_new W _, VE.lk m _ _ _ _ _ _ h2 (Keep.of_below hbb) (fun _ h _ => h)⟩, hbb, hS.trans (hbb.mono hS.size)⟩
          | n + 9, hi, _ => exact absurd hi (by omega)
        case finv =>
          intro vs W hS hF
          have e1 : vs 1 = .slice (A') q c' := hF 1 (by omega)
          have f8 : ∃ (g : Nat) (es' : List Value), vs 8 = .slice (some ⟨g, 0, none⟩) 1 1 ∧ W.heap[g]? = some (.cells es'.toArray 87 (0, 0)) ∧ VE m W (okq B0 (N + 2) (.slice A' q c')) es es' := hF 8 (by omega)
          clear hF
          change wpList _ _ _ _ (Act.put (Act.put (Act.put (Act.put (Act.put (Act.put (Act.put (Act.put (Act.put _ (some 19) (vs 0)) (some 20) (vs 1)) (some 21) (vs 2)) (some 22) (vs 3)) (some 23) (vs 4)) (some 24) (vs 5)) (some 25) (vs 6)) (some 26) (vs 7)) (some 27) (vs 8)) W
          rw [e1]
          clear e1
          generalize vs 0 = z0
          generalize vs 2 = z2
          generalize vs 3 = z3
          generalize vs 4 = z4
          generalize vs 5 = z5
          generalize vs 6 = z6
          generalize vs 7 = z7
          generalize vs 8 = z8 at f8 ⊢
          simp only [putAll, List.drop_succ_cons, List.drop_zero, Act.put, List.setIfInBounds_toArray, List.set_cons_zero, List.set_cons_succ]
          clear vs
          rename World => W8
          obtain ⟨g, es', rfl, hg, hve⟩ := f8
          have HG8 := Lib.hid hg
          have HVE := Lib.hid hve
          have HX8 := Lib.hid (blk_below HX.out hS)
          have HO8 := Lib.hid (ownm_below HO.out hS)
          obtain ⟨rows, hcp⟩ := HCP.out
          have hcp8 := hcp.keep (VE.lk m) (fun k v _ h0 => blk_below h0 hS)
          have HCP8 := Lib.hid hcp8
          have HS8 := Lib.hid hS
          clear hg hve hcp hcp8 hS hx3 hr3
          go_upto_region 6 with (first
            | (at_builtin; refine wpList_append_n rfl (.tmp 20) (.tmp 27) 85 rfl (N + 3) 87 5 80 Try.underlying85 app87 (by decide) _ q rows.flatten (by rfl) HCP8.out.1 (some ⟨g, 0, none⟩) 1 1 es' (by rfl) (by rw [HVE.out.len]) (fun h => by cases h) (fun ad e j x hx => by injection e with e; subst e; rw [add_plain, cell_of_row W8 g _ _ _ _ HG8.out, Nat.zero_add]; simpa using hx) HVE.out.one (by unfold maxLen; omega) (by omega) (by have := blk_lt HX8.out; omega) ?_
               intro v' w9 hown hgr hv
               have HOWN := Lib.hid hown
               obtain ⟨A2, c2, rfl⟩ := own_shape hown
               have HGR := Lib.hid hgr
               have HV := Lib.hid hv
               have HX9 := Lib.hid (blk_grown HX8.out hgr (fun e => by have := ownm_ge HCP8.out.1 _ e.symm; omega))
               clear hown hgr hv)
            | (refine wpList_store_at rfl 85 _ _ rfl (N + 2) 3 rfl 87 _ (.slice A2 (q + 1) c2) [.slice A2 (q + 1) c2] rfl rfl HX9.out (by simp [valC]) (by kernel_rfl) (by intro u hu; rw [List.mem_singleton.1 hu]; rfl) ?_
               intro w10 hT hS hG
               have HX10 := Lib.hid (show w10.heap[N + 2]? = some (.cells (valC (.int .i64 k0) (.int .i64 k1) tx (.slice A2 (q + 1) c2) (.slice KA' ks.length kc')).toArray 87 (0, 0)) from hT)
               have HG10 := Lib.hid hG
               clear hT hS hG))
          have hcm := CpR.more (VE.lk m) HCP8.out (by have := HB.out; have := HN.out; omega) HLEN.out HBB.out (fun j u hj => below_cell HS8.out (HC.out j u hj)) HVE.out.len HVE.out.one HVE.out HOWN.out HGR.out HV.out
          have hcm10 := hcm.keep (VE.lk m) (w' := w10) (fun k v hk h0 => blk_grown h0 HG10.out (fun e => by injection e with e; have := HB.out; have := HN.out; omega))
          have hap := own_apart HO8.out HCP8.out.1 (by decide)
          have ho9 := ownm_keep2 HO8.out (W := w9) (fun g o _ hk h0 => blk_grown h0 HGR.out (fun e => hap g hk e.symm))
          have ho10 := ownm_keep2 ho9 (W := w10) (fun g o hk _ h0 => blk_grown h0 HG10.out (fun e => by injection e with e; omega))
          have hb10 : Below (N + 2) w7 w10 := ((HBL.out.trans (HS8.out.mono (by have := blk_lt HX.out; omega))).grown HGR.out (by have := blk_lt HX8.out; omega) (fun k e => by have := ownm_ge HCP8.out.1 _ e; omega)).grown HG10.out (by have := blk_lt HX9.out; omega) (fun k e => by injection e with e; omega)
          have HF1 := Lib.hid hcm10
          have HF2 := Lib.hid ho10
          have HF3 := Lib.hid hb10
          clear hcm hcm10 hap ho9 ho10 hb10
          go_wp2_with fail
          go_roundw
          case rel => exact ⟨q + 1, _, rfl, by omega, HF3.out, HX10.out, HF2.out, HF1.out⟩
          case measure => simp [intOf]; omega
end Go.Proofs.Ytncjgfhipflokaa
