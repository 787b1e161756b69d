/-
  tidewrackref07.Copy: a tree, copied.
-/
import Derived.Test.YtncjgfhipflokaaVb
namespace Go.Proofs.Ytncjgfhipflokaa
open Go.RowKit Go.Shelf Hp Go.Maps

/-- the cells of a revision's name -/
def RevC (r : List Value) : Prop := ∃ (g : Int) (hs : List Int), r = .int .u64 g :: hs.map (Value.int .u8) ∧ hs.length = 16
/-- the cells of a node, but for its body -/
def NodeC (a : List Value) : Prop := ∃ r1 r2 i j, a = r1 ++ (r2 ++ [.int .i64 i, .int .i64 j]) ∧ RevC r1 ∧ RevC r2
theorem RevC.len {r : List Value} (h : RevC r) : r.length = 17 := by obtain ⟨g, hs, rfl, h1⟩ := h; simp [h1]
theorem RevC.one {r : List Value} (h : RevC r) : ∀ u ∈ r, u.oneCell' = true := by
  obtain ⟨g, hs, rfl, h1⟩ := h
  intro u hu
  rcases List.mem_cons.1 hu with rfl | hu
  · rfl
  · obtain ⟨x, _, rfl⟩ := List.mem_map.1 hu; rfl
theorem NodeC.len {a : List Value} (h : NodeC a) : a.length = 36 := by obtain ⟨r1, r2, i, j, rfl, h1, h2⟩ := h; simp [h1.len, h2.len]
theorem NodeC.one {a : List Value} (h : NodeC a) : ∀ u ∈ a, u.oneCell' = true := by
  obtain ⟨r1, r2, i, j, rfl, h1, h2⟩ := h
  intro u hu
  simp only [List.mem_append, List.mem_cons, List.not_mem_nil, or_false] at hu
  rcases hu with hu | hu | rfl | rfl
  · exact h1.one u hu
  · exact h2.one u hu
  · rfl
  · rfl
def NF (w : World) (ok : Nat → Prop) (m : Nat) (es : List Value) : Prop := ∃ a b, NodeC a ∧ es = a ++ b ∧ VF w ok m b
def NE (m : Nat) (w : World) (ok : Nat → Prop) (es es' : List Value) : Prop := ∃ a b b', NodeC a ∧ es = a ++ b ∧ es' = a ++ b' ∧ VE m w ok b b'
def TF (w : World) (ok : Nat → Prop) (m : Nat) (nd : Value) : Prop := ∃ n, One w ok 41 nd n (NF w ok m)
def TE (m : Nat) (w : World) (ok : Nat → Prop) (nd nd' : Value) : Prop := ∃ n, Two w ok 41 nd nd' n (NE m w ok)
theorem NE.lk (m : Nat) : Lk (NE m) := by
  rintro w w' ok ok' es r ⟨a, b, b', h1, h2, h3, h4⟩ hk ho
  exact ⟨a, b, b', h1, h2, h3, VE.lk m _ _ _ _ _ _ h4 hk ho⟩
theorem NE.len {m : Nat} {w : World} {ok : Nat → Prop} {es es' : List Value} (h : NE m w ok es es') : es'.length = 41 := by
  obtain ⟨a, b, b', h1, -, rfl, h4⟩ := h
  simp [h1.len, h4.len]
theorem NE.one {m : Nat} {w : World} {ok : Nat → Prop} {es es' : List Value} (h : NE m w ok es es') : ∀ u ∈ es', u.oneCell' = true := by
  obtain ⟨a, b, b', h1, -, rfl, h4⟩ := h
  intro u hu
  rcases List.mem_append.1 hu with hu | hu
  · exact h1.one u hu
  · exact h4.one u hu
theorem VF.one {w : World} {ok : Nat → Prop} {m : Nat} {cs : List Value} (h : VF w ok m cs) : ∀ u ∈ cs, u.oneCell' = true := by
  cases m with
  | zero => exact h.elim
  | succ m =>
    obtain ⟨k0, k1, tx, lv, kv, n, ks, rfl, _, ⟨KA, kc, rfl, _⟩, ⟨LA, lc, rfl, _⟩⟩ := h
    exact valC_one _ _ rfl rfl _ _ _ _ _ _ _
theorem NF.one {w : World} {ok : Nat → Prop} {m : Nat} {es : List Value} (h : NF w ok m es) : ∀ u ∈ es, u.oneCell' = true := by
  obtain ⟨a, b, h1, rfl, h4⟩ := h
  intro u hu
  rcases List.mem_append.1 hu with hu | hu
  · exact h1.one u hu
  · exact h4.one u hu
theorem NF.keep {w w' : World} {ok ok' : Nat → Prop} {m : Nat} {es : List Value} (h : NF w ok m es) (hk : Keep ok w w') (ho : ∀ b, ok b → b < w.heap.size → ok' b) : NF w' ok' m es := by
  obtain ⟨a, b, h1, h2, h3⟩ := h
  exact ⟨a, b, h1, h2, h3.keep hk ho⟩
theorem TF.keep {w w' : World} {ok ok' : Nat → Prop} {m : Nat} {nd : Value} (h : TF w ok m nd) (hk : Keep ok w w') (ho : ∀ b, ok b → b < w.heap.size → ok' b) : TF w' ok' m nd := by
  obtain ⟨n, h⟩ := h
  exact ⟨n, h.keep (by omega) hk ho (fun es h => h.keep hk ho)⟩
theorem TE.lk (m : Nat) : ∀ w w' ok ok' v v', TE m w ok v v' → Keep ok w w' → (∀ b, ok b → b < w.heap.size → ok' b) → TE m w' ok' v v' := by
  rintro w w' ok ok' v v' ⟨n, h⟩ hk ho
  exact ⟨n, h.keep (by omega) hk ho (fun es es' h => NE.lk m _ _ _ _ _ _ h hk ho)⟩
/-- the nothing of a node -/
def zN : List Value := (.int .u64 0 :: List.replicate 16 (.int .u8 0)) ++ ((.int .u64 0 :: List.replicate 16 (.int .u8 0)) ++ [.int .i64 0, .int .i64 0, .int .i64 0, .int .i64 0, .string ⟨#[]⟩, .slice none 0 0, .slice none 0 0])
theorem zero89 (w : World) : (zeroValue 89).run Try.prog w = .ok (.agg zN.toArray) w := by kernel_rfl
theorem zero89' : ∃ Z : Array Value, Z.size = 41 ∧ ∀ w, (zeroValue 89).run Try.prog w = .ok (.agg Z) w := ⟨zN.toArray, by kernel_rfl, zero89⟩
theorem zero42 (w : World) : (zeroValue 42).run Try.prog w = .ok (.agg #[.slice none 0 0]) w := by kernel_rfl
theorem app89 : (Try.prog.info? 89).map (fun i => (i.zero.map (·.cells.size), i.size, i.bytes)) = some (some 41, 41, 144) := by kernel_rfl
theorem bld89 : (Try.prog.info? 89).map (fun i => (i.size, i.zero.isSome)) = some (41, true) := by kernel_rfl
theorem sz42 : (Try.prog.info? 42).map (·.size) = some 1 := by kernel_rfl
theorem sz40 : (Try.prog.info? 40).map (·.size) = some 1 := by kernel_rfl
theorem sl_one (A : Option Addr) (n c : Nat) : ∀ u ∈ #[Value.slice A n c].toList, u.oneCell' = true := by
  intro u hu
  rw [List.mem_singleton.1 hu]; rfl
/-- a row's cells, as cells -/
theorem row_cells {w : World} {g : Nat} {t : TypeId} {cs : List Value} (h : w.heap[g]? = some (.cells cs.toArray t (0, 0))) (k : Nat) : ∀ j u, (cs.drop k)[j]? = some u → w.cell? ⟨g, k + j, none⟩ = some u := by
  intro j u hu
  rw [cell_of_row w g _ _ _ _ h]
  rw [List.getElem?_drop] at hu
  simpa using hu

set_option maxHeartbeats 4000000 in
set_option maxRecDepth 8000 in
theorem copyT_any (B0 m : Nat) (nd : Value) (W : World) (hB : B0 ≤ W.heap.size) (h : TF W (fun b => b < B0) m nd) :
    Calls Try.prog 32 #[.agg #[nd]] W fun e w' => ∃ nd', e = .returned (.agg #[nd']) ∧ TE m w' (fun b => b < B0 ∨ W.heap.size ≤ b) nd nd' ∧ Below W.heap.size W w' := by
  obtain ⟨n, LA, lc, rfl, hln, hla⟩ := h
  obtain ⟨Z, hZ, hz89⟩ := zero89'
  have HZ89 := Lib.hid hz89
  clear hz89
  obtain ⟨N, hN⟩ : ∃ N, N = W.heap.size := ⟨_, rfl⟩
  obtain ⟨W0, hW0⟩ : ∃ W0, W0 = W.alloc (.cells #[.slice LA n lc] 42) := ⟨_, rfl⟩
  have hrow : W0.heap[N]? = some (.cells #[.slice LA n lc] 42 (0, 0)) := by rw [hW0, hN]; exact World.alloc_heap_new W _
  have hbel : Below W.heap.size W W0 := by rw [hW0]; exact (Below.refl _ W).alloc (Nat.le_refl _) _
  obtain ⟨b, o, hbo⟩ : ∃ b o, n = 0 ∨ (LA = some ⟨b, o, none⟩ ∧ b < B0 ∧ ∀ k, k < n → ∃ es : List Value, es.length = 41 ∧ (∀ j u, es[j]? = some u → W.cell? ⟨b, o + k * 41 + j, none⟩ = some u) ∧ NF W (fun b => b < B0) m es) := by
    rcases hla with h | ⟨b, o, h1, h2, h3⟩
    · exact ⟨0, 0, .inl h⟩
    · exact ⟨b, o, .inr ⟨h1, h2, h3⟩⟩
  have hsz : W0.heap.size = N + 1 := by rw [hW0, hN]; simp
  have HSZ0 := Lib.hid hsz
  have HROW := Lib.hid hrow
  have HBEL := Lib.hid hbel
  have HN := Lib.hid hN
  have HBO := Lib.hid hbo
  have HB := Lib.hid hB
  have hn1 : n ≤ 9223372036854775807 := by omega
  clear hrow hbel hbo hB hla hsz
  go_enter Try.func32, Try.ntmps32
  go_upto_region 1 with (rw [← HN.out, ← hW0]; refine wpList_alloc_row rfl 42 rfl _ (zero42 _) ?_; rw [HSZ0.out]; intro w1 hT hS hG; have HT1 := Lib.hid hT; have HS1 := Lib.hid hS; have HG1 := Lib.hid (below_of_grown hG); clear hT hS hG)
  simp only [Act.put]
  clear hN hW0
  have HR1 := Lib.hid (blk_below HROW.out HG1.out)
  have hs1 : w1.heap.size = N + 2 := by have := HS1.out; have := HSZ0.out; omega
  have HZ1 := Lib.hid hs1
  have HB1 := Lib.hid (HBEL.out.trans (HG1.out.mono HBEL.out.size))
  clear HROW HBEL HSZ0 HG1 HS1 hs1
  go_upto_region 2 with (refine wpList_alloc_row rfl 42 rfl _ (zero42 _) ?_; rw [HZ1.out]; intro w2 hT hS hG; have HX2 := Lib.hid hT; have HG2 := Lib.hid (below_of_grown hG); clear hT hS hG)
  simp only [Act.put]
  have HR2 := Lib.hid (blk_below HR1.out HG2.out)
  have HQ2 := Lib.hid (blk_below HT1.out HG2.out)
  have HB2 := Lib.hid (HB1.out.trans (HG2.out.mono HB1.out.size))
  clear HR1 HT1 HZ1 HB1 HG2
  go_wp2_with fail
  go_loopw [4] (fun vi wr => ∃ (q : Nat) (lvx : Value), vi = .int .i64 (q : Int) ∧ q ≤ n ∧ Below (N + 2) w2 wr ∧ wr.heap[N + 2]? = some (.cells #[lvx] 42 (0, 0)) ∧ Cp (NE m) B0 (N + 2) 89 41 b o q lvx wr) (fun vi _ => n - (intOf vi).toNat)
  case atStart => exact ⟨0, .slice none 0 0, rfl, Nat.zero_le _, Below.refl _ _, HX2.out, Cp.zero (own_nil _ _ _ _)⟩
  case round =>
    obtain ⟨q, lvx, rfl, hq, hbl, hx, hcp⟩ := hrel
    obtain ⟨A', c', rfl⟩ := hcp.shape
    have hr0 : wr.cell? ⟨N, 0, none⟩ = some (.slice LA n lc) := cell_of_row wr N 0 _ _ _ ((hbl.block N (by omega)).trans HR2.out)
    have HQ := Lib.hid ((hbl.block (N + 1) (by omega)).trans HQ2.out)
    have HBL := Lib.hid hbl
    have HX := Lib.hid hx
    have HCP := Lib.hid hcp
    have HBW := Lib.hid (HB2.out.trans (hbl.mono (by have := HN.out; omega)))
    clear hbl hx hcp HX2
    rcases (show q = n ∨ q < n by omega) with rfl | hql
    · have hd : decide ((q : Int) < (q : Int)) = false := by simp
      go_wp2_with (first
        | (refine wpList_load_row rfl 42 _ rfl (N + 2) rfl 42 _ (0, 0) _ HX.out Try.underlying42 rfl (by kernel_rfl) ?_)
        | (refine wpList_store_row rfl 42 _ _ rfl (N + 1) rfl 42 _ _ rfl HQ.out rfl (by kernel_rfl) (sl_one _ _ _) ?_; intro w9 hT hS hG; have HT9 := Lib.hid hT; have HG9 := Lib.hid hG; clear hT hS hG))
      have hbw9 : Below W.heap.size W w9 := HBW.out.grown HG9.out HBW.out.size (fun k e => by injection e with e; have := HN.out; omega)
      have hcp9 := HCP.out.keep (NE.lk m) (w' := w9) (fun k v hk h0 => blk_grown h0 HG9.out (fun e => by injection e with e; have := HB.out; have := HN.out; omega))
      have hve : TE m w9 (fun b => b < B0 ∨ W.heap.size ≤ b) (.slice LA q lc) (.slice A' q c') := by
        refine ⟨q, ?_⟩
        rcases HBO.out with h0 | ⟨e, hb, _⟩
        · exact ⟨LA, lc, A', c', rfl, rfl, hln, .inl h0⟩
        · rw [e]
          exact hcp9.two (NE.lk m) (by omega) hln (fun k hk _ => hk.imp _root_.id (fun h => by have := HN.out; omega))
      refine bodyPost_ret (v := .agg #[.slice A' q c']) ?_ rfl ⟨_, rfl, hve, hbw9⟩
      exact results_cell_row rfl _ w9 (N + 1) 42 _ (0, 0) _ rfl HT9.out Try.underlying42 rfl (by kernel_rfl)
    · have hd : decide ((q : Int) < (n : Int)) = true := by simp; omega
      have hd' : decide (q < n) = true := by simp; omega
      obtain ⟨rfl, hb, hla⟩ := HBO.out.resolve_left (by omega)
      obtain ⟨es, hlen, hces, hnf⟩ := hla q hql
      have HLEN := Lib.hid hlen
      have HC := Lib.hid (show ∀ j u, es[j]? = some u → wr.cell? ⟨b, o + q * 41 + j, none⟩ = some u from fun j u hj => below_cell HBW.out (hces j u hj))
      have HNF := Lib.hid (hnf.keep (Keep.of_below HBW.out) (fun _ h _ => h))
      have HBB := Lib.hid hb
      have HBR := Lib.hid (show B0 ≤ wr.heap.size from by have := HB.out; have := HBW.out.size; omega)
      have HOK := Lib.hid (show ∀ k, wr.heap.size ≤ k → N + 2 < k ∧ (Value.slice A' q c').ownBlock ≠ some k from fun k hk => ⟨by have := blk_lt HX.out; omega, fun e => by obtain ⟨rows, hr, _⟩ := HCP.out; have := ownm_lt hr k e; omega⟩)
      obtain ⟨G1, hG1⟩ : ∃ G, G = wr.heap.size := ⟨_, rfl⟩
      have HG1 := Lib.hid hG1
      have HSZE := Lib.hid (show es.toArray.size = Z.size from (show es.toArray.size = 41 from hlen).trans hZ.symm)
      clear hlen hces hnf hb hla HQ hG1
      go_upto_region 6 with (first
        | (refine wpList_index_n rfl _ _ 89 40 41 rfl b o n lc q rfl rfl hql Try.underlying40 info89 ?_)
        | (refine wpList_load_at rfl 89 _ rfl b (o + q * 41) rfl es _ HC.out Try.underlying89 rfl (by rw [HLEN.out]; exact info89) ?_)
        | (refine wpList_alloc_row rfl 89 rfl _ (HZ89.out _) ?_; rw [← HG1.out]; intro w3 hT hS hG; have HT3 := Lib.hid (show w3.heap[G1]? = some (.cells Z 89 (0, 0)) from hT); have HG3 := Lib.hid (below_of_grown hG); clear hT hS hG)
        | (refine wpList_store_row rfl 89 _ _ rfl G1 rfl 89 _ _ rfl HT3.out HSZE.out (by rw [show es.toArray.size = 41 from HLEN.out]; exact info89) HNF.out.one ?_; intro w4 hT hS hG; have HT4 := Lib.hid hT; have HG4 := Lib.hid hG; clear hT hS hG))
      have HB4 := Lib.hid (HG3.out.grown HG4.out HG3.out.size (fun k e => by injection e with e; have := HG1.out; omega))
      simp only [Act.put, List.setIfInBounds_toArray, List.set_cons_zero, List.set_cons_succ]
      obtain ⟨a0, b0, hna, hes, hvb⟩ := HNF.out
      subst hes
      have hbl0 : (a0 ++ b0).drop 36 = b0 := by rw [← hna.len]; simp
      have hb05 : b0.length = 5 := hvb.len
      have HBODY := Lib.hid (show ∀ j u, b0[j]? = some u → w4.cell? ⟨G1, 36 + j, none⟩ = some u from by have := row_cells HT4.out 36; rwa [hbl0] at this)
      have HCV := Lib.hid (copyV_any B0 m b0 w4 (by have := HBR.out; have := HB4.out.size; omega) (hvb.keep (Keep.of_below HB4.out) (fun _ h _ => h)))
      have HNA := Lib.hid hna
      have HB05 := Lib.hid hb05
      have HG14 := Lib.hid (show G1 < w4.heap.size from blk_lt HT4.out)
      have HX4 := Lib.hid (blk_below HX.out HB4.out)
      clear hna hbl0 hb05 hvb HT3 HG3 HG4 HNF HSZE HLEN
      go_wp2_with (refine wpList_load_at rfl 87 _ rfl G1 36 rfl b0 _ HBODY.out Try.underlying87 rfl (by rw [HB05.out]; exact info87) ?_)
      refine HCV.out.mono ?_
      rintro e w5 ⟨b1, rfl, hve, hb5⟩
      have HVE := Lib.hid hve
      have HB5 := Lib.hid hb5
      have HT5 := Lib.hid (blk_below HT4.out hb5)
      have HX5 := Lib.hid (blk_below HX4.out hb5)
      clear hve hb5 HCV
      go_upto_region 7 with (refine wpList_store_at rfl 87 _ _ rfl G1 36 rfl 89 _ (.agg b1.toArray) b1 rfl rfl HT5.out (by rw [HVE.out.len]; simp [HNA.out.len, HB05.out]) (by rw [HVE.out.len]; exact info87) HVE.out.one ?_; intro w6 hT hS hG; have HT6 := Lib.hid hT; have HG6 := Lib.hid hG; clear hT hS hG)
      simp only [Act.put]
      have ht6 : w6.heap[G1]? = some (.cells (a0 ++ b1).toArray 89 (0, 0)) := by
        rw [HT6.out]
        congr 2
        have h1 : (a0 ++ b0).toArray.toList.take 36 = a0 := by rw [← HNA.out.len]; simp
        have h2 : (a0 ++ b0).toArray.toList.drop (36 + b1.length) = [] := by
          apply List.drop_of_length_le
          simp [HNA.out.len, HB05.out, HVE.out.len]
        rw [h1, h2, List.append_nil]
      have hne6 : NE m w6 (okq B0 (N + 2) (.slice A' q c')) (a0 ++ b0) (a0 ++ b1) := by
        refine ⟨a0, b0, b1, HNA.out, rfl, rfl, VE.lk m _ _ _ _ _ _ HVE.out (fun k v hk h0 => blk_grown h0 HG6.out (fun e => by
          injection e with e
          have := HG14.out
          have := HBR.out
          have := HG1.out
          rcases hk with hk | hk <;> omega)) (fun k hk _ => hk.imp _root_.id (fun h => HOK.out k (by have := HB4.out.size; omega)))⟩
      have HT6' := Lib.hid ht6
      have HNE6 := Lib.hid hne6
      have HX6 := Lib.hid (blk_grown HX5.out HG6.out (fun e => by injection e with e; have := HG1.out; have := blk_lt HX.out; omega))
      have hx0 : w6.cell? ⟨N + 2, 0, none⟩ = some (.slice A' q c') := cell_of_row w6 (N + 2) 0 _ _ _ HX6.out
      have HNL := Lib.hid (show (a0 ++ b1).length = 41 from hne6.len)
      obtain ⟨G7, hG7⟩ : ∃ G, G = w6.heap.size := ⟨_, rfl⟩
      have HG7 := Lib.hid hG7
      obtain ⟨rows, hcpr⟩ := HCP.out
      have HCPR := Lib.hid hcpr
      clear hG7 ht6 hne6 hcpr
      go_upto_region 4 with (first
        | (refine wpList_load_row rfl 89 _ rfl G1 rfl 89 _ (0, 0) _ HT6'.out Try.underlying89 rfl (by rw [show (a0 ++ b1).toArray.size = 41 from HNL.out]; exact info89) ?_)
        | (refine wpList_build1 rfl 40 89 _ rfl (a0 ++ b1) rfl Try.underlying40 (by rw [HNL.out]; exact bld89) (by rw [HNL.out]; omega) (by rw [HNL.out]; omega) ?_; rw [← HG7.out]; intro w7 hT hG; have HT7 := Lib.hid hT; have HB7 := Lib.hid (show Below w6.heap.size w6 w7 from by rw [← HG7.out]; exact hG); clear hT hG
           have HCP7 := Lib.hid (CpR.keep (NE.lk m) HCPR.out (w' := w7) (fun k v _ h0 => blk_below (blk_grown (blk_below (blk_below h0 HB4.out) HB5.out) HG6.out (fun e => by injection e with e; have := blk_lt h0; have := HG1.out; omega)) HB7.out))
           have HX7 := Lib.hid (blk_below HX6.out HB7.out))
        | (at_builtin; refine wpList_append_n rfl (.tmp 23) (.tmp 25) 40 rfl (N + 3) 89 41 144 Try.underlying40 app89 (by decide) _ q rows.flatten (by rfl) HCP7.out.1 (some ⟨G7, 0, none⟩) 1 1 (a0 ++ b1) (by rfl) (by rw [HNL.out]) (fun h => by cases h) (fun ad e j x hx => by injection e with e; subst e; rw [add_plain, cell_of_row w7 G7 _ _ _ _ HT7.out, Nat.zero_add, List.getElem?_toArray]; exact hx) HNE6.out.one (by unfold maxLen; omega) (by omega) (by have := blk_lt HX7.out; omega) ?_
           intro v' w9 hown hgr hv
           have HOWN := Lib.hid hown
           obtain ⟨A2, c2, rfl⟩ := own_shape hown
           have HGR := Lib.hid hgr
           have HV := Lib.hid hv
           have HX9 := Lib.hid (blk_grown HX7.out hgr (fun e => by have := ownm_ge HCP7.out.1 _ e.symm; omega))
           clear hown hgr hv)
        | (refine wpList_store_at rfl 40 _ _ rfl (N + 2) 0 rfl 42 _ (.slice A2 (q + 1) c2) [.slice A2 (q + 1) c2] rfl rfl HX9.out (by simp) (by kernel_rfl) (by intro u hu; rw [List.mem_singleton.1 hu]; rfl) ?_
           intro w10 hT hS hG
           have HX10 := Lib.hid (show w10.heap[N + 2]? = some (.cells #[.slice A2 (q + 1) c2] 42 (0, 0)) from hT)
           have HG10 := Lib.hid hG
           clear hT hS hG))
      have hbw7 : Below wr.heap.size wr w7 := ((HB4.out.trans (HB5.out.mono HB4.out.size)).grown HG6.out (by have := HB4.out.size; have := HB5.out.size; omega) (fun k e => by injection e with e; have := HG1.out; omega)).trans (HB7.out.mono (by have := HB4.out.size; have := HB5.out.size; have := HG6.out.size; omega))
      have hcm := CpR.more (NE.lk m) HCP7.out (by have := HB.out; have := HN.out; omega) (es := a0 ++ b0) (by simp [HNA.out.len, HB05.out]) HBB.out (fun j u hj => below_cell hbw7 (HC.out j u hj)) HNE6.out.len HNE6.out.one (NE.lk m _ _ _ _ _ _ HNE6.out (Keep.of_below HB7.out) (fun _ h _ => h)) HOWN.out HGR.out HV.out
      have hcm10 := hcm.keep (NE.lk m) (w' := w10) (fun k v hk h0 => blk_grown h0 HG10.out (fun e => by injection e with e; have := HB.out; have := HN.out; omega))
      have hb10 : Below (N + 2) w2 w10 := ((HBL.out.trans (hbw7.mono (by have := blk_lt HX.out; omega))).grown HGR.out (by have := blk_lt HX7.out; omega) (fun k e => by have := ownm_ge HCP7.out.1 _ e; omega)).grown HG10.out (by have := blk_lt HX9.out; omega) (fun k e => by injection e with e; omega)
      have HF1 := Lib.hid hcm10
      have HF3 := Lib.hid hb10
      clear hcm hcm10 hb10 hbw7
      go_wp2_with fail
      go_roundw
      case rel => exact ⟨q + 1, _, rfl, by omega, HF3.out, HX10.out, HF1.out⟩
      case measure => simp [intOf]; omega
end Go.Proofs.Ytncjgfhipflokaa
