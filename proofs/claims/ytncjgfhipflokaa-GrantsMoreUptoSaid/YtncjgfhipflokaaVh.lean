/-
  GrantsMore: the walk.
-/
import Derived.Test.YtncjgfhipflokaaVg
namespace Go.Proofs.Ytncjgfhipflokaa
open Go.RowKit Go.Shelf Hp Go.Maps

theorem bld48 : (Try.prog.info? 48).map (fun i => (i.size, i.zero.isSome)) = some (2, true) := by kernel_rfl
theorem fld45_4' : Fld 45 4 4 := fun _ _ _ => by kernel_rfl
theorem cellG {w W : World} {r : Option Nat} {b i : Nat} {v : Value} (hc : w.cell? ⟨b, i, none⟩ = some v) (hP : w.grownBy W r) (hne : some b ≠ r) : W.cell? ⟨b, i, none⟩ = some v :=
  (World.cell?_of_block (a := ⟨b, i, none⟩) (hP.block b (cell_lt hc) hne)).trans hc
theorem gr_one (g : S × S) : ∀ u ∈ [encStr g.1, encStr g.2], u.oneCell' = true := by
  intro u hu
  simp only [List.mem_cons, List.not_mem_nil, or_false] at hu
  rcases hu with rfl | rfl <;> rfl

set_option maxHeartbeats 8000000 in
set_option maxRecDepth 8000 in
theorem GrantsMore_any (docs : List Doc) (sq : Int) (dv lv sv : Value) (m n ln sn : Nat) (g : S × S) (hgl : g.1.length ≤ maxLen ∧ g.2.length ≤ maxLen) (at_i : Int) (hai : -9223372036854775808 ≤ at_i ∧ at_i ≤ 9223372036854775807) (u : S) (w : World) (hds : DS TreeT w.heap.size w dv docs) (hlv : LocT w lv) (hsv : SeenT w sv)
    (hd0 : One w (fun b => b < w.heap.size) 6 dv n (DF w (fun b => b < w.heap.size) m)) (hl0 : One w (fun b => b < w.heap.size) 2 lv ln onesP) (hs0 : One w (fun b => b < w.heap.size) 22 sv sn onesP) :
    Calls Try.prog 6 #[.agg (stV sq dv lv sv), .agg #[encStr g.1, encStr g.2], .int .i64 at_i, encStr u] w fun e w' => e = .returned (.bool true) ∧ Below w.heap.size w w' := by
  obtain ⟨N, hN⟩ : ∃ N, N = w.heap.size := ⟨_, rfl⟩
  have hds0 := hds
  obtain ⟨DA, dc, rfl, hdc1, hdc2, -⟩ := hds0
  obtain rfl : n = docs.length := by
    obtain ⟨A, c, e, _⟩ := hd0
    injection e with _ e _
    exact e.symm
  have hdl1 : docs.length ≤ 9223372036854775807 := by unfold maxLen at hdc2; omega
  have hg1l : g.1.length ≤ 9223372036854775807 := hgl.1
  have hg2l : g.2.length ≤ 9223372036854775807 := hgl.2
  obtain ⟨W0, hW0⟩ : ∃ W0, W0 = (w.alloc (.cells (stV sq (.slice DA docs.length dc) lv sv) 27)).alloc (.cells #[encStr g.1, encStr g.2] 48) := ⟨_, rfl⟩
  have hrow : W0.heap[N]? = some (.cells (stV sq (.slice DA docs.length dc) lv sv) 27 (0, 0)) := by rw [hW0, hN]; exact blk_alloc (World.alloc_heap_new w _) _
  have hrowg : W0.heap[N + 1]? = some (.cells #[encStr g.1, encStr g.2] 48 (0, 0)) := by rw [hW0]; exact alloc_new_at (by simp [hN])
  have hbel : Below w.heap.size w W0 := by rw [hW0]; exact ((Below.refl _ w).alloc (Nat.le_refl _) _).alloc (by simp) _
  have hlong := long_any w.heap.size docs sq (.slice DA docs.length dc) lv sv W0 (hds.low1 (fun v h => TreeT.below hbel h) (Low.of_all hbel)) (hlv.below hbel) (hsv.below hbel)
  have hst : Small docs → Stt w.heap.size N docs sq (.slice DA docs.length dc) lv sv W0 := fun h => ⟨hds.any.low trueT (Low.of_all hbel), hrow, hbel.size, h.fit⟩
  have hr0 : W0.cell? ⟨N, 0, none⟩ = some (.int .u64 sq) := cell_of_row W0 N 0 _ _ _ hrow
  have hr1 : W0.cell? ⟨N, 1, none⟩ = some (.slice DA docs.length dc) := cell_of_row W0 N 1 _ _ _ hrow
  have hr2 : W0.cell? ⟨N, 2, none⟩ = some lv := cell_of_row W0 N 2 _ _ _ hrow
  have hr3 : W0.cell? ⟨N, 3, none⟩ = some sv := cell_of_row W0 N 3 _ _ _ hrow
  have hlo := hlv.one
  have hso := hsv.one
  have HLO1 := Lib.hid hlo
  have HSO1 := Lib.hid hso
  have HDS := Lib.hid hds
  have HD0 := Lib.hid hd0
  have HL0 := Lib.hid hl0
  have HS0 := Lib.hid hs0
  have HGL := Lib.hid hgl
  have HLONG := Lib.hid hlong
  have HST := Lib.hid hst
  have HBEL := Lib.hid hbel
  have HN := Lib.hid hN
  have HRG := Lib.hid hrowg
  have HAI := Lib.hid hai
  clear hrow hrowg hbel hlong hst hds hlv hsv hd0 hl0 hs0 hgl hai hlo hso hdc1 hdc2
  go_enter Try.func6, Try.ntmps6
  go_upto_region 1 with fail
  rw [← HN.out, ← hW0]
  have HW0 := Lib.hid hW0
  clear hN hW0
  go_wp2_with fail
  refine HLONG.out.mono ?_
  rintro e w1 ⟨⟨bb, rfl, hb⟩, hb1⟩
  have HB := Lib.hid hb
  have HB1 := Lib.hid (HBEL.out.trans (hb1.mono HBEL.out.size))
  have HL1 := Lib.hid hb1
  have hrg1 := blk_below HRG.out hb1
  clear hb hb1 hr0 hr1 hr2 hr3 HLONG
  cases bb with
  | true =>
    clear hrg1
    go_wp2_with fail
    refine (awakeL HB1.out).mono ?_
    rintro e w7 ⟨rfl, hb7⟩
    go_wp2_with fail
    go_ret
    exact ⟨rfl, hb7⟩
  | false =>
    have hst1 := (HST.out (HB.out (by trivial))).below HL1.out
    have HSM := Lib.hid (HB.out (by trivial))
    have HST1 := Lib.hid hst1
    have hr1 : w1.cell? ⟨N, 1, none⟩ = some (.slice DA docs.length dc) := hst1.c.2.1
    have hg0 : w1.cell? ⟨N + 1, 0, none⟩ = some (encStr g.1) := cell_of_row w1 (N + 1) 0 _ _ _ hrg1
    have hg1 : w1.cell? ⟨N + 1, 1, none⟩ = some (encStr g.2) := cell_of_row w1 (N + 1) 1 _ _ _ hrg1
    have HRG1 := Lib.hid hrg1
    clear hst1 HST HB hrg1 HRG
    by_cases c0 : docs.length = 0
    · have hd0 : ((docs.length : Int) == 0) = true := by rw [c0]; rfl
      go_wp2_with fail
      refine (awakeL HB1.out).mono ?_
      rintro e w7 ⟨rfl, hb7⟩
      go_wp2_with fail
      go_ret
      exact ⟨rfl, hb7⟩
    have hd0 : ((docs.length : Int) == 0) = false := by rw [beq_eq_false_iff_ne]; omega
    by_cases c1 : 300 < g.1.length
    · have hd1 : decide ((300 : Int) < (g.1.length : Int)) = true := by simp; omega
      go_wp2_with fail
      refine (awakeL HB1.out).mono ?_
      rintro e w7 ⟨rfl, hb7⟩
      go_wp2_with fail
      go_ret
      exact ⟨rfl, hb7⟩
    have hd1 : decide ((300 : Int) < (g.1.length : Int)) = false := by simp; omega
    by_cases c2 : 300 < g.2.length
    · have hd2 : decide ((300 : Int) < (g.2.length : Int)) = true := by simp; omega
      go_wp2_with fail
      refine (awakeL HB1.out).mono ?_
      rintro e w7 ⟨rfl, hb7⟩
      go_wp2_with fail
      go_ret
      exact ⟨rfl, hb7⟩
    have hd2 : decide ((300 : Int) < (g.2.length : Int)) = false := by simp; omega
    by_cases c3 : 300 < u.length
    · have hd3 : decide ((300 : Int) < (u.length : Int)) = true := by simp; omega
      go_wp2_with fail
      refine (awakeL HB1.out).mono ?_
      rintro e w7 ⟨rfl, hb7⟩
      go_wp2_with fail
      go_ret
      exact ⟨rfl, hb7⟩
    have hd3 : decide ((300 : Int) < (u.length : Int)) = false := by simp; omega
    obtain ⟨hr0, -, hr2, hr3⟩ := HST1.out.c
    have hcs := copyS_any w.heap.size m docs.length ln sn sq (.slice DA docs.length dc) lv sv w1 HB1.out.size
      (HD0.out.keep (by omega) (Keep.of_below HB1.out) (fun b hb _ => hb) (fun es h => h.keep (Keep.of_below HB1.out) (fun b hb _ => hb)))
      (HL0.out.keep (by omega) (Keep.of_below HB1.out) (fun b hb _ => hb) (fun _ h => h)) (HS0.out.keep (by omega) (Keep.of_below HB1.out) (fun b hb _ => hb) (fun _ h => h))
    have HCS := Lib.hid hcs
    clear hcs
    go_wp2_with (refine wpList_load_row rfl 27 _ rfl N rfl 27 _ (0, 0) _ HST1.out.row Try.underlying27 rfl (by kernel_rfl) ?_)
    refine HCS.out.mono ?_
    rintro e w2 ⟨X, b, o, rows, dv', lv', sv', rfl, hX, hcp, hdx, hsrc, htl, hts, hb2⟩
    replace hsrc := hsrc.resolve_left c0
    obtain ⟨c, hsrc⟩ := hsrc
    injection hsrc with hsrc _ hsrc2
    subst hsrc hsrc2
    have hown := copied hcp HDS.out (fun k o hk h0 => blk_below (blk_below h0 HB1.out) hb2)
    obtain ⟨LA', lc', rfl⟩ := htl.one2
    obtain ⟨SA', sc', rfl⟩ := hts.one2
    obtain ⟨A', c', rfl, -, -, hcl⟩ := own_cells hcp.1 hcp.2.1 (fun r hr => (hcp.2.2.1 r hr).1)
    replace hcl := hcl.resolve_left c0
    obtain ⟨bD, rfl, hBD, hbl, hcl⟩ := hcl
    have hXN : N + 1 < X := by have := blk_lt HRG1.out; omega
    have HOWN := Lib.hid hown
    have HCP := Lib.hid hcp
    have HDX := Lib.hid hdx
    have HX := Lib.hid hX
    have HB2 := Lib.hid (HB1.out.trans (hb2.mono HB1.out.size))
    have HST2 := Lib.hid (HST1.out.below hb2)
    have HRG2 := Lib.hid (blk_below HRG1.out hb2)
    obtain ⟨N9, hN9⟩ : ∃ N9, N9 = w2.heap.size := ⟨_, rfl⟩
    have HN9 := Lib.hid hN9
    have HBD := Lib.hid hBD
    have HBL := Lib.hid hbl
    clear hown hcp hdx hX hb2 hN9 htl hts hBD hbl hcl HST1 HRG1 HCS hr0 hr1 hr2 hr3 hg0 hg1 hd0 hd1 hd2 hd3 HD0 HL0 HS0 HDS HL1 HBEL
    go_upto_region 4 with (first
      | (refine wpList_alloc_row rfl 27 rfl _ (zero27 _) ?_; rw [← HN9.out]; intro w3 hT hS hG; have HT3 := Lib.hid hT; have HG3 := Lib.hid (below_of_grown hG); clear hT hS hG)
      | (refine wpList_store_row rfl 27 _ _ rfl N9 rfl 27 _ _ rfl HT3.out rfl (by kernel_rfl) (stV_one rfl rfl rfl) ?_; intro w4 hT hS hG; have HT4 := Lib.hid hT; have HG4 := Lib.hid hG; clear hT hS hG))
    simp only [Act.put, List.setIfInBounds_toArray, List.set_cons_zero, List.set_cons_succ]
    have hk24 : ∀ (k : Nat) (o : Obj), w2.heap[k]? = some o → w4.heap[k]? = some o := fun k o h0 => blk_grown (blk_below h0 HG3.out) HG4.out (fun e => by injection e with e; have := blk_lt h0; have := HN9.out; omega)
    have HB4 := Lib.hid ((HB2.out.trans (HG3.out.mono HB2.out.size)).grown HG4.out (by have := HB2.out.size; have := HG3.out.size; omega) (fun k e => by injection e with e; have := HN9.out; have := HB2.out.size; omega))
    have HTS4 := Lib.hid (show TS X N9 docs.length sq (.slice (some ⟨bD, 0, none⟩) docs.length c') (.slice LA' ln lc') (.slice SA' sn sc') rows docs w4 from
      ⟨HT4.out, ownm_keep2 HCP.out.1 (fun g o _ _ h0 => hk24 g o h0), HCP.out.2.1, rfl, fun k r d h1 h2 => (HOWN.out k r d h1 h2).all hk24⟩)
    have HST4 := Lib.hid (HST2.out.keep (by have := HN.out; omega) (fun k o _ h0 => hk24 k o h0) (by have := HG3.out.size; have := HG4.out.size; omega))
    have HRG4 := Lib.hid (hk24 _ _ HRG2.out)
    clear hk24 HG3 HG4 HT3 HT4 HST2 HRG2 HB2 HOWN HCP
    have hn3 : ((docs.length : Int) == 0) = false := by rw [beq_eq_false_iff_ne]; omega
    have hn4 : ¬ (docs.length : Int) = 0 := by omega
    obtain ⟨am, hm⟩ : ∃ am : Nat, max 0 at_i = (am : Int) := ⟨(max 0 at_i).toNat, by omega⟩
    obtain ⟨k, hk⟩ : ∃ k : Nat, k = am % docs.length := ⟨_, rfl⟩
    have hk1 : (am : Int) % (docs.length : Int) = (k : Int) := by rw [hk]; rfl
    have hk2 : k < docs.length := by rw [hk]; exact Nat.mod_lt _ (by omega)
    have hr4 : w4.cell? ⟨N9, 1, none⟩ = some (.slice (some ⟨bD, 0, none⟩) docs.length c') := cell_of_row w4 N9 1 _ _ _ HTS4.out.row
    clear hk
    go_upto_region 5 with fail
    simp only [hk1]
    clear hk1 hn3 hn4 hm hr4
    obtain ⟨dk, hdk⟩ : ∃ d, docs[k]? = some d := ⟨_, List.getElem?_eq_getElem hk2⟩
    have hkr : k < rows.length := by rw [HTS4.out.len]; exact hk2
    obtain ⟨rk, hrk⟩ : ∃ r, rows[k]? = some r := ⟨_, List.getElem?_eq_getElem hkr⟩
    obtain ⟨sqk, ndk, chk, grk, gnk, hrk0, -, -, ho2, -⟩ := HTS4.out.docs k rk dk hrk hdk
    obtain ⟨GA, gc, rfl⟩ := own_shape ho2
    obtain ⟨A2, c2, e2, -, -, hcl⟩ := own_cells HTS4.out.own HTS4.out.len HTS4.out.rowlen
    injection e2 with e2 _ e3
    subst e2 e3
    replace hcl := hcl.resolve_left c0
    obtain ⟨b2, e2, -, -, hcl⟩ := hcl
    injection e2 with e2
    injection e2 with e2
    subst e2
    obtain ⟨cur, hcur, hcsz⟩ : ∃ cur, w4.heap[bD]? = some (.cells cur 45 (0, 0)) ∧ docs.length * 6 ≤ cur.size := by
      rcases HTS4.out.own.2 with ⟨e, _⟩ | ⟨g', cap, cu, e, _, h0, h3, _, h5, _⟩
      · cases e
      · injection e with e _ _
        injection e with e
        injection e with e
        subst e
        exact ⟨cu, h0, by rw [h5]; exact Nat.mul_le_mul_right 6 h3⟩
    have hc4 : w4.cell? ⟨bD, 0 + k * 6 + 4, none⟩ = some (.slice GA dk.grants.length gc) := hcl k 4 rk _ hrk (by rw [hrk0]; rfl)
    have hgX : ∀ b, (Value.slice GA dk.grants.length gc).ownBlock = some b → X < b := fun b hb => HDX.out.2 rk (List.mem_of_getElem? hrk) b (by rw [hrk0]; exact hb)
    have hgR : (rk.getD 4 undef) = .slice GA dk.grants.length gc := by rw [hrk0]; rfl
    have hg48 : ∀ b cs t, t ≠ 48 → w4.heap[b]? = some (.cells cs t (0, 0)) → some b ≠ (Value.slice GA dk.grants.length gc).ownBlock := by
      intro b cs t ht h0 e
      rcases ho2.2 with ⟨e0, _⟩ | ⟨g', cap, cu, e0, _, g2, _⟩
      · rw [e0] at e; cases e
      · rw [e0] at e
        have : b = g' := by simpa [Value.ownBlock] using e
        subst this
        rw [h0] at g2
        injection g2 with g2
        injection g2 with _ g2
        exact ht g2
    have HNE1 := Lib.hid (hg48 N9 _ 27 (by decide) HTS4.out.row)
    have HNE2 := Lib.hid (hg48 bD _ 45 (by decide) hcur)
    have HNE3 := Lib.hid (show some (N + 1) ≠ (Value.slice GA dk.grants.length gc).ownBlock from fun e => by have := hgX _ e.symm; omega)
    have HC1 := Lib.hid (show w4.cell? ⟨N9, 0 + 1, none⟩ = some (.slice (some ⟨bD, 0, none⟩) docs.length c') from cell_of_row w4 N9 1 _ _ _ HTS4.out.row)
    have HC4 := Lib.hid hc4
    have HO2 := Lib.hid ho2
    have HGX := Lib.hid hgX
    have HGR := Lib.hid hgR
    have HDK := Lib.hid hdk
    have HRK := Lib.hid hrk
    have HCUR := Lib.hid hcur
    have HLT := Lib.hid (show k * 6 + 4 + [Value.slice GA 0 0].length ≤ cur.size from by simp only [List.length_singleton]; omega)
    have hgl1 : dk.grants.length ≤ 60 := (HSM.out.2 dk (List.mem_of_getElem? hdk)).2
    clear hdk hkr hrk hrk0 ho2 hcl hcur hcsz hc4 hgX hgR hg48
    refine region_g_p 12 (fun k j => decide (k = 11 ∧ j = 10)) (fun i vs W => match i with
        | 0 => vs 0 = .pointer (some ⟨N9, 0 + 1, none⟩)
        | 1 => vs 1 = .slice (some ⟨bD, 0, none⟩) docs.length c'
        | 2 => vs 2 = .int .i64 (k : Int)
        | 3 => vs 3 = .pointer (some ⟨N9, 0 + 1, none⟩)
        | 4 => vs 4 = .slice (some ⟨bD, 0, none⟩) docs.length c'
        | 5 => vs 5 = .int .i64 (k : Int)
        | 6 => vs 6 = .pointer (some ⟨bD, 0 + k * 6, none⟩)
        | 7 => vs 7 = .pointer (some ⟨bD, 0 + k * 6 + 4, none⟩)
        | 8 => vs 8 = .slice GA dk.grants.length gc
        | 9 => vs 9 = .agg [encStr g.1, encStr g.2].toArray
        | 10 => ∃ g0, vs 10 = .slice (some ⟨g0, 0, none⟩) 1 1 ∧ W.heap[g0]? = some (.cells [encStr g.1, encStr g.2].toArray 48 (0, 0))
        | 11 => W.ownsRow 0 48 2 (vs 11) (dk.grants.length + 1) ((grC dk.grants).flatten ++ [encStr g.1, encStr g.2]) ∧ ∀ b, (vs 11).ownBlock = some b → (Value.slice GA dk.grants.length gc).ownBlock = some b ∨ w4.heap.size ≤ b
        | _ => True) (fun k W W' => k ≠ 11 → Below W.heap.size W W') (fun W => w4.grownBy W (Value.slice GA dk.grants.length gc).ownBlock) (fun i _ W => i = 11 → W.ownsRow 0 48 2 (.slice GA dk.grants.length gc) dk.grants.length (grC dk.grants).flatten) (by kernel_rfl) (by kernel_rfl) ?hst ?h0 ?hp0 ?step ?fin
    case hst =>
      intro i k vs W W' hki hdk hck h hG
      have hck := of_decide_eq_false hck
      match i, h with
      | 0, h => exact h
      | 1, h => exact h
      | 2, h => exact h
      | 3, h => exact h
      | 4, h => exact h
      | 5, h => exact h
      | 6, h => exact h
      | 7, h => exact h
      | 8, h => exact h
      | 9, h => exact h
      | 10, ⟨g0, e1, e2⟩ => exact ⟨g0, e1, blk_below e2 (hG (by omega))⟩
      | 11, ⟨e1, e2⟩ => exact ⟨ownm_below e1 (hG (fun e => hki e)), e2⟩
      | n + 12, _ => trivial
    case h0 => exact grown_drew (grown_refl _ _)
    case hp0 => intro i _ _; exact HO2.out
    case step =>
      intro i op hi ho ac W hS hPd hag hdep
      have hbr : Below W.heap.size W W := Below.refl _ _
      match i, hi, ho with
      | 0, _, rfl =>
        refine gstep rfl ?_
        exact ow_field fld27_1 _ rfl N9 0 (hag 9 rfl) ⟨_, rfl, fun vs' h _ => h (fun e => by cases e), fun _ => hbr, hS, fun j _ _ _ h => h⟩
      | 1, _, rfl =>
        refine gstep rfl ?_
        have hp : ac.eval (.tmp 51) = .pointer (some ⟨N9, 0 + 1, none⟩) := hdep 0 (by omega) (by kernel_rfl) (fun k _ h => by have h := of_decide_eq_true h; omega)
        exact ow_load_slice' _ 45 23 rfl N9 (0 + 1) hp (some ⟨bD, 0, none⟩) docs.length c' (cellG HC1.out hS HNE1.out) Try.underlying23 ⟨_, rfl, fun vs' h _ => h (fun e => by cases e), fun _ => hbr, hS, fun j _ _ _ h => h⟩
      | 2, _, rfl =>
        refine gstep rfl ?_
        exact ow_move _ rfl (v := .int .i64 (k : Int)) (hag 10 rfl) ⟨_, rfl, fun vs' h _ => h (fun e => by cases e), fun _ => hbr, hS, fun j _ _ _ h => h⟩
      | 3, _, rfl =>
        refine gstep rfl ?_
        exact ow_field fld27_1 _ rfl N9 0 (hag 9 rfl) ⟨_, rfl, fun vs' h _ => h (fun e => by cases e), fun _ => hbr, hS, fun j _ _ _ h => h⟩
      | 4, _, rfl =>
        refine gstep rfl ?_
        have hp : ac.eval (.tmp 54) = .pointer (some ⟨N9, 0 + 1, none⟩) := hdep 3 (by omega) (by kernel_rfl) (fun k _ h => by have h := of_decide_eq_true h; omega)
        exact ow_load_slice' _ 45 23 rfl N9 (0 + 1) hp (some ⟨bD, 0, none⟩) docs.length c' (cellG HC1.out hS HNE1.out) Try.underlying23 ⟨_, rfl, fun vs' h _ => h (fun e => by cases e), fun _ => hbr, hS, fun j _ _ _ h => h⟩
      | 5, _, rfl =>
        refine gstep rfl ?_
        exact ow_move _ rfl (v := .int .i64 (k : Int)) (hag 10 rfl) ⟨_, rfl, fun vs' h _ => h (fun e => by cases e), fun _ => hbr, hS, fun j _ _ _ h => h⟩
      | 6, _, rfl =>
        refine gstep rfl ?_
        have hs : ac.eval (.tmp 55) = .slice (some ⟨bD, 0, none⟩) docs.length c' := hdep 4 (by omega) (by kernel_rfl) (fun k _ h => by have h := of_decide_eq_true h; omega)
        have hi : ac.eval (.tmp 56) = .int .i64 (k : Int) := hdep 5 (by omega) (by kernel_rfl) (fun k _ h => by have h := of_decide_eq_true h; omega)
        exact ow_index_n _ _ 45 23 6 rfl bD 0 docs.length c' k hs hi hk2 Try.underlying23 info45 ⟨_, rfl, fun vs' h _ => h (fun e => by cases e), fun _ => hbr, hS, fun j _ _ _ h => h⟩
      | 7, _, rfl =>
        refine gstep rfl ?_
        have hp : ac.eval (.tmp 57) = .pointer (some ⟨bD, 0 + k * 6, none⟩) := hdep 6 (by omega) (by kernel_rfl) (fun k _ h => by have h := of_decide_eq_true h; omega)
        exact ow_field fld45_4' _ rfl bD (0 + k * 6) hp ⟨_, rfl, fun vs' h _ => h (fun e => by cases e), fun _ => hbr, hS, fun j _ _ _ h => h⟩
      | 8, _, rfl =>
        refine gstep rfl ?_
        have hp : ac.eval (.tmp 58) = .pointer (some ⟨bD, 0 + k * 6 + 4, none⟩) := hdep 7 (by omega) (by kernel_rfl) (fun k _ h => by have h := of_decide_eq_true h; omega)
        exact ow_load_slice' _ 48 43 rfl bD (0 + k * 6 + 4) hp GA dk.grants.length gc (cellG HC4.out hS HNE2.out) Try.underlying43 ⟨_, rfl, fun vs' h _ => h (fun e => by cases e), fun _ => hbr, hS, fun j _ _ _ h => h⟩
      | 9, _, rfl =>
        refine gstep rfl ?_
        exact ow_load_row 48 _ rfl (N + 1) (hag 5 rfl) 48 _ (0, 0) _ (blk_grown HRG4.out hS HNE3.out) Try.underlying48 rfl (by kernel_rfl) ⟨_, rfl, fun vs' h _ => h (fun e => by cases e), fun _ => hbr, hS, fun j _ _ _ h => h⟩
      | 10, _, rfl =>
        refine gstep rfl ?_
        have h9 : ac.eval (.tmp 60) = .agg [encStr g.1, encStr g.2].toArray := hdep 9 (by omega) (by kernel_rfl) (fun k _ h => by have h := of_decide_eq_true h; omega)
        have hbb := below_alloc1 W (.cells [encStr g.1, encStr g.2].toArray 48)
        exact ow_build1 43 48 _ rfl [encStr g.1, encStr g.2] h9 Try.underlying43 bld48 (by simp) (by simp) ⟨_, rfl, fun vs' h _ => ⟨_, h (fun e => by cases e), World.alloc_heap_new W _⟩, fun _ => hbb, grown_alloc hS _, fun j _ _ _ h e => ownm_below (h e) hbb⟩
      | 11, _, rfl =>
        refine gstep rfl ?_
        have h8 : ac.eval (.tmp 59) = .slice GA dk.grants.length gc := hdep 8 (by omega) (by kernel_rfl) (fun k _ h => by have h := of_decide_eq_true h; omega)
        obtain ⟨g0, e0, hg0⟩ := hdep 10 (by omega) (by kernel_rfl) (fun k _ h => by have h := of_decide_eq_true h; exact .inl h.1)
        have e0 : ac.eval (.tmp 61) = .slice (some ⟨g0, 0, none⟩) 1 1 := e0
        refine ow_append_m (.tmp 59) (.tmp 61) 43 rfl 0 48 2 32 Try.underlying43 app48 (by decide) _ dk.grants.length (grC dk.grants).flatten h8 (hPd rfl) (some ⟨g0, 0, none⟩) 1 1 [encStr g.1, encStr g.2] e0 rfl (fun h => by cases h) (fun ad e j x hx => by injection e with e; subst e; rw [add_plain, cell_of_row W g0 _ _ _ _ hg0, Nat.zero_add, List.getElem?_toArray]; exact hx) (gr_one g) (by unfold maxLen; omega) (by omega) (Nat.zero_le _) ?_
        intro v' w' hown hgr hv
        exact ⟨_, rfl, fun vs' h _ => by rw [h (fun e => by cases e)]; exact ⟨hown, fun b hb => by rcases hv with hv | hv; exact .inl (hv ▸ hb); exact .inr (by rw [hv] at hb; injection hb with hb; have := hS.size; omega)⟩, fun h => absurd rfl h, hS.trans hgr, fun j _ hne _ _ e => absurd e hne⟩
      | n + 12, hi, _ => exact absurd hi (by omega)
    case fin =>
      intro vs W hS hF
      have f1 : vs 1 = .slice (some ⟨bD, 0, none⟩) docs.length c' := hF 1 (by omega) (fun k hk => decide_eq_false (by omega))
      have f2 : vs 2 = .int .i64 (k : Int) := hF 2 (by omega) (fun k hk => decide_eq_false (by omega))
      have f11 : W.ownsRow 0 48 2 (vs 11) (dk.grants.length + 1) ((grC dk.grants).flatten ++ [encStr g.1, encStr g.2]) ∧ ∀ b, (vs 11).ownBlock = some b → (Value.slice GA dk.grants.length gc).ownBlock = some b ∨ w4.heap.size ≤ b := hF 11 (by omega) (fun k hk => decide_eq_false (by omega))
      clear hF
      change wpList _ _ _ _ (Act.put (Act.put (Act.put (Act.put (Act.put (Act.put (Act.put (Act.put (Act.put (Act.put (Act.put (Act.put _ (some 51) (vs 0)) (some 52) (vs 1)) (some 53) (vs 2)) (some 54) (vs 3)) (some 55) (vs 4)) (some 56) (vs 5)) (some 57) (vs 6)) (some 58) (vs 7)) (some 59) (vs 8)) (some 60) (vs 9)) (some 61) (vs 10)) (some 62) (vs 11)) W
      rw [f1, f2]
      clear f1 f2
      generalize vs 0 = z0
      generalize vs 3 = z3
      generalize vs 4 = z4
      generalize vs 5 = z5
      generalize vs 6 = z6
      generalize vs 7 = z7
      generalize vs 8 = z8
      generalize vs 9 = z9
      generalize vs 10 = z10
      generalize vs 11 = z11 at f11 ⊢
      simp only [putAll, List.drop_succ_cons, List.drop_zero, Act.put, List.setIfInBounds_toArray, List.set_cons_zero, List.set_cons_succ]
      clear vs
      rename World => w5
      obtain ⟨hown5, hnew5⟩ := f11
      obtain ⟨GA2, gc2, rfl⟩ := own_shape hown5
      have HO5 := Lib.hid hown5
      have HNW := Lib.hid hnew5
      have HCUR5 := Lib.hid (blk_grown HCUR.out hS HNE2.out)
      have HGR5 := Lib.hid hS
      clear hown5 hnew5 hS
      go_upto_region 6 with (first
        | (refine wpList_index_n rfl _ _ 45 23 6 rfl bD 0 docs.length c' k rfl rfl hk2 Try.underlying23 info45 ?_)
        | (refine wpList_store_at rfl 43 _ _ rfl bD (k * 6 + 4) rfl 45 cur (.slice GA2 (dk.grants.length + 1) gc2) [.slice GA2 (dk.grants.length + 1) gc2] rfl rfl HCUR5.out HLT.out (by kernel_rfl) (by intro u hu; rw [List.mem_singleton.1 hu]; rfl) ?_; intro w6 hT hS hG; have HT6 := Lib.hid hT; have HG6 := Lib.hid hG; clear hT hS hG))
      simp only [Act.put]
      have hts6 := TS.more (bD := bD) HTS4.out HDX.out HDK.out HRK.out (by rw [HGR.out]; exact HGR5.out) HO5.out (fun b hb => by rw [HGR.out]; exact HNW.out b hb) rfl HCUR5.out HT6.out HG6.out HGL.out
      obtain ⟨rows2, hrows2⟩ : ∃ r, r = rows.set k (rk.set 4 (.slice GA2 (dk.grants.length + 1) gc2)) := ⟨_, rfl⟩
      obtain ⟨docs2, hdocs2⟩ : ∃ d, d = more docs k dk g := ⟨_, rfl⟩
      rw [← hrows2, ← hdocs2] at hts6
      have HTS6 := Lib.hid hts6
      have HTT := Lib.hid (hts6.stt (by rw [hdocs2]; exact fit_more HSM.out HDK.out))
      have hb6 : Below w.heap.size w w6 := (HB4.out.grown HGR5.out HB4.out.size (fun b e => by have := HGX.out b e; have := HN.out; omega)).grown HG6.out (by have := HB4.out.size; have := HGR5.out.size; omega) (fun b e => by injection e with e; have := HBD.out; have := HN.out; omega)
      have HB6 := Lib.hid hb6
      have hk46 : ∀ (b : Nat) (o : Obj), b ≤ N + 1 → w4.heap[b]? = some o → w6.heap[b]? = some o := fun b o hb h0 => blk_grown (blk_grown h0 HGR5.out (fun e => by have := HGX.out b e.symm; omega)) HG6.out (fun e => by injection e with e; have := HBD.out; omega)
      have HSS := Lib.hid (HST4.out.keep (by have := HN.out; omega) (fun b o hb h0 => hk46 b o (by omega) h0) (by have := HGR5.out.size; have := HG6.out.size; omega))
      have HRG6 := Lib.hid (hk46 _ _ (Nat.le_refl _) HRG4.out)
      have HSUB := Lib.hid (show ∀ x, (byOf docs u x).isSome = true → (byOf docs2 u x).isSome = true from fun x h => by rw [hdocs2]; exact by_more HDK.out h)
      have HSAME := Lib.hid (show g.1 ≠ u → ∀ x, x ∈ seenOf docs u ↔ x ∈ seenOf docs2 u from fun h x => by rw [seen_iff, seen_iff, hdocs2]; exact (by_same HDK.out h).symm)
      have HNEW := Lib.hid (show g.2 ∈ chansOf docs2 g.1 from by rw [hdocs2]; exact chans_new HDK.out)
      clear hts6 hrows2 hdocs2 hb6 hk46 HTS4 HDX HDK HRK HGR HGR5 HO5 HNW HCUR5 HT6 HG6 HB4 HST4 HRG4 HGX HNE1 HNE2 HNE3 HC1 HC4 HO2 HCUR HLT HSM
      refine region_f 8 (fun i vs W => match i with
          | 0 => vs 0 = .agg (stV sq (.slice (some ⟨b, o, none⟩) docs.length dc) lv sv)
          | 1 => vs 1 = encStr u
          | 2 => ∃ l, RT W (vs 2) l ∧ Keys l (seenOf docs u)
          | 3 => vs 3 = .agg (stV sq (.slice (some ⟨bD, 0, none⟩) docs.length c') (.slice LA' ln lc') (.slice SA' sn sc'))
          | 4 => vs 4 = encStr u
          | 5 => ∃ l, RT W (vs 5) l ∧ Keys l (seenOf docs2 u)
          | 6 => ∃ l, RT W (vs 6) l ∧ Keys l (seenOf docs u)
          | 7 => ∃ l, RT W (vs 7) l ∧ Keys l (seenOf docs2 u)
          | _ => True) (fun _ W W' => Below W.heap.size W W') (fun W => Below w6.heap.size w6 W) (by kernel_rfl) (by kernel_rfl) ?hsta ?h0a ?stepa ?fina
      case hsta =>
        intro i k vs W W' _ _ h hG
        match i, h with
        | 0, h => exact h
        | 1, h => exact h
        | 2, ⟨l, e1, e2⟩ => exact ⟨l, e1.below hG, e2⟩
        | 3, h => exact h
        | 4, h => exact h
        | 5, ⟨l, e1, e2⟩ => exact ⟨l, e1.below hG, e2⟩
        | 6, ⟨l, e1, e2⟩ => exact ⟨l, e1.below hG, e2⟩
        | 7, ⟨l, e1, e2⟩ => exact ⟨l, e1.below hG, e2⟩
        | n + 8, _ => trivial
      case h0a => exact (Below.refl _ _).drew
      case stepa =>
        intro i op hi ho ac W hS hag hdep
        have hbr : Below W.heap.size W W := Below.refl _ _
        match i, hi, ho with
        | 0, _, rfl =>
          exact ow_load_row 27 _ rfl N (hag 4 rfl) 27 _ (0, 0) _ (blk_below HSS.out.row hS) Try.underlying27 rfl (by kernel_rfl) ⟨_, rfl, fun vs' h _ => h (fun e => by cases e), hbr, hS⟩
        | 1, _, rfl =>
          exact ow_move _ rfl (v := encStr u) (hag 3 rfl) ⟨_, rfl, fun vs' h _ => h (fun e => by cases e), hbr, hS⟩
        | 2, _, rfl =>
          have h1 : ac.eval (.tmp 65) = .agg (stV sq (.slice (some ⟨b, o, none⟩) docs.length dc) lv sv) := hdep 0 (by omega) (by kernel_rfl)
          have h2 : ac.eval (.tmp 66) = encStr u := hdep 1 (by omega) (by kernel_rfl)
          refine ow_call Try.func18 (by kernel_rfl) rfl _ _ rfl (vs := #[.agg (stV sq (.slice (some ⟨b, o, none⟩) docs.length dc) lv sv), encStr u]) (by simp only [List.map_toArray, List.map_cons, List.map_nil, h1, h2]) ?_
          refine ((HSS.out.below hS).all u).mono ?_
          rintro e w' ⟨v, l', rfl, hr, hk, hbb⟩
          exact ⟨_, rfl, ⟨_, rfl, fun vs' h _ => ⟨l', by rw [h (fun e => by cases e)]; exact hr, hk⟩, hbb, hS.trans (hbb.mono hS.size)⟩⟩
        | 3, _, rfl =>
          exact ow_load_row 27 _ rfl N9 (hag 9 rfl) 27 _ (0, 0) _ (blk_below HTT.out.row hS) Try.underlying27 rfl (by kernel_rfl) ⟨_, rfl, fun vs' h _ => h (fun e => by cases e), hbr, hS⟩
        | 4, _, rfl =>
          exact ow_move _ rfl (v := encStr u) (hag 3 rfl) ⟨_, rfl, fun vs' h _ => h (fun e => by cases e), hbr, hS⟩
        | 5, _, rfl =>
          have h1 : ac.eval (.tmp 68) = .agg (stV sq (.slice (some ⟨bD, 0, none⟩) docs.length c') (.slice LA' ln lc') (.slice SA' sn sc')) := hdep 3 (by omega) (by kernel_rfl)
          have h2 : ac.eval (.tmp 69) = encStr u := hdep 4 (by omega) (by kernel_rfl)
          refine ow_call Try.func18 (by kernel_rfl) rfl _ _ rfl (vs := #[.agg (stV sq (.slice (some ⟨bD, 0, none⟩) docs.length c') (.slice LA' ln lc') (.slice SA' sn sc')), encStr u]) (by simp only [List.map_toArray, List.map_cons, List.map_nil, h1, h2]) ?_
          refine ((HTT.out.below hS).all u).mono ?_
          rintro e w' ⟨v, l', rfl, hr, hk, hbb⟩
          exact ⟨_, rfl, ⟨_, rfl, fun vs' h _ => ⟨l', by rw [h (fun e => by cases e)]; exact hr, hk⟩, hbb, hS.trans (hbb.mono hS.size)⟩⟩
        | 6, _, rfl =>
          obtain ⟨l, h1, h2⟩ : ∃ l, RT W (ac.eval (.tmp 67)) l ∧ Keys l (seenOf docs u) := hdep 2 (by omega) (by kernel_rfl)
          exact ow_assign _ rfl rfl ⟨_, rfl, fun vs' h _ => ⟨l, by rw [h (fun e => by cases e)]; exact h1, h2⟩, hbr, hS⟩
        | 7, _, rfl =>
          obtain ⟨l, h1, h2⟩ : ∃ l, RT W (ac.eval (.tmp 70)) l ∧ Keys l (seenOf docs2 u) := hdep 5 (by omega) (by kernel_rfl)
          exact ow_assign _ rfl rfl ⟨_, rfl, fun vs' h _ => ⟨l, by rw [h (fun e => by cases e)]; exact h1, h2⟩, hbr, hS⟩
        | n + 8, hi, _ => exact absurd hi (by omega)
      case fina =>
        intro vs W hS hF
        have f6 : ∃ l, RT W (vs 6) l ∧ Keys l (seenOf docs u) := hF 6 (by omega)
        have f7 : ∃ l, RT W (vs 7) l ∧ Keys l (seenOf docs2 u) := hF 7 (by omega)
        clear hF
        change wpList _ _ _ _ (Act.put (Act.put (Act.put (Act.put (Act.put (Act.put (Act.put (Act.put _ (some 65) (vs 0)) (some 66) (vs 1)) (some 67) (vs 2)) (some 68) (vs 3)) (some 69) (vs 4)) (some 70) (vs 5)) (some 11) (vs 6)) (some 12) (vs 7)) W
        generalize vs 0 = z0
        generalize vs 1 = z1
        generalize vs 2 = z2
        generalize vs 3 = z3
        generalize vs 4 = z4
        generalize vs 5 = z5
        generalize vs 6 = z6 at f6 ⊢
        generalize vs 7 = z7 at f7 ⊢
        simp only [putAll, List.drop_succ_cons, List.drop_zero, Act.put, List.setIfInBounds_toArray, List.set_cons_zero, List.set_cons_succ]
        clear vs
        rename World => w7
        obtain ⟨l1, hr1, hk1⟩ := f6
        obtain ⟨l2, hr2, hk2⟩ := f7
        obtain ⟨WA, wc, rfl, hwl, hwr⟩ := hr1
        obtain ⟨WA2, wc2, rfl, hwl2, -⟩ := hr2
        have hwl1 : l1.length ≤ 9223372036854775807 := hwl
        have hwl3 : l2.length ≤ 9223372036854775807 := hwl2
        have HWR := Lib.hid hwr
        have HSEE := Lib.hid (show ∀ q, q < l1.length → (byOf docs2 u (at_ l1 q)).isSome = true from fun q hq => HSUB.out _ (seen_iff.1 (hk1.mem_at hq)))
        have hle : l1.length ≤ l2.length := hk1.le hk2 (fun x hx => seen_iff.2 (HSUB.out x (seen_iff.1 hx)))
        have HEQL := Lib.hid (show g.1 ≠ u → l1 = l2 from fun h => hk1.uniq hk2 (HSAME.out h))
        have HTS7 := Lib.hid (HTS6.out.all (fun k o h0 => blk_below h0 hS))
        have HTT7 := Lib.hid (HTT.out.below hS)
        have HRG7 := Lib.hid (blk_below HRG6.out hS)
        have HB7 := Lib.hid (HB6.out.trans (hS.mono HB6.out.size))
        have hlt : decide ((l2.length : Int) < (l1.length : Int)) = false := by simp; omega
        have hltN : decide (l2.length < l1.length) = false := by simp; omega
        have HLE := Lib.hid hle
        clear hle
        clear hk1 hk2 hwl hwl2 hwr hS HTS6 HTT HRG6 HB6 HSS HSUB HSAME
        go_wp2_with fail
        go_loopw [13] (fun vi wr => ∃ q : Nat, vi = .int .i64 (q : Int) ∧ q ≤ l1.length ∧ Below w7.heap.size w7 wr) (fun vi _ => l1.length - (intOf vi).toNat)
        case atStart => exact ⟨0, rfl, Nat.zero_le _, Below.refl _ _⟩
        case round =>
          obtain ⟨q, rfl, hq, hbl⟩ := hrel
          have HBL := Lib.hid hbl
          clear hbl
          rcases (show q = l1.length ∨ q < l1.length by omega) with rfl | hql
          · have hd : decide ((l1.length : Int) < (l1.length : Int)) = false := by simp
            have hg0 : wr.cell? ⟨N + 1, 0, none⟩ = some (encStr g.1) := cell_of_row wr (N + 1) 0 _ _ _ (blk_below HRG7.out HBL.out)
            by_cases hgu : g.1 = u
            · have hqq : (g.1 == u) = true := by simpa using hgu
              clear hgu
              go_upto_region 14 with fail
              clear hqq hlt hltN hd hg0
              have HTS8 := Lib.hid (HTS7.out.all (fun k o h0 => blk_below h0 HBL.out))
              have HTT8 := Lib.hid (HTT7.out.below HBL.out)
              have HRG8 := Lib.hid (blk_below HRG7.out HBL.out)
              have HB8 := Lib.hid (HB7.out.trans (HBL.out.mono HB7.out.size))
              clear HTS7 HTT7 HRG7 HB7 HBL HSEE HEQL HWR
              rename World => w8
              go_wp2_with fail
              go_loopw [14] (fun vi wr => ∃ q : Nat, vi = .int .i64 (q : Int) ∧ q ≤ docs.length ∧ Below w8.heap.size w8 wr) (fun vi _ => docs.length - (intOf vi).toNat)
              case atStart => exact ⟨0, rfl, Nat.zero_le _, Below.refl _ _⟩
              case round =>
                obtain ⟨q, rfl, hq, hbl⟩ := hrel
                have HBL := Lib.hid hbl
                clear hbl
                have hr1 : wr.cell? ⟨N9, 1, none⟩ = some (.slice (some ⟨bD, 0, none⟩) docs.length c') := cell_of_row wr N9 1 _ _ _ (blk_below HTT8.out.row HBL.out)
                rcases (show q = docs.length ∨ q < docs.length by omega) with hqe | hql
                · have hd : decide ((q : Int) < (docs.length : Int)) = false := by simp; omega
                  go_wp2_with fail
                  refine (awakeL (HB8.out.trans (HBL.out.mono HB8.out.size))).mono ?_
                  rintro e w7 ⟨rfl, hb7⟩
                  go_wp2_with fail
                  go_ret
                  exact ⟨rfl, hb7⟩
                · have hd : decide ((q : Int) < (docs.length : Int)) = true := by simp; omega
                  have hd' : decide (q < docs.length) = true := by simp; omega
                  obtain ⟨e, he⟩ : ∃ e, docs2[q]? = some e := ⟨_, List.getElem?_eq_getElem (by rw [HTS8.out.dlen]; exact hql)⟩
                  obtain ⟨r, hr⟩ : ∃ r, rows2[q]? = some r := ⟨_, List.getElem?_eq_getElem (by rw [HTS8.out.len]; exact hql)⟩
                  obtain ⟨sqe, nde, che, gre, gne, hre, -, hoc, -⟩ := HTS8.out.docs q r e hr he
                  obtain ⟨A2, c2, e2, -, -, hcl⟩ := own_cells HTS8.out.own HTS8.out.len HTS8.out.rowlen
                  injection e2 with e2 _ e3
                  subst e2 e3
                  replace hcl := hcl.resolve_left c0
                  obtain ⟨b2, e2, -, -, hcl⟩ := hcl
                  injection e2 with e2
                  injection e2 with e2
                  subst e2
                  obtain ⟨CA, cc, rfl, -, -, hcc⟩ := own_cells hoc (by simp [chC]) (fun r hr => by obtain ⟨s, _, rfl⟩ := List.mem_map.1 hr; rfl)
                  have hcm : e.chans.length ≤ 9223372036854775807 := by
                    obtain ⟨_, h2⟩ := hoc
                    rcases h2 with ⟨_, h2⟩ | ⟨_, cap, _, _, _, _, h2, h3, _⟩
                    · omega
                    · unfold maxLen at h3; omega
                  have HCC := Lib.hid (show e.chans.length = 0 ∨ ∃ b, CA = some ⟨b, 0, none⟩ ∧ ∀ j, j < e.chans.length → w8.cell? ⟨b, 0 + j, none⟩ = some (encStr (at_ e.chans j)) from hcc.imp _root_.id (fun ⟨b, e1, _, _, h⟩ => ⟨b, e1, fun j hj => by
                    have := h j 0 [encStr (at_ e.chans j)] _ (by unfold chC; rw [List.getElem?_map, List.getElem?_eq_getElem hj, at_get hj]; rfl) rfl
                    simpa using this⟩))
                  have HEX := Lib.hid (show w8.cell? ⟨bD, 0 + q * 6 + 0, none⟩ = some (encStr e.id) from hcl q 0 r _ hr (by rw [hre]; rfl))
                  have HCH := Lib.hid (show w8.cell? ⟨bD, 0 + q * 6 + 3, none⟩ = some (.slice CA e.chans.length cc) from hcl q 3 r _ hr (by rw [hre]; rfl))
                  have hex : wr.cell? ⟨bD, 0 + q * 6 + 0, none⟩ = some (encStr e.id) := below_cell HBL.out HEX.out
                  have HE := Lib.hid he
                  clear he hr hre hoc hcl hcc
                  go_upto_region 17 with fail
                  refine region_f 11 (fun i vs W => match i with
                      | 0 => vs 0 = .agg (stV sq (.slice (some ⟨bD, 0, none⟩) docs.length c') (.slice LA' ln lc') (.slice SA' sn sc'))
                      | 1 => vs 1 = .pointer (some ⟨N9, 0 + 1, none⟩)
                      | 2 => vs 2 = .slice (some ⟨bD, 0, none⟩) docs.length c'
                      | 3 => vs 3 = .int .i64 (q : Int)
                      | 4 => vs 4 = .pointer (some ⟨bD, 0 + q * 6, none⟩)
                      | 5 => vs 5 = .pointer (some ⟨bD, 0 + q * 6 + 0, none⟩)
                      | 6 => vs 6 = encStr e.id
                      | 7 => ∃ z, vs 7 = .int .i64 z ∧ Found docs2 e.id z
                      | 8 => vs 8 = .int .i64 (q : Int)
                      | 9 => ∃ ff, vs 9 = .bool ff ∧ (ff = true → ∀ x ∈ docs2.take q, x.id ≠ e.id)
                      | 10 => ∃ ff, vs 10 = .bool ff ∧ (ff = true → ∀ x ∈ docs2.take q, x.id ≠ e.id)
                      | _ => True) (fun _ W W' => Below W.heap.size W W') (fun W => Below wr.heap.size wr W) (by kernel_rfl) (by kernel_rfl) ?hstt ?h0t ?stept ?fint
                  case hstt =>
                    intro i k vs W W' _ _ h hG
                    match i, h with
                    | 0, h => exact h
                    | 1, h => exact h
                    | 2, h => exact h
                    | 3, h => exact h
                    | 4, h => exact h
                    | 5, h => exact h
                    | 6, h => exact h
                    | 7, h => exact h
                    | 8, h => exact h
                    | 9, h => exact h
                    | 10, h => exact h
                    | n + 11, _ => trivial
                  case h0t => exact (Below.refl _ _).drew
                  case stept =>
                    intro i op hi ho ac W hS hag hdep
                    have hbr : Below W.heap.size W W := Below.refl _ _
                    match i, hi, ho with
                    | 0, _, rfl =>
                      exact ow_load_row 27 _ rfl N9 (hag 9 rfl) 27 _ (0, 0) _ (blk_below HTT8.out.row (HBL.out.trans (hS.mono HBL.out.size))) Try.underlying27 rfl (by kernel_rfl) ⟨_, rfl, fun vs' h _ => h (fun e => by cases e), hbr, hS⟩
                    | 1, _, rfl =>
                      exact ow_field fld27_1 _ rfl N9 (0) (hag 9 rfl) ⟨_, rfl, fun vs' h _ => h (fun e => by cases e), hbr, hS⟩
                    | 2, _, rfl =>
                      have hp : ac.eval (.tmp 111) = .pointer (some ⟨N9, 0 + 1, none⟩) := hdep 1 (by omega) (by kernel_rfl)
                      exact ow_load_slice' _ 45 23 rfl N9 (0 + 1) hp (some ⟨bD, 0, none⟩) docs.length c' (below_cell hS hr1) Try.underlying23 ⟨_, rfl, fun vs' h _ => h (fun e => by cases e), hbr, hS⟩
                    | 3, _, rfl =>
                      exact ow_move _ rfl (v := .int .i64 (q : Int)) (hag 14 rfl) ⟨_, rfl, fun vs' h _ => h (fun e => by cases e), hbr, hS⟩
                    | 4, _, rfl =>
                      have hs : ac.eval (.tmp 112) = .slice (some ⟨bD, 0, none⟩) docs.length c' := hdep 2 (by omega) (by kernel_rfl)
                      have hi : ac.eval (.tmp 113) = .int .i64 (q : Int) := hdep 3 (by omega) (by kernel_rfl)
                      exact ow_index_n _ _ 45 23 6 rfl bD 0 docs.length c' q hs hi hql Try.underlying23 info45 ⟨_, rfl, fun vs' h _ => h (fun e => by cases e), hbr, hS⟩
                    | 5, _, rfl =>
                      have hp : ac.eval (.tmp 114) = .pointer (some ⟨bD, 0 + q * 6, none⟩) := hdep 4 (by omega) (by kernel_rfl)
                      exact ow_field fld45_0 _ rfl bD (0 + q * 6) hp ⟨_, rfl, fun vs' h _ => h (fun e => by cases e), hbr, hS⟩
                    | 6, _, rfl =>
                      have hp : ac.eval (.tmp 115) = .pointer (some ⟨bD, 0 + q * 6 + 0, none⟩) := hdep 5 (by omega) (by kernel_rfl)
                      exact ow_load_str _ 9 rfl bD (0 + q * 6 + 0) hp _ (below_cell hS hex) Try.underlying9 ⟨_, rfl, fun vs' h _ => h (fun e => by cases e), hbr, hS⟩
                    | 7, _, rfl =>
                      have h1 : ac.eval (.tmp 110) = .agg (stV sq (.slice (some ⟨bD, 0, none⟩) docs.length c') (.slice LA' ln lc') (.slice SA' sn sc')) := hdep 0 (by omega) (by kernel_rfl)
                      have h2 : ac.eval (.tmp 116) = encStr e.id := hdep 6 (by omega) (by kernel_rfl)
                      refine ow_call Try.func22 (by kernel_rfl) rfl _ _ rfl (vs := #[.agg (stV sq (.slice (some ⟨bD, 0, none⟩) docs.length c') (.slice LA' ln lc') (.slice SA' sn sc')), encStr e.id]) (by simp only [List.map_toArray, List.map_cons, List.map_nil, h1, h2]) ?_
                      refine (find_any docs2 sq _ _ _ W e.id _ (HTT8.out.below (HBL.out.trans (hS.mono HBL.out.size))).ds).mono ?_
                      rintro e' w' ⟨⟨z, rfl, hz⟩, hbb⟩
                      exact ⟨_, rfl, ⟨_, rfl, fun vs' h _ => ⟨z, h (fun e => by cases e), hz⟩, hbb, hS.trans (hbb.mono hS.size)⟩⟩
                    | 8, _, rfl =>
                      exact ow_move _ rfl (v := .int .i64 (q : Int)) (hag 14 rfl) ⟨_, rfl, fun vs' h _ => h (fun e => by cases e), hbr, hS⟩
                    | 9, _, rfl =>
                      have h2 : ac.eval (.tmp 118) = .int .i64 (q : Int) := hdep 8 (by omega) (by kernel_rfl)
                      obtain ⟨z, h1, hz⟩ : ∃ z, ac.eval (.tmp 117) = .int .i64 z ∧ Found docs2 e.id z := hdep 7 (by omega) (by kernel_rfl)
                      exact ow_eqi _ _ _ _ rfl _ _ _ h1 h2 ⟨_, rfl, fun vs' h _ => ⟨_, h (fun e => by cases e), fun hf => by
                        have hf : z = (q : Int) := by simpa using hf
                        rcases hz with ⟨h3, _⟩ | ⟨k', d', h3, _, _, h5⟩
                        · omega
                        · have : k' = q := by omega
                          subst this
                          exact h5⟩, hbr, hS⟩
                    | 10, _, rfl =>
                      obtain ⟨ff, h1, h2⟩ : ∃ ff, ac.eval (.tmp 119) = .bool ff ∧ (ff = true → ∀ x ∈ docs2.take q, x.id ≠ e.id) := hdep 9 (by omega) (by kernel_rfl)
                      exact ow_assign _ rfl h1 ⟨_, rfl, fun vs' h _ => ⟨ff, h (fun e => by cases e), h2⟩, hbr, hS⟩
                    | n + 11, hi, _ => exact absurd hi (by omega)
                  case fint =>
                    intro vs W hS hF
                    have f10 : ∃ ff, vs 10 = .bool ff ∧ (ff = true → ∀ x ∈ docs2.take q, x.id ≠ e.id) := hF 10 (by omega)
                    clear hF
                    change wpList _ _ _ _ (Act.put (Act.put (Act.put (Act.put (Act.put (Act.put (Act.put (Act.put (Act.put (Act.put (Act.put _ (some 110) (vs 0)) (some 111) (vs 1)) (some 112) (vs 2)) (some 113) (vs 3)) (some 114) (vs 4)) (some 115) (vs 5)) (some 116) (vs 6)) (some 117) (vs 7)) (some 118) (vs 8)) (some 119) (vs 9)) (some 15) (vs 10)) W
                    generalize vs 0 = z0
                    generalize vs 1 = z1
                    generalize vs 2 = z2
                    generalize vs 3 = z3
                    generalize vs 4 = z4
                    generalize vs 5 = z5
                    generalize vs 6 = z6
                    generalize vs 7 = z7
                    generalize vs 8 = z8
                    generalize vs 9 = z9
                    generalize vs 10 = z10 at f10 ⊢
                    simp only [putAll, List.drop_succ_cons, List.drop_zero, Act.put, List.setIfInBounds_toArray, List.set_cons_zero, List.set_cons_succ]
                    clear vs
                    rename World => w9
                    obtain ⟨ff, rfl, hff⟩ := f10
                    have HFF := Lib.hid hff
                    have HBL9 := Lib.hid (HBL.out.trans (hS.mono HBL.out.size))
                    clear hS hff hr1 hex HBL
                    go_wp2_with fail
                    go_loopw [16] (fun vi wq => ∃ q2 : Nat, vi = .int .i64 (q2 : Int) ∧ q2 ≤ e.chans.length ∧ Below w9.heap.size w9 wq) (fun vi _ => e.chans.length - (intOf vi).toNat)
                    case atStart => exact ⟨0, rfl, Nat.zero_le _, Below.refl _ _⟩
                    case round =>
                      obtain ⟨q2, rfl, hq2, hbl2⟩ := hrel
                      have HBQ := Lib.hid (HBL9.out.trans (hbl2.mono HBL9.out.size))
                      have HB2 := Lib.hid hbl2
                      clear hbl2
                      have hr1 : wr.cell? ⟨N9, 1, none⟩ = some (.slice (some ⟨bD, 0, none⟩) docs.length c') := cell_of_row wr N9 1 _ _ _ (blk_below HTT8.out.row HBQ.out)
                      have hch : wr.cell? ⟨bD, 0 + q * 6 + 3, none⟩ = some (.slice CA e.chans.length cc) := below_cell HBQ.out HCH.out
                      have hch' : wr.cell? ⟨bD, q * 6 + 3, none⟩ = some (.slice CA e.chans.length cc) := by rw [← hch, Nat.zero_add]
                      rcases (show q2 = e.chans.length ∨ q2 < e.chans.length by omega) with hqe | hq2l
                      · have hdd : decide ((q2 : Int) < (e.chans.length : Int)) = false := by simp; omega
                        go_wp2_with (refine wpList_index_n rfl _ _ 45 23 6 rfl bD 0 docs.length c' q rfl rfl hql Try.underlying23 info45 ?_)
                        go_roundw
                        case rel => exact ⟨q + 1, rfl, by omega, HBQ.out⟩
                        case measure => simp [intOf]; omega
                      · have hdd : decide ((q2 : Int) < (e.chans.length : Int)) = true := by simp; omega
                        have hdd' : decide (q2 < e.chans.length) = true := by simp; omega
                        cases ff with
                        | false =>
                          go_wp2_with (refine wpList_index_n rfl _ _ 45 23 6 rfl bD 0 docs.length c' q rfl rfl hql Try.underlying23 info45 ?_)
                          go_roundw
                          case rel => exact ⟨q + 1, rfl, by omega, HBQ.out⟩
                          case measure => simp [intOf]; omega
                        | true =>
                          obtain ⟨bc, rfl, hcc⟩ := HCC.out.resolve_left (by omega)
                          have hcx : wr.cell? ⟨bc, 0 + q2, none⟩ = some (encStr (at_ e.chans q2)) := below_cell HBQ.out (hcc q2 hq2l)
                          have hex : wr.cell? ⟨bD, 0 + q * 6 + 0, none⟩ = some (encStr e.id) := below_cell HBQ.out HEX.out
                          have hg0 : wr.cell? ⟨N + 1, 0 + 0, none⟩ = some (encStr g.1) := cell_of_row wr (N + 1) 0 _ _ _ (blk_below HRG8.out HBQ.out)
                          have hg1 : wr.cell? ⟨N + 1, 0 + 1, none⟩ = some (encStr g.2) := cell_of_row wr (N + 1) 1 _ _ _ (blk_below HRG8.out HBQ.out)
                          have HFIRST := Lib.hid (show at_ e.chans q2 = g.2 → (byOf docs2 g.1 e.id).isSome = true from fun hc => first_sees HE.out (HFF.out rfl) (by rw [← hc, at_get hq2l]; exact List.getElem_mem hq2l) (HNEW.out))
                          clear hcc
                          go_upto_region 21 with (refine wpList_index_n rfl _ _ 45 23 6 rfl bD 0 docs.length c' q rfl rfl hql Try.underlying23 info45 ?_)
                          clear hch' hdd hdd'
                          by_cases hcg : at_ e.chans q2 = g.2
                          · have HSEE := Lib.hid (HFIRST.out hcg)
                            have HEQ := Lib.hid (show (at_ e.chans q2 == g.2) = true by simpa using hcg)
                            clear hcg
                            refine region_g 25 (fun _ _ => false) (fun i vs W => match i with
                                | 0 => vs 0 = .pointer (some ⟨N9, 0 + 1, none⟩)
                                | 1 => vs 1 = .slice (some ⟨bD, 0, none⟩) docs.length c'
                                | 2 => vs 2 = .int .i64 (q : Int)
                                | 3 => vs 3 = .pointer (some ⟨bD, 0 + q * 6, none⟩)
                                | 4 => vs 4 = .pointer (some ⟨bD, 0 + q * 6 + 3, none⟩)
                                | 5 => vs 5 = .slice (some ⟨bc, 0, none⟩) e.chans.length cc
                                | 6 => vs 6 = .int .i64 (q2 : Int)
                                | 7 => vs 7 = .pointer (some ⟨bc, 0 + (q2), none⟩)
                                | 8 => vs 8 = encStr (at_ e.chans q2)
                                | 9 => vs 9 = .pointer (some ⟨(N + 1), 0 + 1, none⟩)
                                | 10 => vs 10 = encStr g.2
                                | 11 => vs 11 = .bool true
                                | 12 => vs 12 = .bool true
                                | 13 => vs 13 = .agg (stV sq (.slice (some ⟨bD, 0, none⟩) docs.length c') (.slice LA' ln lc') (.slice SA' sn sc'))
                                | 14 => vs 14 = .pointer (some ⟨(N + 1), 0 + 0, none⟩)
                                | 15 => vs 15 = encStr g.1
                                | 16 => vs 16 = .pointer (some ⟨N9, 0 + 1, none⟩)
                                | 17 => vs 17 = .slice (some ⟨bD, 0, none⟩) docs.length c'
                                | 18 => vs 18 = .int .i64 (q : Int)
                                | 19 => vs 19 = .pointer (some ⟨bD, 0 + q * 6, none⟩)
                                | 20 => vs 20 = .pointer (some ⟨bD, 0 + q * 6 + 0, none⟩)
                                | 21 => vs 21 = encStr e.id
                                | 22 => vs 22 = .bool true
                                | 23 => vs 23 = .bool false
                                | 24 => vs 24 = .bool false
                                | _ => True) (fun _ W W' => Below W.heap.size W W') (fun W => Below wr.heap.size wr W) (by kernel_rfl) (by kernel_rfl) ?hstx ?h0x ?stepx ?finx
                            case hstx =>
                              intro i k vs W W' _ _ _ h hG
                              match i, h with
                              | 0, h => exact h
                              | 1, h => exact h
                              | 2, h => exact h
                              | 3, h => exact h
                              | 4, h => exact h
                              | 5, h => exact h
                              | 6, h => exact h
                              | 7, h => exact h
                              | 8, h => exact h
                              | 9, h => exact h
                              | 10, h => exact h
                              | 11, h => exact h
                              | 12, h => exact h
                              | 13, h => exact h
                              | 14, h => exact h
                              | 15, h => exact h
                              | 16, h => exact h
                              | 17, h => exact h
                              | 18, h => exact h
                              | 19, h => exact h
                              | 20, h => exact h
                              | 21, h => exact h
                              | 22, h => exact h
                              | 23, h => exact h
                              | 24, h => exact h
                              | n + 25, _ => trivial
                            case h0x => exact (Below.refl _ _).drew
                            case stepx =>
                              intro i op hi ho ac W hS hag hdep
                              have hbr : Below W.heap.size W W := Below.refl _ _
                              match i, hi, ho with
                              | 0, _, rfl =>
                                refine gstep rfl ?_
                                exact ow_field fld27_1 _ rfl N9 (0) (hag 9 rfl) ⟨_, rfl, fun vs' h _ => h (fun e => by cases e), hbr, hS⟩
                              | 1, _, rfl =>
                                have hp : ac.eval (.tmp 134) = .pointer (some ⟨N9, 0 + 1, none⟩) := hdep 0 (by omega) (by kernel_rfl) (fun k _ h => by cases h)
                                refine gstep rfl ?_
                                exact ow_load_slice' _ 45 23 rfl N9 (0 + 1) hp (some ⟨bD, 0, none⟩) docs.length c' (below_cell hS hr1) Try.underlying23 ⟨_, rfl, fun vs' h _ => h (fun e => by cases e), hbr, hS⟩
                              | 2, _, rfl =>
                                refine gstep rfl ?_
                                exact ow_move _ rfl (v := .int .i64 (q : Int)) (hag 14 rfl) ⟨_, rfl, fun vs' h _ => h (fun e => by cases e), hbr, hS⟩
                              | 3, _, rfl =>
                                have hs : ac.eval (.tmp 135) = .slice (some ⟨bD, 0, none⟩) docs.length c' := hdep 1 (by omega) (by kernel_rfl) (fun k _ h => by cases h)
                                have hi : ac.eval (.tmp 136) = .int .i64 (q : Int) := hdep 2 (by omega) (by kernel_rfl) (fun k _ h => by cases h)
                                refine gstep rfl ?_
                                exact ow_index_n _ _ 45 23 6 rfl bD 0 docs.length c' q hs hi hql Try.underlying23 info45 ⟨_, rfl, fun vs' h _ => h (fun e => by cases e), hbr, hS⟩
                              | 4, _, rfl =>
                                have hp : ac.eval (.tmp 137) = .pointer (some ⟨bD, 0 + q * 6, none⟩) := hdep 3 (by omega) (by kernel_rfl) (fun k _ h => by cases h)
                                refine gstep rfl ?_
                                exact ow_field fld45_3 _ rfl bD (0 + q * 6) hp ⟨_, rfl, fun vs' h _ => h (fun e => by cases e), hbr, hS⟩
                              | 5, _, rfl =>
                                have hp : ac.eval (.tmp 138) = .pointer (some ⟨bD, 0 + q * 6 + 3, none⟩) := hdep 4 (by omega) (by kernel_rfl) (fun k _ h => by cases h)
                                refine gstep rfl ?_
                                exact ow_load_slice' _ 9 35 rfl bD (0 + q * 6 + 3) hp (some ⟨bc, 0, none⟩) e.chans.length cc (below_cell hS hch) Try.underlying35 ⟨_, rfl, fun vs' h _ => h (fun e => by cases e), hbr, hS⟩
                              | 6, _, rfl =>
                                refine gstep rfl ?_
                                exact ow_move _ rfl (v := .int .i64 (q2 : Int)) (hag 16 rfl) ⟨_, rfl, fun vs' h _ => h (fun e => by cases e), hbr, hS⟩
                              | 7, _, rfl =>
                                have hs : ac.eval (.tmp 139) = .slice (some ⟨bc, 0, none⟩) e.chans.length cc := hdep 5 (by omega) (by kernel_rfl) (fun k _ h => by cases h)
                                have hi : ac.eval (.tmp 140) = .int .i64 (q2 : Int) := hdep 6 (by omega) (by kernel_rfl) (fun k _ h => by cases h)
                                refine gstep rfl ?_
                                exact ow_index _ _ 9 35 rfl bc 0 e.chans.length cc (q2) hs hi hq2l Try.underlying35 tag9 ⟨_, rfl, fun vs' h _ => h (fun e => by cases e), hbr, hS⟩
                              | 8, _, rfl =>
                                have hp : ac.eval (.tmp 141) = .pointer (some ⟨bc, 0 + (q2), none⟩) := hdep 7 (by omega) (by kernel_rfl) (fun k _ h => by cases h)
                                refine gstep rfl ?_
                                exact ow_load_str _ 9 rfl bc (0 + (q2)) hp _ (below_cell hS hcx) Try.underlying9 ⟨_, rfl, fun vs' h _ => h (fun e => by cases e), hbr, hS⟩
                              | 9, _, rfl =>
                                refine gstep rfl ?_
                                exact ow_field fld48_1 _ rfl (N + 1) (0) (hag 5 rfl) ⟨_, rfl, fun vs' h _ => h (fun e => by cases e), hbr, hS⟩
                              | 10, _, rfl =>
                                have hp : ac.eval (.tmp 143) = .pointer (some ⟨(N + 1), 0 + 1, none⟩) := hdep 9 (by omega) (by kernel_rfl) (fun k _ h => by cases h)
                                refine gstep rfl ?_
                                exact ow_load_str _ 9 rfl (N + 1) (0 + 1) hp _ (below_cell hS hg1) Try.underlying9 ⟨_, rfl, fun vs' h _ => h (fun e => by cases e), hbr, hS⟩
                              | 11, _, rfl =>
                                have h1 : ac.eval (.tmp 142) = encStr (at_ e.chans q2) := hdep 8 (by omega) (by kernel_rfl) (fun k _ h => by cases h)
                                have h2 : ac.eval (.tmp 144) = encStr g.2 := hdep 10 (by omega) (by kernel_rfl) (fun k _ h => by cases h)
                                refine gstep rfl ?_
                                exact ow_eql_str _ _ _ rfl _ _ h1 h2 (by rw [HEQ.out]; exact ⟨_, rfl, fun vs' h _ => h (fun e => by cases e), hbr, hS⟩)
                              | 12, _, rfl =>
                                have h1 : ac.eval (.tmp 145) = .bool true := hdep 11 (by omega) (by kernel_rfl) (fun k _ h => by cases h)
                                refine gstep rfl ?_
                                exact ow_move _ rfl h1 ⟨_, rfl, fun vs' h _ => h (fun e => by cases e), hbr, hS⟩
                              | 13, _, rfl =>
                                refine gstep (wanted_ok rfl rfl (hdep 12 (by omega) (by kernel_rfl) (fun k _ h => by cases h) : ac.eval (.tmp 146) = .bool true)) ?_
                                exact ow_load_row 27 _ rfl N9 (hag 9 rfl) 27 _ (0, 0) _ (blk_below HTT8.out.row (HBQ.out.trans (hS.mono HBQ.out.size))) Try.underlying27 rfl (by kernel_rfl) ⟨_, rfl, fun vs' h _ => h (fun e => by cases e), hbr, hS⟩
                              | 14, _, rfl =>
                                refine gstep (wanted_ok rfl rfl (hdep 12 (by omega) (by kernel_rfl) (fun k _ h => by cases h) : ac.eval (.tmp 146) = .bool true)) ?_
                                exact ow_field fld48_0 _ rfl (N + 1) (0) (hag 5 rfl) ⟨_, rfl, fun vs' h _ => h (fun e => by cases e), hbr, hS⟩
                              | 15, _, rfl =>
                                have hp : ac.eval (.tmp 148) = .pointer (some ⟨(N + 1), 0 + 0, none⟩) := hdep 14 (by omega) (by kernel_rfl) (fun k _ h => by cases h)
                                refine gstep (wanted_ok rfl rfl (hdep 12 (by omega) (by kernel_rfl) (fun k _ h => by cases h) : ac.eval (.tmp 146) = .bool true)) ?_
                                exact ow_load_str _ 9 rfl (N + 1) (0 + 0) hp _ (below_cell hS hg0) Try.underlying9 ⟨_, rfl, fun vs' h _ => h (fun e => by cases e), hbr, hS⟩
                              | 16, _, rfl =>
                                refine gstep (wanted_ok rfl rfl (hdep 12 (by omega) (by kernel_rfl) (fun k _ h => by cases h) : ac.eval (.tmp 146) = .bool true)) ?_
                                exact ow_field fld27_1 _ rfl N9 (0) (hag 9 rfl) ⟨_, rfl, fun vs' h _ => h (fun e => by cases e), hbr, hS⟩
                              | 17, _, rfl =>
                                have hp : ac.eval (.tmp 150) = .pointer (some ⟨N9, 0 + 1, none⟩) := hdep 16 (by omega) (by kernel_rfl) (fun k _ h => by cases h)
                                refine gstep (wanted_ok rfl rfl (hdep 12 (by omega) (by kernel_rfl) (fun k _ h => by cases h) : ac.eval (.tmp 146) = .bool true)) ?_
                                exact ow_load_slice' _ 45 23 rfl N9 (0 + 1) hp (some ⟨bD, 0, none⟩) docs.length c' (below_cell hS hr1) Try.underlying23 ⟨_, rfl, fun vs' h _ => h (fun e => by cases e), hbr, hS⟩
                              | 18, _, rfl =>
                                refine gstep (wanted_ok rfl rfl (hdep 12 (by omega) (by kernel_rfl) (fun k _ h => by cases h) : ac.eval (.tmp 146) = .bool true)) ?_
                                exact ow_move _ rfl (v := .int .i64 (q : Int)) (hag 14 rfl) ⟨_, rfl, fun vs' h _ => h (fun e => by cases e), hbr, hS⟩
                              | 19, _, rfl =>
                                have hs : ac.eval (.tmp 151) = .slice (some ⟨bD, 0, none⟩) docs.length c' := hdep 17 (by omega) (by kernel_rfl) (fun k _ h => by cases h)
                                have hi : ac.eval (.tmp 152) = .int .i64 (q : Int) := hdep 18 (by omega) (by kernel_rfl) (fun k _ h => by cases h)
                                refine gstep (wanted_ok rfl rfl (hdep 12 (by omega) (by kernel_rfl) (fun k _ h => by cases h) : ac.eval (.tmp 146) = .bool true)) ?_
                                exact ow_index_n _ _ 45 23 6 rfl bD 0 docs.length c' q hs hi hql Try.underlying23 info45 ⟨_, rfl, fun vs' h _ => h (fun e => by cases e), hbr, hS⟩
                              | 20, _, rfl =>
                                have hp : ac.eval (.tmp 153) = .pointer (some ⟨bD, 0 + q * 6, none⟩) := hdep 19 (by omega) (by kernel_rfl) (fun k _ h => by cases h)
                                refine gstep (wanted_ok rfl rfl (hdep 12 (by omega) (by kernel_rfl) (fun k _ h => by cases h) : ac.eval (.tmp 146) = .bool true)) ?_
                                exact ow_field fld45_0 _ rfl bD (0 + q * 6) hp ⟨_, rfl, fun vs' h _ => h (fun e => by cases e), hbr, hS⟩
                              | 21, _, rfl =>
                                have hp : ac.eval (.tmp 154) = .pointer (some ⟨bD, 0 + q * 6 + 0, none⟩) := hdep 20 (by omega) (by kernel_rfl) (fun k _ h => by cases h)
                                refine gstep (wanted_ok rfl rfl (hdep 12 (by omega) (by kernel_rfl) (fun k _ h => by cases h) : ac.eval (.tmp 146) = .bool true)) ?_
                                exact ow_load_str _ 9 rfl bD (0 + q * 6 + 0) hp _ (below_cell hS hex) Try.underlying9 ⟨_, rfl, fun vs' h _ => h (fun e => by cases e), hbr, hS⟩
                              | 22, _, rfl =>
                                have h1 : ac.eval (.tmp 147) = .agg (stV sq (.slice (some ⟨bD, 0, none⟩) docs.length c') (.slice LA' ln lc') (.slice SA' sn sc')) := hdep 13 (by omega) (by kernel_rfl) (fun k _ h => by cases h)
                                have h2 : ac.eval (.tmp 149) = encStr g.1 := hdep 15 (by omega) (by kernel_rfl) (fun k _ h => by cases h)
                                have h3 : ac.eval (.tmp 155) = encStr e.id := hdep 21 (by omega) (by kernel_rfl) (fun k _ h => by cases h)
                                refine gstep (wanted_ok rfl rfl (hdep 12 (by omega) (by kernel_rfl) (fun k _ h => by cases h) : ac.eval (.tmp 146) = .bool true)) ?_
                                refine ow_call Try.func12 (by kernel_rfl) rfl _ _ rfl (vs := #[.agg (stV sq (.slice (some ⟨bD, 0, none⟩) docs.length c') (.slice LA' ln lc') (.slice SA' sn sc')), encStr g.1, encStr e.id]) (by simp only [List.map_toArray, List.map_cons, List.map_nil, h1, h2, h3]) ?_
                                refine ((HTT8.out.below (HBQ.out.trans (hS.mono HBQ.out.size))).sees g.1 e.id).mono ?_
                                rw [HSEE.out]
                                rintro e' w' ⟨rfl, hbb⟩
                                exact ⟨_, rfl, ⟨_, rfl, fun vs' h _ => h (fun e => by cases e), hbb, hS.trans (hbb.mono hS.size)⟩⟩
                              | 23, _, rfl =>
                                have h1 : ac.eval (.tmp 156) = .bool true := hdep 22 (by omega) (by kernel_rfl) (fun k _ h => by cases h)
                                refine gstep (wanted_ok rfl rfl (hdep 12 (by omega) (by kernel_rfl) (fun k _ h => by cases h) : ac.eval (.tmp 146) = .bool true)) ?_
                                exact ow_not _ 4 rfl true h1 ⟨_, rfl, fun vs' h _ => h (fun e => by cases e), hbr, hS⟩
                              | 24, _, rfl =>
                                have h1 : ac.eval (.tmp 146) = .bool true := hdep 12 (by omega) (by kernel_rfl) (fun k _ h => by cases h)
                                have h2 : ac.eval (.tmp 157) = .bool false := hdep 23 (by omega) (by kernel_rfl) (fun k _ h => by cases h)
                                refine gstep rfl ?_
                                exact ow_pick _ _ _ rfl true h1 (by simpa using h2) ⟨_, rfl, fun vs' h _ => h (fun e => by cases e), hbr, hS⟩
                              | n + 25, hi, _ => exact absurd hi (by omega)
                            case finx =>
                              intro vs W hS hF
                              have e24 : vs 24 = .bool false := hF 24 (by omega) (fun _ _ => rfl)
                              clear hF
                              change wpList _ _ _ _ (Act.put (Act.put (Act.put (Act.put (Act.put (Act.put (Act.put (Act.put (Act.put (Act.put (Act.put (Act.put (Act.put (Act.put (Act.put (Act.put (Act.put (Act.put (Act.put (Act.put (Act.put (Act.put (Act.put (Act.put (Act.put _ (some 134) (vs 0)) (some 135) (vs 1)) (some 136) (vs 2)) (some 137) (vs 3)) (some 138) (vs 4)) (some 139) (vs 5)) (some 140) (vs 6)) (some 141) (vs 7)) (some 142) (vs 8)) (some 143) (vs 9)) (some 144) (vs 10)) (some 145) (vs 11)) (some 146) (vs 12)) (some 147) (vs 13)) (some 148) (vs 14)) (some 149) (vs 15)) (some 150) (vs 16)) (some 151) (vs 17)) (some 152) (vs 18)) (some 153) (vs 19)) (some 154) (vs 20)) (some 155) (vs 21)) (some 156) (vs 22)) (some 157) (vs 23)) (some 158) (vs 24)) W
                              rw [e24]
                              clear e24
                              generalize vs 0 = z0
                              generalize vs 1 = z1
                              generalize vs 2 = z2
                              generalize vs 3 = z3
                              generalize vs 4 = z4
                              generalize vs 5 = z5
                              generalize vs 6 = z6
                              generalize vs 7 = z7
                              generalize vs 8 = z8
                              generalize vs 9 = z9
                              generalize vs 10 = z10
                              generalize vs 11 = z11
                              generalize vs 12 = z12
                              generalize vs 13 = z13
                              generalize vs 14 = z14
                              generalize vs 15 = z15
                              generalize vs 16 = z16
                              generalize vs 17 = z17
                              generalize vs 18 = z18
                              generalize vs 19 = z19
                              generalize vs 20 = z20
                              generalize vs 21 = z21
                              generalize vs 22 = z22
                              generalize vs 23 = z23
                              simp only [putAll, List.drop_succ_cons, List.drop_zero, Act.put, List.setIfInBounds_toArray, List.set_cons_zero, List.set_cons_succ]
                              clear vs
                              have HB3 := Lib.hid (HB2.out.trans (hS.mono HB2.out.size))
                              clear hS hr1 hch hcx hex hg0 hg1
                              go_wp2_with fail
                              go_roundw
                              case rel => exact ⟨q2 + 1, rfl, by omega, HB3.out⟩
                              case measure => simp [intOf]; omega
                          · have HEQ := Lib.hid (show (at_ e.chans q2 == g.2) = false by simpa using hcg)
                            clear hcg
                            refine region_g 25 (fun _ _ => false) (fun i vs W => match i with
                                | 0 => vs 0 = .pointer (some ⟨N9, 0 + 1, none⟩)
                                | 1 => vs 1 = .slice (some ⟨bD, 0, none⟩) docs.length c'
                                | 2 => vs 2 = .int .i64 (q : Int)
                                | 3 => vs 3 = .pointer (some ⟨bD, 0 + q * 6, none⟩)
                                | 4 => vs 4 = .pointer (some ⟨bD, 0 + q * 6 + 3, none⟩)
                                | 5 => vs 5 = .slice (some ⟨bc, 0, none⟩) e.chans.length cc
                                | 6 => vs 6 = .int .i64 (q2 : Int)
                                | 7 => vs 7 = .pointer (some ⟨bc, 0 + (q2), none⟩)
                                | 8 => vs 8 = encStr (at_ e.chans q2)
                                | 9 => vs 9 = .pointer (some ⟨(N + 1), 0 + 1, none⟩)
                                | 10 => vs 10 = encStr g.2
                                | 11 => vs 11 = .bool false
                                | 12 => vs 12 = .bool false
                                | 13 => True
                                | 14 => True
                                | 15 => True
                                | 16 => True
                                | 17 => True
                                | 18 => True
                                | 19 => True
                                | 20 => True
                                | 21 => True
                                | 22 => True
                                | 23 => True
                                | 24 => vs 24 = .bool false
                                | _ => True) (fun _ W W' => Below W.heap.size W W') (fun W => Below wr.heap.size wr W) (by kernel_rfl) (by kernel_rfl) ?hstx ?h0x ?stepx ?finx
                            case hstx =>
                              intro i k vs W W' _ _ _ h hG
                              match i, h with
                              | 0, h => exact h
                              | 1, h => exact h
                              | 2, h => exact h
                              | 3, h => exact h
                              | 4, h => exact h
                              | 5, h => exact h
                              | 6, h => exact h
                              | 7, h => exact h
                              | 8, h => exact h
                              | 9, h => exact h
                              | 10, h => exact h
                              | 11, h => exact h
                              | 12, h => exact h
                              | 13, h => exact h
                              | 14, h => exact h
                              | 15, h => exact h
                              | 16, h => exact h
                              | 17, h => exact h
                              | 18, h => exact h
                              | 19, h => exact h
                              | 20, h => exact h
                              | 21, h => exact h
                              | 22, h => exact h
                              | 23, h => exact h
                              | 24, h => exact h
                              | n + 25, _ => trivial
                            case h0x => exact (Below.refl _ _).drew
                            case stepx =>
                              intro i op hi ho ac W hS hag hdep
                              have hbr : Below W.heap.size W W := Below.refl _ _
                              match i, hi, ho with
                              | 0, _, rfl =>
                                refine gstep rfl ?_
                                exact ow_field fld27_1 _ rfl N9 (0) (hag 9 rfl) ⟨_, rfl, fun vs' h _ => h (fun e => by cases e), hbr, hS⟩
                              | 1, _, rfl =>
                                have hp : ac.eval (.tmp 134) = .pointer (some ⟨N9, 0 + 1, none⟩) := hdep 0 (by omega) (by kernel_rfl) (fun k _ h => by cases h)
                                refine gstep rfl ?_
                                exact ow_load_slice' _ 45 23 rfl N9 (0 + 1) hp (some ⟨bD, 0, none⟩) docs.length c' (below_cell hS hr1) Try.underlying23 ⟨_, rfl, fun vs' h _ => h (fun e => by cases e), hbr, hS⟩
                              | 2, _, rfl =>
                                refine gstep rfl ?_
                                exact ow_move _ rfl (v := .int .i64 (q : Int)) (hag 14 rfl) ⟨_, rfl, fun vs' h _ => h (fun e => by cases e), hbr, hS⟩
                              | 3, _, rfl =>
                                have hs : ac.eval (.tmp 135) = .slice (some ⟨bD, 0, none⟩) docs.length c' := hdep 1 (by omega) (by kernel_rfl) (fun k _ h => by cases h)
                                have hi : ac.eval (.tmp 136) = .int .i64 (q : Int) := hdep 2 (by omega) (by kernel_rfl) (fun k _ h => by cases h)
                                refine gstep rfl ?_
                                exact ow_index_n _ _ 45 23 6 rfl bD 0 docs.length c' q hs hi hql Try.underlying23 info45 ⟨_, rfl, fun vs' h _ => h (fun e => by cases e), hbr, hS⟩
                              | 4, _, rfl =>
                                have hp : ac.eval (.tmp 137) = .pointer (some ⟨bD, 0 + q * 6, none⟩) := hdep 3 (by omega) (by kernel_rfl) (fun k _ h => by cases h)
                                refine gstep rfl ?_
                                exact ow_field fld45_3 _ rfl bD (0 + q * 6) hp ⟨_, rfl, fun vs' h _ => h (fun e => by cases e), hbr, hS⟩
                              | 5, _, rfl =>
                                have hp : ac.eval (.tmp 138) = .pointer (some ⟨bD, 0 + q * 6 + 3, none⟩) := hdep 4 (by omega) (by kernel_rfl) (fun k _ h => by cases h)
                                refine gstep rfl ?_
                                exact ow_load_slice' _ 9 35 rfl bD (0 + q * 6 + 3) hp (some ⟨bc, 0, none⟩) e.chans.length cc (below_cell hS hch) Try.underlying35 ⟨_, rfl, fun vs' h _ => h (fun e => by cases e), hbr, hS⟩
                              | 6, _, rfl =>
                                refine gstep rfl ?_
                                exact ow_move _ rfl (v := .int .i64 (q2 : Int)) (hag 16 rfl) ⟨_, rfl, fun vs' h _ => h (fun e => by cases e), hbr, hS⟩
                              | 7, _, rfl =>
                                have hs : ac.eval (.tmp 139) = .slice (some ⟨bc, 0, none⟩) e.chans.length cc := hdep 5 (by omega) (by kernel_rfl) (fun k _ h => by cases h)
                                have hi : ac.eval (.tmp 140) = .int .i64 (q2 : Int) := hdep 6 (by omega) (by kernel_rfl) (fun k _ h => by cases h)
                                refine gstep rfl ?_
                                exact ow_index _ _ 9 35 rfl bc 0 e.chans.length cc (q2) hs hi hq2l Try.underlying35 tag9 ⟨_, rfl, fun vs' h _ => h (fun e => by cases e), hbr, hS⟩
                              | 8, _, rfl =>
                                have hp : ac.eval (.tmp 141) = .pointer (some ⟨bc, 0 + (q2), none⟩) := hdep 7 (by omega) (by kernel_rfl) (fun k _ h => by cases h)
                                refine gstep rfl ?_
                                exact ow_load_str _ 9 rfl bc (0 + (q2)) hp _ (below_cell hS hcx) Try.underlying9 ⟨_, rfl, fun vs' h _ => h (fun e => by cases e), hbr, hS⟩
                              | 9, _, rfl =>
                                refine gstep rfl ?_
                                exact ow_field fld48_1 _ rfl (N + 1) (0) (hag 5 rfl) ⟨_, rfl, fun vs' h _ => h (fun e => by cases e), hbr, hS⟩
                              | 10, _, rfl =>
                                have hp : ac.eval (.tmp 143) = .pointer (some ⟨(N + 1), 0 + 1, none⟩) := hdep 9 (by omega) (by kernel_rfl) (fun k _ h => by cases h)
                                refine gstep rfl ?_
                                exact ow_load_str _ 9 rfl (N + 1) (0 + 1) hp _ (below_cell hS hg1) Try.underlying9 ⟨_, rfl, fun vs' h _ => h (fun e => by cases e), hbr, hS⟩
                              | 11, _, rfl =>
                                have h1 : ac.eval (.tmp 142) = encStr (at_ e.chans q2) := hdep 8 (by omega) (by kernel_rfl) (fun k _ h => by cases h)
                                have h2 : ac.eval (.tmp 144) = encStr g.2 := hdep 10 (by omega) (by kernel_rfl) (fun k _ h => by cases h)
                                refine gstep rfl ?_
                                exact ow_eql_str _ _ _ rfl _ _ h1 h2 (by rw [HEQ.out]; exact ⟨_, rfl, fun vs' h _ => h (fun e => by cases e), hbr, hS⟩)
                              | 12, _, rfl =>
                                have h1 : ac.eval (.tmp 145) = .bool false := hdep 11 (by omega) (by kernel_rfl) (fun k _ h => by cases h)
                                refine gstep rfl ?_
                                exact ow_move _ rfl h1 ⟨_, rfl, fun vs' h _ => h (fun e => by cases e), hbr, hS⟩
                              | 13, _, rfl =>
                                refine gskip (wanted_no rfl rfl (hdep 12 (by omega) (by kernel_rfl) (fun k _ h => by cases h) : ac.eval (.tmp 146) = .bool false)) ?_
                                exact ⟨_, rfl, fun _ _ _ => trivial, hbr, hS⟩
                              | 14, _, rfl =>
                                refine gskip (wanted_no rfl rfl (hdep 12 (by omega) (by kernel_rfl) (fun k _ h => by cases h) : ac.eval (.tmp 146) = .bool false)) ?_
                                exact ⟨_, rfl, fun _ _ _ => trivial, hbr, hS⟩
                              | 15, _, rfl =>
                                refine gskip (wanted_no rfl rfl (hdep 12 (by omega) (by kernel_rfl) (fun k _ h => by cases h) : ac.eval (.tmp 146) = .bool false)) ?_
                                exact ⟨_, rfl, fun _ _ _ => trivial, hbr, hS⟩
                              | 16, _, rfl =>
                                refine gskip (wanted_no rfl rfl (hdep 12 (by omega) (by kernel_rfl) (fun k _ h => by cases h) : ac.eval (.tmp 146) = .bool false)) ?_
                                exact ⟨_, rfl, fun _ _ _ => trivial, hbr, hS⟩
                              | 17, _, rfl =>
                                refine gskip (wanted_no rfl rfl (hdep 12 (by omega) (by kernel_rfl) (fun k _ h => by cases h) : ac.eval (.tmp 146) = .bool false)) ?_
                                exact ⟨_, rfl, fun _ _ _ => trivial, hbr, hS⟩
                              | 18, _, rfl =>
                                refine gskip (wanted_no rfl rfl (hdep 12 (by omega) (by kernel_rfl) (fun k _ h => by cases h) : ac.eval (.tmp 146) = .bool false)) ?_
                                exact ⟨_, rfl, fun _ _ _ => trivial, hbr, hS⟩
                              | 19, _, rfl =>
                                refine gskip (wanted_no rfl rfl (hdep 12 (by omega) (by kernel_rfl) (fun k _ h => by cases h) : ac.eval (.tmp 146) = .bool false)) ?_
                                exact ⟨_, rfl, fun _ _ _ => trivial, hbr, hS⟩
                              | 20, _, rfl =>
                                refine gskip (wanted_no rfl rfl (hdep 12 (by omega) (by kernel_rfl) (fun k _ h => by cases h) : ac.eval (.tmp 146) = .bool false)) ?_
                                exact ⟨_, rfl, fun _ _ _ => trivial, hbr, hS⟩
                              | 21, _, rfl =>
                                refine gskip (wanted_no rfl rfl (hdep 12 (by omega) (by kernel_rfl) (fun k _ h => by cases h) : ac.eval (.tmp 146) = .bool false)) ?_
                                exact ⟨_, rfl, fun _ _ _ => trivial, hbr, hS⟩
                              | 22, _, rfl =>
                                refine gskip (wanted_no rfl rfl (hdep 12 (by omega) (by kernel_rfl) (fun k _ h => by cases h) : ac.eval (.tmp 146) = .bool false)) ?_
                                exact ⟨_, rfl, fun _ _ _ => trivial, hbr, hS⟩
                              | 23, _, rfl =>
                                refine gskip (wanted_no rfl rfl (hdep 12 (by omega) (by kernel_rfl) (fun k _ h => by cases h) : ac.eval (.tmp 146) = .bool false)) ?_
                                exact ⟨_, rfl, fun _ _ _ => trivial, hbr, hS⟩
                              | 24, _, rfl =>
                                have h1 : ac.eval (.tmp 146) = .bool false := hdep 12 (by omega) (by kernel_rfl) (fun k _ h => by cases h)
                                refine gstep rfl ?_
                                exact ow_pick _ _ _ rfl false h1 rfl ⟨_, rfl, fun vs' h _ => h (fun e => by cases e), hbr, hS⟩
                              | n + 25, hi, _ => exact absurd hi (by omega)
                            case finx =>
                              intro vs W hS hF
                              have e24 : vs 24 = .bool false := hF 24 (by omega) (fun _ _ => rfl)
                              clear hF
                              change wpList _ _ _ _ (Act.put (Act.put (Act.put (Act.put (Act.put (Act.put (Act.put (Act.put (Act.put (Act.put (Act.put (Act.put (Act.put (Act.put (Act.put (Act.put (Act.put (Act.put (Act.put (Act.put (Act.put (Act.put (Act.put (Act.put (Act.put _ (some 134) (vs 0)) (some 135) (vs 1)) (some 136) (vs 2)) (some 137) (vs 3)) (some 138) (vs 4)) (some 139) (vs 5)) (some 140) (vs 6)) (some 141) (vs 7)) (some 142) (vs 8)) (some 143) (vs 9)) (some 144) (vs 10)) (some 145) (vs 11)) (some 146) (vs 12)) (some 147) (vs 13)) (some 148) (vs 14)) (some 149) (vs 15)) (some 150) (vs 16)) (some 151) (vs 17)) (some 152) (vs 18)) (some 153) (vs 19)) (some 154) (vs 20)) (some 155) (vs 21)) (some 156) (vs 22)) (some 157) (vs 23)) (some 158) (vs 24)) W
                              rw [e24]
                              clear e24
                              generalize vs 0 = z0
                              generalize vs 1 = z1
                              generalize vs 2 = z2
                              generalize vs 3 = z3
                              generalize vs 4 = z4
                              generalize vs 5 = z5
                              generalize vs 6 = z6
                              generalize vs 7 = z7
                              generalize vs 8 = z8
                              generalize vs 9 = z9
                              generalize vs 10 = z10
                              generalize vs 11 = z11
                              generalize vs 12 = z12
                              generalize vs 13 = z13
                              generalize vs 14 = z14
                              generalize vs 15 = z15
                              generalize vs 16 = z16
                              generalize vs 17 = z17
                              generalize vs 18 = z18
                              generalize vs 19 = z19
                              generalize vs 20 = z20
                              generalize vs 21 = z21
                              generalize vs 22 = z22
                              generalize vs 23 = z23
                              simp only [putAll, List.drop_succ_cons, List.drop_zero, Act.put, List.setIfInBounds_toArray, List.set_cons_zero, List.set_cons_succ]
                              clear vs
                              have HB3 := Lib.hid (HB2.out.trans (hS.mono HB2.out.size))
                              clear hS hr1 hch hcx hex hg0 hg1
                              go_wp2_with fail
                              go_roundw
                              case rel => exact ⟨q2 + 1, rfl, by omega, HB3.out⟩
                              case measure => simp [intOf]; omega
            · have hqq : (g.1 == u) = false := by simpa using hgu
              obtain rfl := HEQL.out hgu
              have hll : ((l1.length : Int) == (l1.length : Int)) = true := by simp
              clear hgu
              go_upto_region 14 with fail
              clear hqq hlt hltN hd hg0 hll
              have HTS8 := Lib.hid (HTS7.out.all (fun k o h0 => blk_below h0 HBL.out))
              have HTT8 := Lib.hid (HTT7.out.below HBL.out)
              have HRG8 := Lib.hid (blk_below HRG7.out HBL.out)
              have HB8 := Lib.hid (HB7.out.trans (HBL.out.mono HB7.out.size))
              clear HTS7 HTT7 HRG7 HB7 HBL HSEE HEQL HWR
              rename World => w8
              go_wp2_with fail
              go_loopw [14] (fun vi wr => ∃ q : Nat, vi = .int .i64 (q : Int) ∧ q ≤ docs.length ∧ Below w8.heap.size w8 wr) (fun vi _ => docs.length - (intOf vi).toNat)
              case atStart => exact ⟨0, rfl, Nat.zero_le _, Below.refl _ _⟩
              case round =>
                obtain ⟨q, rfl, hq, hbl⟩ := hrel
                have HBL := Lib.hid hbl
                clear hbl
                have hr1 : wr.cell? ⟨N9, 1, none⟩ = some (.slice (some ⟨bD, 0, none⟩) docs.length c') := cell_of_row wr N9 1 _ _ _ (blk_below HTT8.out.row HBL.out)
                rcases (show q = docs.length ∨ q < docs.length by omega) with hqe | hql
                · have hd : decide ((q : Int) < (docs.length : Int)) = false := by simp; omega
                  go_wp2_with fail
                  refine (awakeL (HB8.out.trans (HBL.out.mono HB8.out.size))).mono ?_
                  rintro e w7 ⟨rfl, hb7⟩
                  go_wp2_with fail
                  go_ret
                  exact ⟨rfl, hb7⟩
                · have hd : decide ((q : Int) < (docs.length : Int)) = true := by simp; omega
                  have hd' : decide (q < docs.length) = true := by simp; omega
                  obtain ⟨e, he⟩ : ∃ e, docs2[q]? = some e := ⟨_, List.getElem?_eq_getElem (by rw [HTS8.out.dlen]; exact hql)⟩
                  obtain ⟨r, hr⟩ : ∃ r, rows2[q]? = some r := ⟨_, List.getElem?_eq_getElem (by rw [HTS8.out.len]; exact hql)⟩
                  obtain ⟨sqe, nde, che, gre, gne, hre, -, hoc, -⟩ := HTS8.out.docs q r e hr he
                  obtain ⟨A2, c2, e2, -, -, hcl⟩ := own_cells HTS8.out.own HTS8.out.len HTS8.out.rowlen
                  injection e2 with e2 _ e3
                  subst e2 e3
                  replace hcl := hcl.resolve_left c0
                  obtain ⟨b2, e2, -, -, hcl⟩ := hcl
                  injection e2 with e2
                  injection e2 with e2
                  subst e2
                  obtain ⟨CA, cc, rfl, -, -, hcc⟩ := own_cells hoc (by simp [chC]) (fun r hr => by obtain ⟨s, _, rfl⟩ := List.mem_map.1 hr; rfl)
                  have hcm : e.chans.length ≤ 9223372036854775807 := by
                    obtain ⟨_, h2⟩ := hoc
                    rcases h2 with ⟨_, h2⟩ | ⟨_, cap, _, _, _, _, h2, h3, _⟩
                    · omega
                    · unfold maxLen at h3; omega
                  have HCC := Lib.hid (show e.chans.length = 0 ∨ ∃ b, CA = some ⟨b, 0, none⟩ ∧ ∀ j, j < e.chans.length → w8.cell? ⟨b, 0 + j, none⟩ = some (encStr (at_ e.chans j)) from hcc.imp _root_.id (fun ⟨b, e1, _, _, h⟩ => ⟨b, e1, fun j hj => by
                    have := h j 0 [encStr (at_ e.chans j)] _ (by unfold chC; rw [List.getElem?_map, List.getElem?_eq_getElem hj, at_get hj]; rfl) rfl
                    simpa using this⟩))
                  have HEX := Lib.hid (show w8.cell? ⟨bD, 0 + q * 6 + 0, none⟩ = some (encStr e.id) from hcl q 0 r _ hr (by rw [hre]; rfl))
                  have HCH := Lib.hid (show w8.cell? ⟨bD, 0 + q * 6 + 3, none⟩ = some (.slice CA e.chans.length cc) from hcl q 3 r _ hr (by rw [hre]; rfl))
                  have hex : wr.cell? ⟨bD, 0 + q * 6 + 0, none⟩ = some (encStr e.id) := below_cell HBL.out HEX.out
                  have HE := Lib.hid he
                  clear he hr hre hoc hcl hcc
                  go_upto_region 17 with fail
                  refine region_f 11 (fun i vs W => match i with
                      | 0 => vs 0 = .agg (stV sq (.slice (some ⟨bD, 0, none⟩) docs.length c') (.slice LA' ln lc') (.slice SA' sn sc'))
                      | 1 => vs 1 = .pointer (some ⟨N9, 0 + 1, none⟩)
                      | 2 => vs 2 = .slice (some ⟨bD, 0, none⟩) docs.length c'
                      | 3 => vs 3 = .int .i64 (q : Int)
                      | 4 => vs 4 = .pointer (some ⟨bD, 0 + q * 6, none⟩)
                      | 5 => vs 5 = .pointer (some ⟨bD, 0 + q * 6 + 0, none⟩)
                      | 6 => vs 6 = encStr e.id
                      | 7 => ∃ z, vs 7 = .int .i64 z ∧ Found docs2 e.id z
                      | 8 => vs 8 = .int .i64 (q : Int)
                      | 9 => ∃ ff, vs 9 = .bool ff ∧ (ff = true → ∀ x ∈ docs2.take q, x.id ≠ e.id)
                      | 10 => ∃ ff, vs 10 = .bool ff ∧ (ff = true → ∀ x ∈ docs2.take q, x.id ≠ e.id)
                      | _ => True) (fun _ W W' => Below W.heap.size W W') (fun W => Below wr.heap.size wr W) (by kernel_rfl) (by kernel_rfl) ?hstt ?h0t ?stept ?fint
                  case hstt =>
                    intro i k vs W W' _ _ h hG
                    match i, h with
                    | 0, h => exact h
                    | 1, h => exact h
                    | 2, h => exact h
                    | 3, h => exact h
                    | 4, h => exact h
                    | 5, h => exact h
                    | 6, h => exact h
                    | 7, h => exact h
                    | 8, h => exact h
                    | 9, h => exact h
                    | 10, h => exact h
                    | n + 11, _ => trivial
                  case h0t => exact (Below.refl _ _).drew
                  case stept =>
                    intro i op hi ho ac W hS hag hdep
                    have hbr : Below W.heap.size W W := Below.refl _ _
                    match i, hi, ho with
                    | 0, _, rfl =>
                      exact ow_load_row 27 _ rfl N9 (hag 9 rfl) 27 _ (0, 0) _ (blk_below HTT8.out.row (HBL.out.trans (hS.mono HBL.out.size))) Try.underlying27 rfl (by kernel_rfl) ⟨_, rfl, fun vs' h _ => h (fun e => by cases e), hbr, hS⟩
                    | 1, _, rfl =>
                      exact ow_field fld27_1 _ rfl N9 (0) (hag 9 rfl) ⟨_, rfl, fun vs' h _ => h (fun e => by cases e), hbr, hS⟩
                    | 2, _, rfl =>
                      have hp : ac.eval (.tmp 111) = .pointer (some ⟨N9, 0 + 1, none⟩) := hdep 1 (by omega) (by kernel_rfl)
                      exact ow_load_slice' _ 45 23 rfl N9 (0 + 1) hp (some ⟨bD, 0, none⟩) docs.length c' (below_cell hS hr1) Try.underlying23 ⟨_, rfl, fun vs' h _ => h (fun e => by cases e), hbr, hS⟩
                    | 3, _, rfl =>
                      exact ow_move _ rfl (v := .int .i64 (q : Int)) (hag 14 rfl) ⟨_, rfl, fun vs' h _ => h (fun e => by cases e), hbr, hS⟩
                    | 4, _, rfl =>
                      have hs : ac.eval (.tmp 112) = .slice (some ⟨bD, 0, none⟩) docs.length c' := hdep 2 (by omega) (by kernel_rfl)
                      have hi : ac.eval (.tmp 113) = .int .i64 (q : Int) := hdep 3 (by omega) (by kernel_rfl)
                      exact ow_index_n _ _ 45 23 6 rfl bD 0 docs.length c' q hs hi hql Try.underlying23 info45 ⟨_, rfl, fun vs' h _ => h (fun e => by cases e), hbr, hS⟩
                    | 5, _, rfl =>
                      have hp : ac.eval (.tmp 114) = .pointer (some ⟨bD, 0 + q * 6, none⟩) := hdep 4 (by omega) (by kernel_rfl)
                      exact ow_field fld45_0 _ rfl bD (0 + q * 6) hp ⟨_, rfl, fun vs' h _ => h (fun e => by cases e), hbr, hS⟩
                    | 6, _, rfl =>
                      have hp : ac.eval (.tmp 115) = .pointer (some ⟨bD, 0 + q * 6 + 0, none⟩) := hdep 5 (by omega) (by kernel_rfl)
                      exact ow_load_str _ 9 rfl bD (0 + q * 6 + 0) hp _ (below_cell hS hex) Try.underlying9 ⟨_, rfl, fun vs' h _ => h (fun e => by cases e), hbr, hS⟩
                    | 7, _, rfl =>
                      have h1 : ac.eval (.tmp 110) = .agg (stV sq (.slice (some ⟨bD, 0, none⟩) docs.length c') (.slice LA' ln lc') (.slice SA' sn sc')) := hdep 0 (by omega) (by kernel_rfl)
                      have h2 : ac.eval (.tmp 116) = encStr e.id := hdep 6 (by omega) (by kernel_rfl)
                      refine ow_call Try.func22 (by kernel_rfl) rfl _ _ rfl (vs := #[.agg (stV sq (.slice (some ⟨bD, 0, none⟩) docs.length c') (.slice LA' ln lc') (.slice SA' sn sc')), encStr e.id]) (by simp only [List.map_toArray, List.map_cons, List.map_nil, h1, h2]) ?_
                      refine (find_any docs2 sq _ _ _ W e.id _ (HTT8.out.below (HBL.out.trans (hS.mono HBL.out.size))).ds).mono ?_
                      rintro e' w' ⟨⟨z, rfl, hz⟩, hbb⟩
                      exact ⟨_, rfl, ⟨_, rfl, fun vs' h _ => ⟨z, h (fun e => by cases e), hz⟩, hbb, hS.trans (hbb.mono hS.size)⟩⟩
                    | 8, _, rfl =>
                      exact ow_move _ rfl (v := .int .i64 (q : Int)) (hag 14 rfl) ⟨_, rfl, fun vs' h _ => h (fun e => by cases e), hbr, hS⟩
                    | 9, _, rfl =>
                      have h2 : ac.eval (.tmp 118) = .int .i64 (q : Int) := hdep 8 (by omega) (by kernel_rfl)
                      obtain ⟨z, h1, hz⟩ : ∃ z, ac.eval (.tmp 117) = .int .i64 z ∧ Found docs2 e.id z := hdep 7 (by omega) (by kernel_rfl)
                      exact ow_eqi _ _ _ _ rfl _ _ _ h1 h2 ⟨_, rfl, fun vs' h _ => ⟨_, h (fun e => by cases e), fun hf => by
                        have hf : z = (q : Int) := by simpa using hf
                        rcases hz with ⟨h3, _⟩ | ⟨k', d', h3, _, _, h5⟩
                        · omega
                        · have : k' = q := by omega
                          subst this
                          exact h5⟩, hbr, hS⟩
                    | 10, _, rfl =>
                      obtain ⟨ff, h1, h2⟩ : ∃ ff, ac.eval (.tmp 119) = .bool ff ∧ (ff = true → ∀ x ∈ docs2.take q, x.id ≠ e.id) := hdep 9 (by omega) (by kernel_rfl)
                      exact ow_assign _ rfl h1 ⟨_, rfl, fun vs' h _ => ⟨ff, h (fun e => by cases e), h2⟩, hbr, hS⟩
                    | n + 11, hi, _ => exact absurd hi (by omega)
                  case fint =>
                    intro vs W hS hF
                    have f10 : ∃ ff, vs 10 = .bool ff ∧ (ff = true → ∀ x ∈ docs2.take q, x.id ≠ e.id) := hF 10 (by omega)
                    clear hF
                    change wpList _ _ _ _ (Act.put (Act.put (Act.put (Act.put (Act.put (Act.put (Act.put (Act.put (Act.put (Act.put (Act.put _ (some 110) (vs 0)) (some 111) (vs 1)) (some 112) (vs 2)) (some 113) (vs 3)) (some 114) (vs 4)) (some 115) (vs 5)) (some 116) (vs 6)) (some 117) (vs 7)) (some 118) (vs 8)) (some 119) (vs 9)) (some 15) (vs 10)) W
                    generalize vs 0 = z0
                    generalize vs 1 = z1
                    generalize vs 2 = z2
                    generalize vs 3 = z3
                    generalize vs 4 = z4
                    generalize vs 5 = z5
                    generalize vs 6 = z6
                    generalize vs 7 = z7
                    generalize vs 8 = z8
                    generalize vs 9 = z9
                    generalize vs 10 = z10 at f10 ⊢
                    simp only [putAll, List.drop_succ_cons, List.drop_zero, Act.put, List.setIfInBounds_toArray, List.set_cons_zero, List.set_cons_succ]
                    clear vs
                    rename World => w9
                    obtain ⟨ff, rfl, hff⟩ := f10
                    have HFF := Lib.hid hff
                    have HBL9 := Lib.hid (HBL.out.trans (hS.mono HBL.out.size))
                    clear hS hff hr1 hex HBL
                    go_wp2_with fail
                    go_loopw [16] (fun vi wq => ∃ q2 : Nat, vi = .int .i64 (q2 : Int) ∧ q2 ≤ e.chans.length ∧ Below w9.heap.size w9 wq) (fun vi _ => e.chans.length - (intOf vi).toNat)
                    case atStart => exact ⟨0, rfl, Nat.zero_le _, Below.refl _ _⟩
                    case round =>
                      obtain ⟨q2, rfl, hq2, hbl2⟩ := hrel
                      have HBQ := Lib.hid (HBL9.out.trans (hbl2.mono HBL9.out.size))
                      have HB2 := Lib.hid hbl2
                      clear hbl2
                      have hr1 : wr.cell? ⟨N9, 1, none⟩ = some (.slice (some ⟨bD, 0, none⟩) docs.length c') := cell_of_row wr N9 1 _ _ _ (blk_below HTT8.out.row HBQ.out)
                      have hch : wr.cell? ⟨bD, 0 + q * 6 + 3, none⟩ = some (.slice CA e.chans.length cc) := below_cell HBQ.out HCH.out
                      have hch' : wr.cell? ⟨bD, q * 6 + 3, none⟩ = some (.slice CA e.chans.length cc) := by rw [← hch, Nat.zero_add]
                      rcases (show q2 = e.chans.length ∨ q2 < e.chans.length by omega) with hqe | hq2l
                      · have hdd : decide ((q2 : Int) < (e.chans.length : Int)) = false := by simp; omega
                        go_wp2_with (refine wpList_index_n rfl _ _ 45 23 6 rfl bD 0 docs.length c' q rfl rfl hql Try.underlying23 info45 ?_)
                        go_roundw
                        case rel => exact ⟨q + 1, rfl, by omega, HBQ.out⟩
                        case measure => simp [intOf]; omega
                      · have hdd : decide ((q2 : Int) < (e.chans.length : Int)) = true := by simp; omega
                        have hdd' : decide (q2 < e.chans.length) = true := by simp; omega
                        cases ff with
                        | false =>
                          go_wp2_with (refine wpList_index_n rfl _ _ 45 23 6 rfl bD 0 docs.length c' q rfl rfl hql Try.underlying23 info45 ?_)
                          go_roundw
                          case rel => exact ⟨q + 1, rfl, by omega, HBQ.out⟩
                          case measure => simp [intOf]; omega
                        | true =>
                          obtain ⟨bc, rfl, hcc⟩ := HCC.out.resolve_left (by omega)
                          have hcx : wr.cell? ⟨bc, 0 + q2, none⟩ = some (encStr (at_ e.chans q2)) := below_cell HBQ.out (hcc q2 hq2l)
                          have hex : wr.cell? ⟨bD, 0 + q * 6 + 0, none⟩ = some (encStr e.id) := below_cell HBQ.out HEX.out
                          have hg0 : wr.cell? ⟨N + 1, 0 + 0, none⟩ = some (encStr g.1) := cell_of_row wr (N + 1) 0 _ _ _ (blk_below HRG8.out HBQ.out)
                          have hg1 : wr.cell? ⟨N + 1, 0 + 1, none⟩ = some (encStr g.2) := cell_of_row wr (N + 1) 1 _ _ _ (blk_below HRG8.out HBQ.out)
                          have HFIRST := Lib.hid (show at_ e.chans q2 = g.2 → (byOf docs2 g.1 e.id).isSome = true from fun hc => first_sees HE.out (HFF.out rfl) (by rw [← hc, at_get hq2l]; exact List.getElem_mem hq2l) (HNEW.out))
                          clear hcc
                          go_upto_region 21 with (refine wpList_index_n rfl _ _ 45 23 6 rfl bD 0 docs.length c' q rfl rfl hql Try.underlying23 info45 ?_)
                          clear hch' hdd hdd'
                          by_cases hcg : at_ e.chans q2 = g.2
                          · have HSEE := Lib.hid (HFIRST.out hcg)
                            have HEQ := Lib.hid (show (at_ e.chans q2 == g.2) = true by simpa using hcg)
                            clear hcg
                            refine region_g 25 (fun _ _ => false) (fun i vs W => match i with
                                | 0 => vs 0 = .pointer (some ⟨N9, 0 + 1, none⟩)
                                | 1 => vs 1 = .slice (some ⟨bD, 0, none⟩) docs.length c'
                                | 2 => vs 2 = .int .i64 (q : Int)
                                | 3 => vs 3 = .pointer (some ⟨bD, 0 + q * 6, none⟩)
                                | 4 => vs 4 = .pointer (some ⟨bD, 0 + q * 6 + 3, none⟩)
                                | 5 => vs 5 = .slice (some ⟨bc, 0, none⟩) e.chans.length cc
                                | 6 => vs 6 = .int .i64 (q2 : Int)
                                | 7 => vs 7 = .pointer (some ⟨bc, 0 + (q2), none⟩)
                                | 8 => vs 8 = encStr (at_ e.chans q2)
                                | 9 => vs 9 = .pointer (some ⟨(N + 1), 0 + 1, none⟩)
                                | 10 => vs 10 = encStr g.2
                                | 11 => vs 11 = .bool true
                                | 12 => vs 12 = .bool true
                                | 13 => vs 13 = .agg (stV sq (.slice (some ⟨bD, 0, none⟩) docs.length c') (.slice LA' ln lc') (.slice SA' sn sc'))
                                | 14 => vs 14 = .pointer (some ⟨(N + 1), 0 + 0, none⟩)
                                | 15 => vs 15 = encStr g.1
                                | 16 => vs 16 = .pointer (some ⟨N9, 0 + 1, none⟩)
                                | 17 => vs 17 = .slice (some ⟨bD, 0, none⟩) docs.length c'
                                | 18 => vs 18 = .int .i64 (q : Int)
                                | 19 => vs 19 = .pointer (some ⟨bD, 0 + q * 6, none⟩)
                                | 20 => vs 20 = .pointer (some ⟨bD, 0 + q * 6 + 0, none⟩)
                                | 21 => vs 21 = encStr e.id
                                | 22 => vs 22 = .bool true
                                | 23 => vs 23 = .bool false
                                | 24 => vs 24 = .bool false
                                | _ => True) (fun _ W W' => Below W.heap.size W W') (fun W => Below wr.heap.size wr W) (by kernel_rfl) (by kernel_rfl) ?hstx ?h0x ?stepx ?finx
                            case hstx =>
                              intro i k vs W W' _ _ _ h hG
                              match i, h with
                              | 0, h => exact h
                              | 1, h => exact h
                              | 2, h => exact h
                              | 3, h => exact h
                              | 4, h => exact h
                              | 5, h => exact h
                              | 6, h => exact h
                              | 7, h => exact h
                              | 8, h => exact h
                              | 9, h => exact h
                              | 10, h => exact h
                              | 11, h => exact h
                              | 12, h => exact h
                              | 13, h => exact h
                              | 14, h => exact h
                              | 15, h => exact h
                              | 16, h => exact h
                              | 17, h => exact h
                              | 18, h => exact h
                              | 19, h => exact h
                              | 20, h => exact h
                              | 21, h => exact h
                              | 22, h => exact h
                              | 23, h => exact h
                              | 24, h => exact h
                              | n + 25, _ => trivial
                            case h0x => exact (Below.refl _ _).drew
                            case stepx =>
                              intro i op hi ho ac W hS hag hdep
                              have hbr : Below W.heap.size W W := Below.refl _ _
                              match i, hi, ho with
                              | 0, _, rfl =>
                                refine gstep rfl ?_
                                exact ow_field fld27_1 _ rfl N9 (0) (hag 9 rfl) ⟨_, rfl, fun vs' h _ => h (fun e => by cases e), hbr, hS⟩
                              | 1, _, rfl =>
                                have hp : ac.eval (.tmp 134) = .pointer (some ⟨N9, 0 + 1, none⟩) := hdep 0 (by omega) (by kernel_rfl) (fun k _ h => by cases h)
                                refine gstep rfl ?_
                                exact ow_load_slice' _ 45 23 rfl N9 (0 + 1) hp (some ⟨bD, 0, none⟩) docs.length c' (below_cell hS hr1) Try.underlying23 ⟨_, rfl, fun vs' h _ => h (fun e => by cases e), hbr, hS⟩
                              | 2, _, rfl =>
                                refine gstep rfl ?_
                                exact ow_move _ rfl (v := .int .i64 (q : Int)) (hag 14 rfl) ⟨_, rfl, fun vs' h _ => h (fun e => by cases e), hbr, hS⟩
                              | 3, _, rfl =>
                                have hs : ac.eval (.tmp 135) = .slice (some ⟨bD, 0, none⟩) docs.length c' := hdep 1 (by omega) (by kernel_rfl) (fun k _ h => by cases h)
                                have hi : ac.eval (.tmp 136) = .int .i64 (q : Int) := hdep 2 (by omega) (by kernel_rfl) (fun k _ h => by cases h)
                                refine gstep rfl ?_
                                exact ow_index_n _ _ 45 23 6 rfl bD 0 docs.length c' q hs hi hql Try.underlying23 info45 ⟨_, rfl, fun vs' h _ => h (fun e => by cases e), hbr, hS⟩
                              | 4, _, rfl =>
                                have hp : ac.eval (.tmp 137) = .pointer (some ⟨bD, 0 + q * 6, none⟩) := hdep 3 (by omega) (by kernel_rfl) (fun k _ h => by cases h)
                                refine gstep rfl ?_
                                exact ow_field fld45_3 _ rfl bD (0 + q * 6) hp ⟨_, rfl, fun vs' h _ => h (fun e => by cases e), hbr, hS⟩
                              | 5, _, rfl =>
                                have hp : ac.eval (.tmp 138) = .pointer (some ⟨bD, 0 + q * 6 + 3, none⟩) := hdep 4 (by omega) (by kernel_rfl) (fun k _ h => by cases h)
                                refine gstep rfl ?_
                                exact ow_load_slice' _ 9 35 rfl bD (0 + q * 6 + 3) hp (some ⟨bc, 0, none⟩) e.chans.length cc (below_cell hS hch) Try.underlying35 ⟨_, rfl, fun vs' h _ => h (fun e => by cases e), hbr, hS⟩
                              | 6, _, rfl =>
                                refine gstep rfl ?_
                                exact ow_move _ rfl (v := .int .i64 (q2 : Int)) (hag 16 rfl) ⟨_, rfl, fun vs' h _ => h (fun e => by cases e), hbr, hS⟩
                              | 7, _, rfl =>
                                have hs : ac.eval (.tmp 139) = .slice (some ⟨bc, 0, none⟩) e.chans.length cc := hdep 5 (by omega) (by kernel_rfl) (fun k _ h => by cases h)
                                have hi : ac.eval (.tmp 140) = .int .i64 (q2 : Int) := hdep 6 (by omega) (by kernel_rfl) (fun k _ h => by cases h)
                                refine gstep rfl ?_
                                exact ow_index _ _ 9 35 rfl bc 0 e.chans.length cc (q2) hs hi hq2l Try.underlying35 tag9 ⟨_, rfl, fun vs' h _ => h (fun e => by cases e), hbr, hS⟩
                              | 8, _, rfl =>
                                have hp : ac.eval (.tmp 141) = .pointer (some ⟨bc, 0 + (q2), none⟩) := hdep 7 (by omega) (by kernel_rfl) (fun k _ h => by cases h)
                                refine gstep rfl ?_
                                exact ow_load_str _ 9 rfl bc (0 + (q2)) hp _ (below_cell hS hcx) Try.underlying9 ⟨_, rfl, fun vs' h _ => h (fun e => by cases e), hbr, hS⟩
                              | 9, _, rfl =>
                                refine gstep rfl ?_
                                exact ow_field fld48_1 _ rfl (N + 1) (0) (hag 5 rfl) ⟨_, rfl, fun vs' h _ => h (fun e => by cases e), hbr, hS⟩
                              | 10, _, rfl =>
                                have hp : ac.eval (.tmp 143) = .pointer (some ⟨(N + 1), 0 + 1, none⟩) := hdep 9 (by omega) (by kernel_rfl) (fun k _ h => by cases h)
                                refine gstep rfl ?_
                                exact ow_load_str _ 9 rfl (N + 1) (0 + 1) hp _ (below_cell hS hg1) Try.underlying9 ⟨_, rfl, fun vs' h _ => h (fun e => by cases e), hbr, hS⟩
                              | 11, _, rfl =>
                                have h1 : ac.eval (.tmp 142) = encStr (at_ e.chans q2) := hdep 8 (by omega) (by kernel_rfl) (fun k _ h => by cases h)
                                have h2 : ac.eval (.tmp 144) = encStr g.2 := hdep 10 (by omega) (by kernel_rfl) (fun k _ h => by cases h)
                                refine gstep rfl ?_
                                exact ow_eql_str _ _ _ rfl _ _ h1 h2 (by rw [HEQ.out]; exact ⟨_, rfl, fun vs' h _ => h (fun e => by cases e), hbr, hS⟩)
                              | 12, _, rfl =>
                                have h1 : ac.eval (.tmp 145) = .bool true := hdep 11 (by omega) (by kernel_rfl) (fun k _ h => by cases h)
                                refine gstep rfl ?_
                                exact ow_move _ rfl h1 ⟨_, rfl, fun vs' h _ => h (fun e => by cases e), hbr, hS⟩
                              | 13, _, rfl =>
                                refine gstep (wanted_ok rfl rfl (hdep 12 (by omega) (by kernel_rfl) (fun k _ h => by cases h) : ac.eval (.tmp 146) = .bool true)) ?_
                                exact ow_load_row 27 _ rfl N9 (hag 9 rfl) 27 _ (0, 0) _ (blk_below HTT8.out.row (HBQ.out.trans (hS.mono HBQ.out.size))) Try.underlying27 rfl (by kernel_rfl) ⟨_, rfl, fun vs' h _ => h (fun e => by cases e), hbr, hS⟩
                              | 14, _, rfl =>
                                refine gstep (wanted_ok rfl rfl (hdep 12 (by omega) (by kernel_rfl) (fun k _ h => by cases h) : ac.eval (.tmp 146) = .bool true)) ?_
                                exact ow_field fld48_0 _ rfl (N + 1) (0) (hag 5 rfl) ⟨_, rfl, fun vs' h _ => h (fun e => by cases e), hbr, hS⟩
                              | 15, _, rfl =>
                                have hp : ac.eval (.tmp 148) = .pointer (some ⟨(N + 1), 0 + 0, none⟩) := hdep 14 (by omega) (by kernel_rfl) (fun k _ h => by cases h)
                                refine gstep (wanted_ok rfl rfl (hdep 12 (by omega) (by kernel_rfl) (fun k _ h => by cases h) : ac.eval (.tmp 146) = .bool true)) ?_
                                exact ow_load_str _ 9 rfl (N + 1) (0 + 0) hp _ (below_cell hS hg0) Try.underlying9 ⟨_, rfl, fun vs' h _ => h (fun e => by cases e), hbr, hS⟩
                              | 16, _, rfl =>
                                refine gstep (wanted_ok rfl rfl (hdep 12 (by omega) (by kernel_rfl) (fun k _ h => by cases h) : ac.eval (.tmp 146) = .bool true)) ?_
                                exact ow_field fld27_1 _ rfl N9 (0) (hag 9 rfl) ⟨_, rfl, fun vs' h _ => h (fun e => by cases e), hbr, hS⟩
                              | 17, _, rfl =>
                                have hp : ac.eval (.tmp 150) = .pointer (some ⟨N9, 0 + 1, none⟩) := hdep 16 (by omega) (by kernel_rfl) (fun k _ h => by cases h)
                                refine gstep (wanted_ok rfl rfl (hdep 12 (by omega) (by kernel_rfl) (fun k _ h => by cases h) : ac.eval (.tmp 146) = .bool true)) ?_
                                exact ow_load_slice' _ 45 23 rfl N9 (0 + 1) hp (some ⟨bD, 0, none⟩) docs.length c' (below_cell hS hr1) Try.underlying23 ⟨_, rfl, fun vs' h _ => h (fun e => by cases e), hbr, hS⟩
                              | 18, _, rfl =>
                                refine gstep (wanted_ok rfl rfl (hdep 12 (by omega) (by kernel_rfl) (fun k _ h => by cases h) : ac.eval (.tmp 146) = .bool true)) ?_
                                exact ow_move _ rfl (v := .int .i64 (q : Int)) (hag 14 rfl) ⟨_, rfl, fun vs' h _ => h (fun e => by cases e), hbr, hS⟩
                              | 19, _, rfl =>
                                have hs : ac.eval (.tmp 151) = .slice (some ⟨bD, 0, none⟩) docs.length c' := hdep 17 (by omega) (by kernel_rfl) (fun k _ h => by cases h)
                                have hi : ac.eval (.tmp 152) = .int .i64 (q : Int) := hdep 18 (by omega) (by kernel_rfl) (fun k _ h => by cases h)
                                refine gstep (wanted_ok rfl rfl (hdep 12 (by omega) (by kernel_rfl) (fun k _ h => by cases h) : ac.eval (.tmp 146) = .bool true)) ?_
                                exact ow_index_n _ _ 45 23 6 rfl bD 0 docs.length c' q hs hi hql Try.underlying23 info45 ⟨_, rfl, fun vs' h _ => h (fun e => by cases e), hbr, hS⟩
                              | 20, _, rfl =>
                                have hp : ac.eval (.tmp 153) = .pointer (some ⟨bD, 0 + q * 6, none⟩) := hdep 19 (by omega) (by kernel_rfl) (fun k _ h => by cases h)
                                refine gstep (wanted_ok rfl rfl (hdep 12 (by omega) (by kernel_rfl) (fun k _ h => by cases h) : ac.eval (.tmp 146) = .bool true)) ?_
                                exact ow_field fld45_0 _ rfl bD (0 + q * 6) hp ⟨_, rfl, fun vs' h _ => h (fun e => by cases e), hbr, hS⟩
                              | 21, _, rfl =>
                                have hp : ac.eval (.tmp 154) = .pointer (some ⟨bD, 0 + q * 6 + 0, none⟩) := hdep 20 (by omega) (by kernel_rfl) (fun k _ h => by cases h)
                                refine gstep (wanted_ok rfl rfl (hdep 12 (by omega) (by kernel_rfl) (fun k _ h => by cases h) : ac.eval (.tmp 146) = .bool true)) ?_
                                exact ow_load_str _ 9 rfl bD (0 + q * 6 + 0) hp _ (below_cell hS hex) Try.underlying9 ⟨_, rfl, fun vs' h _ => h (fun e => by cases e), hbr, hS⟩
                              | 22, _, rfl =>
                                have h1 : ac.eval (.tmp 147) = .agg (stV sq (.slice (some ⟨bD, 0, none⟩) docs.length c') (.slice LA' ln lc') (.slice SA' sn sc')) := hdep 13 (by omega) (by kernel_rfl) (fun k _ h => by cases h)
                                have h2 : ac.eval (.tmp 149) = encStr g.1 := hdep 15 (by omega) (by kernel_rfl) (fun k _ h => by cases h)
                                have h3 : ac.eval (.tmp 155) = encStr e.id := hdep 21 (by omega) (by kernel_rfl) (fun k _ h => by cases h)
                                refine gstep (wanted_ok rfl rfl (hdep 12 (by omega) (by kernel_rfl) (fun k _ h => by cases h) : ac.eval (.tmp 146) = .bool true)) ?_
                                refine ow_call Try.func12 (by kernel_rfl) rfl _ _ rfl (vs := #[.agg (stV sq (.slice (some ⟨bD, 0, none⟩) docs.length c') (.slice LA' ln lc') (.slice SA' sn sc')), encStr g.1, encStr e.id]) (by simp only [List.map_toArray, List.map_cons, List.map_nil, h1, h2, h3]) ?_
                                refine ((HTT8.out.below (HBQ.out.trans (hS.mono HBQ.out.size))).sees g.1 e.id).mono ?_
                                rw [HSEE.out]
                                rintro e' w' ⟨rfl, hbb⟩
                                exact ⟨_, rfl, ⟨_, rfl, fun vs' h _ => h (fun e => by cases e), hbb, hS.trans (hbb.mono hS.size)⟩⟩
                              | 23, _, rfl =>
                                have h1 : ac.eval (.tmp 156) = .bool true := hdep 22 (by omega) (by kernel_rfl) (fun k _ h => by cases h)
                                refine gstep (wanted_ok rfl rfl (hdep 12 (by omega) (by kernel_rfl) (fun k _ h => by cases h) : ac.eval (.tmp 146) = .bool true)) ?_
                                exact ow_not _ 4 rfl true h1 ⟨_, rfl, fun vs' h _ => h (fun e => by cases e), hbr, hS⟩
                              | 24, _, rfl =>
                                have h1 : ac.eval (.tmp 146) = .bool true := hdep 12 (by omega) (by kernel_rfl) (fun k _ h => by cases h)
                                have h2 : ac.eval (.tmp 157) = .bool false := hdep 23 (by omega) (by kernel_rfl) (fun k _ h => by cases h)
                                refine gstep rfl ?_
                                exact ow_pick _ _ _ rfl true h1 (by simpa using h2) ⟨_, rfl, fun vs' h _ => h (fun e => by cases e), hbr, hS⟩
                              | n + 25, hi, _ => exact absurd hi (by omega)
                            case finx =>
                              intro vs W hS hF
                              have e24 : vs 24 = .bool false := hF 24 (by omega) (fun _ _ => rfl)
                              clear hF
                              change wpList _ _ _ _ (Act.put (Act.put (Act.put (Act.put (Act.put (Act.put (Act.put (Act.put (Act.put (Act.put (Act.put (Act.put (Act.put (Act.put (Act.put (Act.put (Act.put (Act.put (Act.put (Act.put (Act.put (Act.put (Act.put (Act.put (Act.put _ (some 134) (vs 0)) (some 135) (vs 1)) (some 136) (vs 2)) (some 137) (vs 3)) (some 138) (vs 4)) (some 139) (vs 5)) (some 140) (vs 6)) (some 141) (vs 7)) (some 142) (vs 8)) (some 143) (vs 9)) (some 144) (vs 10)) (some 145) (vs 11)) (some 146) (vs 12)) (some 147) (vs 13)) (some 148) (vs 14)) (some 149) (vs 15)) (some 150) (vs 16)) (some 151) (vs 17)) (some 152) (vs 18)) (some 153) (vs 19)) (some 154) (vs 20)) (some 155) (vs 21)) (some 156) (vs 22)) (some 157) (vs 23)) (some 158) (vs 24)) W
                              rw [e24]
                              clear e24
                              generalize vs 0 = z0
                              generalize vs 1 = z1
                              generalize vs 2 = z2
                              generalize vs 3 = z3
                              generalize vs 4 = z4
                              generalize vs 5 = z5
                              generalize vs 6 = z6
                              generalize vs 7 = z7
                              generalize vs 8 = z8
                              generalize vs 9 = z9
                              generalize vs 10 = z10
                              generalize vs 11 = z11
                              generalize vs 12 = z12
                              generalize vs 13 = z13
                              generalize vs 14 = z14
                              generalize vs 15 = z15
                              generalize vs 16 = z16
                              generalize vs 17 = z17
                              generalize vs 18 = z18
                              generalize vs 19 = z19
                              generalize vs 20 = z20
                              generalize vs 21 = z21
                              generalize vs 22 = z22
                              generalize vs 23 = z23
                              simp only [putAll, List.drop_succ_cons, List.drop_zero, Act.put, List.setIfInBounds_toArray, List.set_cons_zero, List.set_cons_succ]
                              clear vs
                              have HB3 := Lib.hid (HB2.out.trans (hS.mono HB2.out.size))
                              clear hS hr1 hch hcx hex hg0 hg1
                              go_wp2_with fail
                              go_roundw
                              case rel => exact ⟨q2 + 1, rfl, by omega, HB3.out⟩
                              case measure => simp [intOf]; omega
                          · have HEQ := Lib.hid (show (at_ e.chans q2 == g.2) = false by simpa using hcg)
                            clear hcg
                            refine region_g 25 (fun _ _ => false) (fun i vs W => match i with
                                | 0 => vs 0 = .pointer (some ⟨N9, 0 + 1, none⟩)
                                | 1 => vs 1 = .slice (some ⟨bD, 0, none⟩) docs.length c'
                                | 2 => vs 2 = .int .i64 (q : Int)
                                | 3 => vs 3 = .pointer (some ⟨bD, 0 + q * 6, none⟩)
                                | 4 => vs 4 = .pointer (some ⟨bD, 0 + q * 6 + 3, none⟩)
                                | 5 => vs 5 = .slice (some ⟨bc, 0, none⟩) e.chans.length cc
                                | 6 => vs 6 = .int .i64 (q2 : Int)
                                | 7 => vs 7 = .pointer (some ⟨bc, 0 + (q2), none⟩)
                                | 8 => vs 8 = encStr (at_ e.chans q2)
                                | 9 => vs 9 = .pointer (some ⟨(N + 1), 0 + 1, none⟩)
                                | 10 => vs 10 = encStr g.2
                                | 11 => vs 11 = .bool false
                                | 12 => vs 12 = .bool false
                                | 13 => True
                                | 14 => True
                                | 15 => True
                                | 16 => True
                                | 17 => True
                                | 18 => True
                                | 19 => True
                                | 20 => True
                                | 21 => True
                                | 22 => True
                                | 23 => True
                                | 24 => vs 24 = .bool false
                                | _ => True) (fun _ W W' => Below W.heap.size W W') (fun W => Below wr.heap.size wr W) (by kernel_rfl) (by kernel_rfl) ?hstx ?h0x ?stepx ?finx
                            case hstx =>
                              intro i k vs W W' _ _ _ h hG
                              match i, h with
                              | 0, h => exact h
                              | 1, h => exact h
                              | 2, h => exact h
                              | 3, h => exact h
                              | 4, h => exact h
                              | 5, h => exact h
                              | 6, h => exact h
                              | 7, h => exact h
                              | 8, h => exact h
                              | 9, h => exact h
                              | 10, h => exact h
                              | 11, h => exact h
                              | 12, h => exact h
                              | 13, h => exact h
                              | 14, h => exact h
                              | 15, h => exact h
                              | 16, h => exact h
                              | 17, h => exact h
                              | 18, h => exact h
                              | 19, h => exact h
                              | 20, h => exact h
                              | 21, h => exact h
                              | 22, h => exact h
                              | 23, h => exact h
                              | 24, h => exact h
                              | n + 25, _ => trivial
                            case h0x => exact (Below.refl _ _).drew
                            case stepx =>
                              intro i op hi ho ac W hS hag hdep
                              have hbr : Below W.heap.size W W := Below.refl _ _
                              match i, hi, ho with
                              | 0, _, rfl =>
                                refine gstep rfl ?_
                                exact ow_field fld27_1 _ rfl N9 (0) (hag 9 rfl) ⟨_, rfl, fun vs' h _ => h (fun e => by cases e), hbr, hS⟩
                              | 1, _, rfl =>
                                have hp : ac.eval (.tmp 134) = .pointer (some ⟨N9, 0 + 1, none⟩) := hdep 0 (by omega) (by kernel_rfl) (fun k _ h => by cases h)
                                refine gstep rfl ?_
                                exact ow_load_slice' _ 45 23 rfl N9 (0 + 1) hp (some ⟨bD, 0, none⟩) docs.length c' (below_cell hS hr1) Try.underlying23 ⟨_, rfl, fun vs' h _ => h (fun e => by cases e), hbr, hS⟩
                              | 2, _, rfl =>
                                refine gstep rfl ?_
                                exact ow_move _ rfl (v := .int .i64 (q : Int)) (hag 14 rfl) ⟨_, rfl, fun vs' h _ => h (fun e => by cases e), hbr, hS⟩
                              | 3, _, rfl =>
                                have hs : ac.eval (.tmp 135) = .slice (some ⟨bD, 0, none⟩) docs.length c' := hdep 1 (by omega) (by kernel_rfl) (fun k _ h => by cases h)
                                have hi : ac.eval (.tmp 136) = .int .i64 (q : Int) := hdep 2 (by omega) (by kernel_rfl) (fun k _ h => by cases h)
                                refine gstep rfl ?_
                                exact ow_index_n _ _ 45 23 6 rfl bD 0 docs.length c' q hs hi hql Try.underlying23 info45 ⟨_, rfl, fun vs' h _ => h (fun e => by cases e), hbr, hS⟩
                              | 4, _, rfl =>
                                have hp : ac.eval (.tmp 137) = .pointer (some ⟨bD, 0 + q * 6, none⟩) := hdep 3 (by omega) (by kernel_rfl) (fun k _ h => by cases h)
                                refine gstep rfl ?_
                                exact ow_field fld45_3 _ rfl bD (0 + q * 6) hp ⟨_, rfl, fun vs' h _ => h (fun e => by cases e), hbr, hS⟩
                              | 5, _, rfl =>
                                have hp : ac.eval (.tmp 138) = .pointer (some ⟨bD, 0 + q * 6 + 3, none⟩) := hdep 4 (by omega) (by kernel_rfl) (fun k _ h => by cases h)
                                refine gstep rfl ?_
                                exact ow_load_slice' _ 9 35 rfl bD (0 + q * 6 + 3) hp (some ⟨bc, 0, none⟩) e.chans.length cc (below_cell hS hch) Try.underlying35 ⟨_, rfl, fun vs' h _ => h (fun e => by cases e), hbr, hS⟩
                              | 6, _, rfl =>
                                refine gstep rfl ?_
                                exact ow_move _ rfl (v := .int .i64 (q2 : Int)) (hag 16 rfl) ⟨_, rfl, fun vs' h _ => h (fun e => by cases e), hbr, hS⟩
                              | 7, _, rfl =>
                                have hs : ac.eval (.tmp 139) = .slice (some ⟨bc, 0, none⟩) e.chans.length cc := hdep 5 (by omega) (by kernel_rfl) (fun k _ h => by cases h)
                                have hi : ac.eval (.tmp 140) = .int .i64 (q2 : Int) := hdep 6 (by omega) (by kernel_rfl) (fun k _ h => by cases h)
                                refine gstep rfl ?_
                                exact ow_index _ _ 9 35 rfl bc 0 e.chans.length cc (q2) hs hi hq2l Try.underlying35 tag9 ⟨_, rfl, fun vs' h _ => h (fun e => by cases e), hbr, hS⟩
                              | 8, _, rfl =>
                                have hp : ac.eval (.tmp 141) = .pointer (some ⟨bc, 0 + (q2), none⟩) := hdep 7 (by omega) (by kernel_rfl) (fun k _ h => by cases h)
                                refine gstep rfl ?_
                                exact ow_load_str _ 9 rfl bc (0 + (q2)) hp _ (below_cell hS hcx) Try.underlying9 ⟨_, rfl, fun vs' h _ => h (fun e => by cases e), hbr, hS⟩
                              | 9, _, rfl =>
                                refine gstep rfl ?_
                                exact ow_field fld48_1 _ rfl (N + 1) (0) (hag 5 rfl) ⟨_, rfl, fun vs' h _ => h (fun e => by cases e), hbr, hS⟩
                              | 10, _, rfl =>
                                have hp : ac.eval (.tmp 143) = .pointer (some ⟨(N + 1), 0 + 1, none⟩) := hdep 9 (by omega) (by kernel_rfl) (fun k _ h => by cases h)
                                refine gstep rfl ?_
                                exact ow_load_str _ 9 rfl (N + 1) (0 + 1) hp _ (below_cell hS hg1) Try.underlying9 ⟨_, rfl, fun vs' h _ => h (fun e => by cases e), hbr, hS⟩
                              | 11, _, rfl =>
                                have h1 : ac.eval (.tmp 142) = encStr (at_ e.chans q2) := hdep 8 (by omega) (by kernel_rfl) (fun k _ h => by cases h)
                                have h2 : ac.eval (.tmp 144) = encStr g.2 := hdep 10 (by omega) (by kernel_rfl) (fun k _ h => by cases h)
                                refine gstep rfl ?_
                                exact ow_eql_str _ _ _ rfl _ _ h1 h2 (by rw [HEQ.out]; exact ⟨_, rfl, fun vs' h _ => h (fun e => by cases e), hbr, hS⟩)
                              | 12, _, rfl =>
                                have h1 : ac.eval (.tmp 145) = .bool false := hdep 11 (by omega) (by kernel_rfl) (fun k _ h => by cases h)
                                refine gstep rfl ?_
                                exact ow_move _ rfl h1 ⟨_, rfl, fun vs' h _ => h (fun e => by cases e), hbr, hS⟩
                              | 13, _, rfl =>
                                refine gskip (wanted_no rfl rfl (hdep 12 (by omega) (by kernel_rfl) (fun k _ h => by cases h) : ac.eval (.tmp 146) = .bool false)) ?_
                                exact ⟨_, rfl, fun _ _ _ => trivial, hbr, hS⟩
                              | 14, _, rfl =>
                                refine gskip (wanted_no rfl rfl (hdep 12 (by omega) (by kernel_rfl) (fun k _ h => by cases h) : ac.eval (.tmp 146) = .bool false)) ?_
                                exact ⟨_, rfl, fun _ _ _ => trivial, hbr, hS⟩
                              | 15, _, rfl =>
                                refine gskip (wanted_no rfl rfl (hdep 12 (by omega) (by kernel_rfl) (fun k _ h => by cases h) : ac.eval (.tmp 146) = .bool false)) ?_
                                exact ⟨_, rfl, fun _ _ _ => trivial, hbr, hS⟩
                              | 16, _, rfl =>
                                refine gskip (wanted_no rfl rfl (hdep 12 (by omega) (by kernel_rfl) (fun k _ h => by cases h) : ac.eval (.tmp 146) = .bool false)) ?_
                                exact ⟨_, rfl, fun _ _ _ => trivial, hbr, hS⟩
                              | 17, _, rfl =>
                                refine gskip (wanted_no rfl rfl (hdep 12 (by omega) (by kernel_rfl) (fun k _ h => by cases h) : ac.eval (.tmp 146) = .bool false)) ?_
                                exact ⟨_, rfl, fun _ _ _ => trivial, hbr, hS⟩
                              | 18, _, rfl =>
                                refine gskip (wanted_no rfl rfl (hdep 12 (by omega) (by kernel_rfl) (fun k _ h => by cases h) : ac.eval (.tmp 146) = .bool false)) ?_
                                exact ⟨_, rfl, fun _ _ _ => trivial, hbr, hS⟩
                              | 19, _, rfl =>
                                refine gskip (wanted_no rfl rfl (hdep 12 (by omega) (by kernel_rfl) (fun k _ h => by cases h) : ac.eval (.tmp 146) = .bool false)) ?_
                                exact ⟨_, rfl, fun _ _ _ => trivial, hbr, hS⟩
                              | 20, _, rfl =>
                                refine gskip (wanted_no rfl rfl (hdep 12 (by omega) (by kernel_rfl) (fun k _ h => by cases h) : ac.eval (.tmp 146) = .bool false)) ?_
                                exact ⟨_, rfl, fun _ _ _ => trivial, hbr, hS⟩
                              | 21, _, rfl =>
                                refine gskip (wanted_no rfl rfl (hdep 12 (by omega) (by kernel_rfl) (fun k _ h => by cases h) : ac.eval (.tmp 146) = .bool false)) ?_
                                exact ⟨_, rfl, fun _ _ _ => trivial, hbr, hS⟩
                              | 22, _, rfl =>
                                refine gskip (wanted_no rfl rfl (hdep 12 (by omega) (by kernel_rfl) (fun k _ h => by cases h) : ac.eval (.tmp 146) = .bool false)) ?_
                                exact ⟨_, rfl, fun _ _ _ => trivial, hbr, hS⟩
                              | 23, _, rfl =>
                                refine gskip (wanted_no rfl rfl (hdep 12 (by omega) (by kernel_rfl) (fun k _ h => by cases h) : ac.eval (.tmp 146) = .bool false)) ?_
                                exact ⟨_, rfl, fun _ _ _ => trivial, hbr, hS⟩
                              | 24, _, rfl =>
                                have h1 : ac.eval (.tmp 146) = .bool false := hdep 12 (by omega) (by kernel_rfl) (fun k _ h => by cases h)
                                refine gstep rfl ?_
                                exact ow_pick _ _ _ rfl false h1 rfl ⟨_, rfl, fun vs' h _ => h (fun e => by cases e), hbr, hS⟩
                              | n + 25, hi, _ => exact absurd hi (by omega)
                            case finx =>
                              intro vs W hS hF
                              have e24 : vs 24 = .bool false := hF 24 (by omega) (fun _ _ => rfl)
                              clear hF
                              change wpList _ _ _ _ (Act.put (Act.put (Act.put (Act.put (Act.put (Act.put (Act.put (Act.put (Act.put (Act.put (Act.put (Act.put (Act.put (Act.put (Act.put (Act.put (Act.put (Act.put (Act.put (Act.put (Act.put (Act.put (Act.put (Act.put (Act.put _ (some 134) (vs 0)) (some 135) (vs 1)) (some 136) (vs 2)) (some 137) (vs 3)) (some 138) (vs 4)) (some 139) (vs 5)) (some 140) (vs 6)) (some 141) (vs 7)) (some 142) (vs 8)) (some 143) (vs 9)) (some 144) (vs 10)) (some 145) (vs 11)) (some 146) (vs 12)) (some 147) (vs 13)) (some 148) (vs 14)) (some 149) (vs 15)) (some 150) (vs 16)) (some 151) (vs 17)) (some 152) (vs 18)) (some 153) (vs 19)) (some 154) (vs 20)) (some 155) (vs 21)) (some 156) (vs 22)) (some 157) (vs 23)) (some 158) (vs 24)) W
                              rw [e24]
                              clear e24
                              generalize vs 0 = z0
                              generalize vs 1 = z1
                              generalize vs 2 = z2
                              generalize vs 3 = z3
                              generalize vs 4 = z4
                              generalize vs 5 = z5
                              generalize vs 6 = z6
                              generalize vs 7 = z7
                              generalize vs 8 = z8
                              generalize vs 9 = z9
                              generalize vs 10 = z10
                              generalize vs 11 = z11
                              generalize vs 12 = z12
                              generalize vs 13 = z13
                              generalize vs 14 = z14
                              generalize vs 15 = z15
                              generalize vs 16 = z16
                              generalize vs 17 = z17
                              generalize vs 18 = z18
                              generalize vs 19 = z19
                              generalize vs 20 = z20
                              generalize vs 21 = z21
                              generalize vs 22 = z22
                              generalize vs 23 = z23
                              simp only [putAll, List.drop_succ_cons, List.drop_zero, Act.put, List.setIfInBounds_toArray, List.set_cons_zero, List.set_cons_succ]
                              clear vs
                              have HB3 := Lib.hid (HB2.out.trans (hS.mono HB2.out.size))
                              clear hS hr1 hch hcx hex hg0 hg1
                              go_wp2_with fail
                              go_roundw
                              case rel => exact ⟨q2 + 1, rfl, by omega, HB3.out⟩
                              case measure => simp [intOf]; omega
          · have hd : decide ((q : Int) < (l1.length : Int)) = true := by simp; omega
            have hd' : decide (q < l1.length) = true := by simp; omega
            obtain ⟨bw, ow, rfl, hcw⟩ := HWR.out.resolve_left (by omega)
            have hcq : wr.cell? ⟨bw, ow + q, none⟩ = some (encStr (at_ l1 q)) := below_cell HBL.out (hcw q hql)
            have HSQ := Lib.hid (HSEE.out q hql)
            clear hcw
            go_upto_region 10 with fail
            refine region_f 8 (fun i vs W => match i with
                | 0 => vs 0 = .agg (stV sq (.slice (some ⟨bD, 0, none⟩) docs.length c') (.slice LA' ln lc') (.slice SA' sn sc'))
                | 1 => vs 1 = encStr u
                | 2 => vs 2 = .slice (some ⟨bw, ow, none⟩) l1.length wc
                | 3 => vs 3 = .int .i64 (q : Int)
                | 4 => vs 4 = .pointer (some ⟨bw, ow + (q), none⟩)
                | 5 => vs 5 = encStr (at_ l1 q)
                | 6 => vs 6 = .bool true
                | 7 => vs 7 = .bool false
                | _ => True) (fun _ W W' => Below W.heap.size W W') (fun W => Below wr.heap.size wr W) (by kernel_rfl) (by kernel_rfl) ?hsts ?h0s ?steps ?fins
            case hsts =>
              intro i k vs W W' _ _ h hG
              match i, h with
              | 0, h => exact h
              | 1, h => exact h
              | 2, h => exact h
              | 3, h => exact h
              | 4, h => exact h
              | 5, h => exact h
              | 6, h => exact h
              | 7, h => exact h
              | n + 8, _ => trivial
            case h0s => exact (Below.refl _ _).drew
            case steps =>
              intro i op hi ho ac W hS hag hdep
              have hbr : Below W.heap.size W W := Below.refl _ _
              match i, hi, ho with
              | 0, _, rfl =>
                exact ow_load_row 27 _ rfl N9 (hag 9 rfl) 27 _ (0, 0) _ (blk_below HTT7.out.row (HBL.out.trans (hS.mono HBL.out.size))) Try.underlying27 rfl (by kernel_rfl) ⟨_, rfl, fun vs' h _ => h (fun e => by cases e), hbr, hS⟩
              | 1, _, rfl =>
                exact ow_move _ rfl (v := encStr u) (hag 3 rfl) ⟨_, rfl, fun vs' h _ => h (fun e => by cases e), hbr, hS⟩
              | 2, _, rfl =>
                exact ow_move _ rfl (v := .slice (some ⟨bw, ow, none⟩) l1.length wc) (hag 11 rfl) ⟨_, rfl, fun vs' h _ => h (fun e => by cases e), hbr, hS⟩
              | 3, _, rfl =>
                exact ow_move _ rfl (v := .int .i64 (q : Int)) (hag 13 rfl) ⟨_, rfl, fun vs' h _ => h (fun e => by cases e), hbr, hS⟩
              | 4, _, rfl =>
                have hs : ac.eval (.tmp 79) = .slice (some ⟨bw, ow, none⟩) l1.length wc := hdep 2 (by omega) (by kernel_rfl)
                have hi : ac.eval (.tmp 80) = .int .i64 (q : Int) := hdep 3 (by omega) (by kernel_rfl)
                exact ow_index _ _ 9 35 rfl bw ow l1.length wc (q) hs hi hql Try.underlying35 tag9 ⟨_, rfl, fun vs' h _ => h (fun e => by cases e), hbr, hS⟩
              | 5, _, rfl =>
                have hp : ac.eval (.tmp 81) = .pointer (some ⟨bw, ow + (q), none⟩) := hdep 4 (by omega) (by kernel_rfl)
                exact ow_load_str _ 9 rfl bw (ow + (q)) hp _ (below_cell hS hcq) Try.underlying9 ⟨_, rfl, fun vs' h _ => h (fun e => by cases e), hbr, hS⟩
              | 6, _, rfl =>
                have h1 : ac.eval (.tmp 77) = .agg (stV sq (.slice (some ⟨bD, 0, none⟩) docs.length c') (.slice LA' ln lc') (.slice SA' sn sc')) := hdep 0 (by omega) (by kernel_rfl)
                have h2 : ac.eval (.tmp 78) = encStr u := hdep 1 (by omega) (by kernel_rfl)
                have h3 : ac.eval (.tmp 82) = encStr (at_ l1 q) := hdep 5 (by omega) (by kernel_rfl)
                refine ow_call Try.func12 (by kernel_rfl) rfl _ _ rfl (vs := #[.agg (stV sq (.slice (some ⟨bD, 0, none⟩) docs.length c') (.slice LA' ln lc') (.slice SA' sn sc')), encStr u, encStr (at_ l1 q)]) (by simp only [List.map_toArray, List.map_cons, List.map_nil, h1, h2, h3]) ?_
                refine ((HTT7.out.below (HBL.out.trans (hS.mono HBL.out.size))).sees u (at_ l1 q)).mono ?_
                rw [HSQ.out]
                rintro e' w' ⟨rfl, hbb⟩
                exact ⟨_, rfl, ⟨_, rfl, fun vs' h _ => h (fun e => by cases e), hbb, hS.trans (hbb.mono hS.size)⟩⟩
              | 7, _, rfl =>
                have h1 : ac.eval (.tmp 83) = .bool true := hdep 6 (by omega) (by kernel_rfl)
                exact ow_not _ 4 rfl true h1 ⟨_, rfl, fun vs' h _ => h (fun e => by cases e), hbr, hS⟩
              | n + 8, hi, _ => exact absurd hi (by omega)
            case fins =>
              intro vs W hS hF
              have e7 : vs 7 = .bool false := hF 7 (by omega)
              clear hF
              change wpList _ _ _ _ (Act.put (Act.put (Act.put (Act.put (Act.put (Act.put (Act.put (Act.put _ (some 77) (vs 0)) (some 78) (vs 1)) (some 79) (vs 2)) (some 80) (vs 3)) (some 81) (vs 4)) (some 82) (vs 5)) (some 83) (vs 6)) (some 84) (vs 7)) W
              rw [e7]
              clear e7
              generalize vs 0 = z0
              generalize vs 1 = z1
              generalize vs 2 = z2
              generalize vs 3 = z3
              generalize vs 4 = z4
              generalize vs 5 = z5
              generalize vs 6 = z6
              simp only [putAll, List.drop_succ_cons, List.drop_zero, Act.put, List.setIfInBounds_toArray, List.set_cons_zero, List.set_cons_succ]
              clear vs
              have HBL2 := Lib.hid (HBL.out.trans (hS.mono HBL.out.size))
              clear hS hcq HBL
              go_wp2_with fail
              go_roundw
              case rel => exact ⟨q + 1, rfl, by omega, HBL2.out⟩
              case measure => simp [intOf]; omega
end Go.Proofs.Ytncjgfhipflokaa
