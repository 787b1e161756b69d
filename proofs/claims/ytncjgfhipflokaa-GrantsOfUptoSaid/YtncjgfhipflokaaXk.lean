/-
  GrantsOf: the walk.
-/
import Derived.Test.YtncjgfhipflokaaXe
import Derived.Test.YtncjgfhipflokaaXj
namespace Go.Proofs.Ytncjgfhipflokaa
open Go.RowKit Go.Shelf Hp Go.Maps

set_option maxHeartbeats 8000000 in
set_option maxRecDepth 8000 in
theorem GrantsOf_any (docs : List Doc) (sq : Int) (dv lv sv : Value) (m n ln sn : Nat) (u id : S) (w : World) (hds : DS TreeT w.heap.size w dv docs) (hlv : LocT w lv) (hsv : SeenT w sv)
    (hd0 : One w (fun b => b < w.heap.size) 6 dv n (DF w (fun b => b < w.heap.size) m)) (hl0 : One w (fun b => b < w.heap.size) 2 lv ln LocC) (hs0 : One w (fun b => b < w.heap.size) 22 sv sn SeenC) :
    Calls Try.prog 3 #[.agg (stV sq dv lv sv), encStr u, encStr id] w fun e w' => e = .returned (.bool true) ∧ Below w.heap.size w w' := by
  obtain ⟨N, hN⟩ : ∃ N, N = w.heap.size := ⟨_, rfl⟩
  have hds0 := hds
  obtain ⟨DA, dc, rfl, hdc1, hdc2, hel⟩ := hds0
  have hnn : n ≤ 1048576 := by obtain ⟨_, _, _, h, _⟩ := hd0; exact h
  obtain rfl : n = docs.length := by
    obtain ⟨A, c, e, _⟩ := hd0
    injection e with _ e _
    exact e.symm
  have hdl1 : docs.length ≤ 9223372036854775807 := by unfold maxLen at hdc2; omega
  obtain ⟨W0, hW0⟩ : ∃ W0, W0 = w.alloc (.cells (stV sq (.slice DA docs.length dc) lv sv) 27) := ⟨_, rfl⟩
  have hrow : W0.heap[N]? = some (.cells (stV sq (.slice DA docs.length dc) lv sv) 27 (0, 0)) := by rw [hW0, hN]; exact World.alloc_heap_new w _
  have hbel : Below w.heap.size w W0 := by rw [hW0]; exact (Below.refl _ w).alloc (Nat.le_refl _) _
  have hlong := long_any w.heap.size docs sq (.slice DA docs.length dc) lv sv W0 (hds.low1 (fun v h => TreeT.below hbel h) (Low.of_all hbel)) (hlv.below hbel) (hsv.below hbel)
  have hst : Small docs → Stt w.heap.size N docs sq (.slice DA docs.length dc) lv sv W0 := fun h => ⟨hds.any.low trueT (Low.of_all hbel), hrow, hbel.size, h.fit⟩
  have hr0 : W0.cell? ⟨N, 0, none⟩ = some (.int .u64 sq) := cell_of_row W0 N 0 _ _ _ hrow
  have hr1 : W0.cell? ⟨N, 1, none⟩ = some (.slice DA docs.length dc) := cell_of_row W0 N 1 _ _ _ hrow
  have hr2 : W0.cell? ⟨N, 2, none⟩ = some lv := cell_of_row W0 N 2 _ _ _ hrow
  have hr3 : W0.cell? ⟨N, 3, none⟩ = some sv := cell_of_row W0 N 3 _ _ _ hrow
  have HDS := Lib.hid hds
  have HEL := Lib.hid hel
  have HD0 := Lib.hid hd0
  have HL0 := Lib.hid hl0
  have HS0 := Lib.hid hs0
  have HLONG := Lib.hid hlong
  have HST := Lib.hid hst
  have HBEL := Lib.hid hbel
  have HN := Lib.hid hN
  clear hrow hbel hlong hst hds hlv hsv hd0 hl0 hs0 hdc1 hdc2 hel
  go_enter Try.func3, Try.ntmps3
  go_upto_region 1 with fail
  rw [← HN.out, ← hW0]
  clear hN hW0
  go_wp2_with fail
  refine HLONG.out.mono ?_
  rintro e w1 ⟨⟨bb, rfl, hb⟩, hb1⟩
  have HB := Lib.hid hb
  have HB1 := Lib.hid (HBEL.out.trans (hb1.mono HBEL.out.size))
  have HL1 := Lib.hid hb1
  clear hb hb1 hr0 hr1 hr2 hr3 HLONG
  cases bb with
  | true =>
    go_wp2_with fail
    refine (awakeL HB1.out).mono ?_
    rintro e w7 ⟨rfl, hb7⟩
    go_wp2_with fail
    go_ret
    exact ⟨rfl, hb7⟩
  | false =>
    have hst1 := (HST.out (HB.out (by trivial))).below HL1.out
    have HSM := Lib.hid (HB.out (by trivial))
    have HST1 := Lib.hid hst1
    clear hst1 HST HB
    by_cases c2 : 300 < u.length
    · have hd2 : decide ((300 : Int) < (u.length : Int)) = true := by simp; omega
      go_wp2_with fail
      refine (awakeL HB1.out).mono ?_
      rintro e w7 ⟨rfl, hb7⟩
      go_wp2_with fail
      go_ret
      exact ⟨rfl, hb7⟩
    have hd2 : decide ((300 : Int) < (u.length : Int)) = false := by simp; omega
    by_cases c3 : 300 < id.length
    · have hd3 : decide ((300 : Int) < (id.length : Int)) = true := by simp; omega
      go_wp2_with fail
      refine (awakeL HB1.out).mono ?_
      rintro e w7 ⟨rfl, hb7⟩
      go_wp2_with fail
      go_ret
      exact ⟨rfl, hb7⟩
    have hd3 : decide ((300 : Int) < (id.length : Int)) = false := by simp; omega
    obtain ⟨hr0, hr1, hr2, hr3⟩ := HST1.out.c
    have hcs := copyS_any w.heap.size m docs.length ln sn sq (.slice DA docs.length dc) lv sv w1 HB1.out.size
      (HD0.out.keep (by omega) (Keep.of_below HB1.out) (fun b hb _ => hb) (fun es h => h.keep (Keep.of_below HB1.out) (fun b hb _ => hb)))
      ((HL0.out.weak fun es h => h.one).keep (by omega) (Keep.of_below HB1.out) (fun b hb _ => hb) (fun _ h => h)) ((HS0.out.weak fun es h => h.one).keep (by omega) (Keep.of_below HB1.out) (fun b hb _ => hb) (fun _ h => h))
    have HCS := Lib.hid hcs
    clear hcs
    go_wp2_with (refine wpList_load_row rfl 27 _ rfl N rfl 27 _ (0, 0) _ HST1.out.row Try.underlying27 rfl (by kernel_rfl) ?_)
    refine HCS.out.mono ?_
    rintro e w2 ⟨X, b, o, rows, dv', lv', sv', rfl, hX, hcp, hdx, hsrc, htl, hts, hb2⟩
    have hb02 := HB1.out.trans (hb2.mono HB1.out.size)
    have hown : ∀ (k : Nat) (r : List Value) (d : Doc), rows[k]? = some r → docs[k]? = some d → DOwn w2 d r := by
      rcases hsrc with h0 | ⟨c, hsrc⟩
      · intro k r d _ h2
        have := (List.getElem?_eq_some_iff.1 h2).1
        omega
      · have hd := HDS.out
        rw [hsrc] at hd
        exact copied hcp hd (fun k o _ h0 => blk_below h0 hb02)
    have hfd : ∀ d ∈ docs, d.chans.length ≤ 1048576 ∧ d.grants.length ≤ 1048576 := fun d hd => ⟨by have := (HSM.out.2 d hd).1; omega, by have := (HSM.out.2 d hd).2; omega⟩
    have htd : Two w2 (fun b => b < w.heap.size ∨ w1.heap.size ≤ b) 6 (.slice DA docs.length dc) dv' docs.length (fun es es' => DE m w2 (fun b => b < w.heap.size ∨ w1.heap.size ≤ b) es es' ∧ docS w.heap.size w2 es) := by
      have hone : One w2 (fun b => b < w.heap.size) 6 (.slice DA docs.length dc) docs.length (docS w.heap.size w2) :=
        (HEL.out.one hnn (fun k cs ⟨d, hd, hr⟩ => hr.docS (hfd d (List.mem_of_getElem? hd)).1 (hfd d (List.mem_of_getElem? hd)).2)).keep (by omega) (Keep.of_below hb02) (fun _ h _ => h) (fun es h => h.keep (Keep.of_below hb02))
      rcases hsrc with h0 | ⟨c, hsrc⟩
      · obtain ⟨A', c', e⟩ := own_shape hcp.1
        exact ⟨DA, dc, A', c', rfl, e, hnn, .inl h0⟩
      · rw [hsrc] at hone ⊢
        have h2 := Cp.two (ok := fun b => b < w.heap.size ∨ w1.heap.size ≤ b) (c := c) (DE.lk m) ⟨rows, hcp⟩ (by omega) hnn (fun k hk _ => hk.imp _root_.id (fun h => by omega))
        exact h2.and hone
    have htl2 := htl.and (HL0.out.keep (by omega) (Keep.of_below hb02) (fun _ h _ => h) (fun _ h => h))
    have hts2 := hts.and (HS0.out.keep (by omega) (Keep.of_below hb02) (fun _ h _ => h) (fun _ h => h))
    obtain ⟨LA', lc', rfl⟩ := htl.one2
    obtain ⟨SA', sc', rfl⟩ := hts.one2
    obtain ⟨A', c', rfl⟩ := own_shape hcp.1
    have HOWN := Lib.hid hown
    have HCP := Lib.hid hcp
    have HTD := Lib.hid htd
    have HTL := Lib.hid htl2
    have HTSN := Lib.hid hts2
    have hXN : N < X := by have := blk_lt HST1.out.row; omega
    have HB2 := Lib.hid hb02
    have HST2 := Lib.hid (HST1.out.below hb2)
    obtain ⟨N9, hN9⟩ : ∃ N9, N9 = w2.heap.size := ⟨_, rfl⟩
    have HN9 := Lib.hid hN9
    clear hown hcp hdx hX hb2 hb02 hN9 htl hts htd htl2 hts2 hsrc hfd HST1 HCS hr0 hr1 hr2 hr3 hd2 hd3 HD0 HL0 HS0 HDS HEL HL1 HBEL hnn
    go_upto_region 4 with (first
      | (refine wpList_alloc_row rfl 27 rfl _ (zero27 _) ?_; rw [← HN9.out]; intro w3 hT hS hG; have HT3 := Lib.hid hT; have HG3 := Lib.hid (below_of_grown hG); clear hT hS hG)
      | (refine wpList_store_row rfl 27 _ _ rfl N9 rfl 27 _ _ rfl HT3.out rfl (by kernel_rfl) (stV_one rfl rfl rfl) ?_; intro w4 hT hS hG; have HT4 := Lib.hid hT; have HG4 := Lib.hid hG; clear hT hS hG))
    simp only [Act.put]
    have hk24 : ∀ (k : Nat) (o : Obj), w2.heap[k]? = some o → w4.heap[k]? = some o := fun k o h0 => blk_grown (blk_below h0 HG3.out) HG4.out (fun e => by injection e with e; have := blk_lt h0; have := HN9.out; omega)
    have HB4 := Lib.hid ((HB2.out.trans (HG3.out.mono HB2.out.size)).grown HG4.out (by have := HB2.out.size; have := HG3.out.size; omega) (fun k e => by injection e with e; have := HN9.out; have := HB2.out.size; omega))
    have hts4 : TS X N9 docs.length sq (.slice A' docs.length c') (.slice LA' ln lc') (.slice SA' sn sc') rows docs w4 :=
      ⟨HT4.out, ownm_keep2 HCP.out.1 (fun g o _ _ h0 => hk24 g o h0), HCP.out.2.1, rfl, fun k r d h1 h2 => (HOWN.out k r d h1 h2).all hk24⟩
    have HTT := Lib.hid (hts4.stt HSM.out.fit)
    have HSS := Lib.hid (HST2.out.keep (by have := HN.out; omega) (fun k o _ h0 => hk24 k o h0) (by have := HG3.out.size; have := HG4.out.size; omega))
    have hkk : Keep (fun b => b < w.heap.size ∨ w1.heap.size ≤ b) w2 w4 := fun k o _ h0 => hk24 k o h0
    have HTD4 := Lib.hid (HTD.out.keep (by omega) hkk (fun _ h _ => h) (fun es es' h => (⟨DE.lk m _ _ _ _ _ _ h.1 hkk (fun _ h _ => h), h.2.keep (fun k o _ h0 => hk24 k o h0)⟩ : DE m w4 (fun b => b < w.heap.size ∨ w1.heap.size ≤ b) es es' ∧ docS w.heap.size w4 es)))
    have HTL4 := Lib.hid (HTL.out.keep (by omega) hkk (fun _ h _ => h) (fun _ _ h => h))
    have HTS4 := Lib.hid (HTSN.out.keep (by omega) hkk (fun _ h _ => h) (fun _ _ h => h))
    obtain ⟨c, hc⟩ : ∃ c, c = (byOf docs u id).getD [] := ⟨_, rfl⟩
    obtain ⟨bo, hbo⟩ : ∃ b, b = (byOf docs u id).isSome := ⟨_, rfl⟩
    have hby := HSS.out.by u id
    rw [← hc, ← hbo] at hby
    have HBY := Lib.hid hby
    have HC := Lib.hid hc
    have HBO := Lib.hid hbo
    have HFIT := Lib.hid HSM.out.fit
    clear hk24 hkk HG3 HG4 HT3 HT4 HST2 HB2 HOWN HCP HTD HTL HTSN hts4 hby hc hbo HSM
    go_wp2_with (refine wpList_load_row rfl 27 _ rfl N rfl 27 _ (0, 0) _ HSS.out.row Try.underlying27 rfl (by kernel_rfl) ?_)
    refine HBY.out.mono ?_
    rintro e w5 ⟨rfl, hb5⟩
    have HSS5 := Lib.hid (HSS.out.below hb5)
    have HTT5 := Lib.hid (HTT.out.below hb5)
    have HB5 := Lib.hid (HB4.out.trans (hb5.mono HB4.out.size))
    have HK5 := Lib.hid hb5
    have hbr := refBy_any docs sq _ (.slice LA' ln lc') (.slice SA' sn sc') w5 u id _ HTT5.out.ds HFIT.out.1
    rw [← HC.out, ← HBO.out] at hbr
    have HBR := Lib.hid hbr
    clear hb5 hbr HSS HTT HB4 HBY
    go_wp2_with (refine wpList_load_row rfl 27 _ rfl N9 rfl 27 _ (0, 0) _ HTT5.out.row Try.underlying27 rfl (by kernel_rfl) ?_)
    refine HBR.out.mono ?_
    rintro e w6 ⟨rfl, hb6⟩
    have HSS6 := Lib.hid (HSS5.out.below hb6)
    have HTT6 := Lib.hid (HTT5.out.below hb6)
    have HB6 := Lib.hid (HB5.out.trans (hb6.mono HB5.out.size))
    have HK6 := Lib.hid (HK5.out.trans (hb6.mono HK5.out.size))
    have hsee := HSS6.out.sees u id
    rw [← HBO.out] at hsee
    have HSEE := Lib.hid hsee
    have hcc : (c == c) = true := by simp
    have hbb : (bo == bo) = true := by simp
    clear hb6 hsee HSS5 HTT5 HB5 HK5 HBR
    go_wp2_with (refine wpList_want rfl (ow_load_row 27 _ rfl N rfl 27 _ (0, 0) _ HSS6.out.row Try.underlying27 rfl (by kernel_rfl) ?_))
    refine HSEE.out.mono ?_
    rintro e w7 ⟨rfl, hb7⟩
    have HSS := Lib.hid (HSS6.out.below hb7)
    have HTT := Lib.hid (HTT6.out.below hb7)
    have HB7 := Lib.hid (HB6.out.trans (hb7.mono HB6.out.size))
    have hk7 := HK6.out.trans (hb7.mono HK6.out.size)
    have HTD7 := Lib.hid (HTD4.out.keep (by omega) (Keep.of_below hk7) (fun _ h _ => h) (fun es es' h => (⟨DE.lk m _ _ _ _ _ _ h.1 (Keep.of_below hk7) (fun _ h _ => h), h.2.keep (Keep.of_below hk7)⟩ : DE m w7 (fun b => b < w.heap.size ∨ w1.heap.size ≤ b) es es' ∧ docS w.heap.size w7 es)))
    have HTL7 := Lib.hid (HTL4.out.keep (by omega) (Keep.of_below hk7) (fun _ h _ => h) (fun _ _ h => h))
    have HTS7 := Lib.hid (HTS4.out.keep (by omega) (Keep.of_below hk7) (fun _ h _ => h) (fun _ _ h => h))
    clear hb7 hk7 HSS6 HTT6 HB6 HK6 HSEE HTD4 HTL4 HTS4 HC HBO
    go_upto_region 8 with fail
    clear hcc hbb
    refine region_g 32 (fun _ _ => false) (fun i vs W => match i with
        | 0 => vs 0 = .agg (stV sq (.slice DA docs.length dc) lv sv)
        | 1 => vs 1 = encStr u
        | 2 => ∃ l, RT W (vs 2) l ∧ Keys l (chansOf docs u)
        | 3 => vs 3 = .agg (stV sq (.slice A' docs.length c') (.slice LA' ln lc') (.slice SA' sn sc'))
        | 4 => vs 4 = encStr u
        | 5 => ∃ l, RT W (vs 5) l ∧ Keys l (chansOf docs u)
        | 6 => vs 6 = .bool true
        | 7 => vs 7 = .bool true
        | 8 => vs 8 = .agg (stV sq (.slice DA docs.length dc) lv sv)
        | 9 => ∃ l, RT W (vs 9) l ∧ Keys l ((pairs docs).map Prod.fst)
        | 10 => vs 10 = .agg (stV sq (.slice A' docs.length c') (.slice LA' ln lc') (.slice SA' sn sc'))
        | 11 => ∃ l, RT W (vs 11) l ∧ Keys l ((pairs docs).map Prod.fst)
        | 12 => vs 12 = .bool true
        | 13 => vs 13 = .bool true
        | 14 => vs 14 = .bool true
        | 15 => vs 15 = .agg (stV sq (.slice DA docs.length dc) lv sv)
        | 16 => vs 16 = encStr u
        | 17 => ∃ l, RT W (vs 17) l ∧ Keys l (seenOf docs u)
        | 18 => vs 18 = .agg (stV sq (.slice A' docs.length c') (.slice LA' ln lc') (.slice SA' sn sc'))
        | 19 => vs 19 = encStr u
        | 20 => ∃ l, RT W (vs 20) l ∧ Keys l (seenOf docs u)
        | 21 => vs 21 = .bool true
        | 22 => vs 22 = .bool true
        | 23 => vs 23 = .bool true
        | 24 => vs 24 = .agg (stV sq (.slice DA docs.length dc) lv sv)
        | 25 => vs 25 = .agg (stV sq (.slice A' docs.length c') (.slice LA' ln lc') (.slice SA' sn sc'))
        | 26 => vs 26 = .bool true
        | 27 => vs 27 = .bool true
        | 28 => vs 28 = .bool true
        | 29 => vs 29 = .bool true
        | 30 => vs 30 = .bool true
        | 31 => vs 31 = .bool true
        | _ => True) (fun _ W W' => Below W.heap.size W W') (fun W => Below w7.heap.size w7 W) (by kernel_rfl) (by kernel_rfl) ?hsta ?h0a ?stepa ?fina
    case hsta =>
      intro i k vs W W' _ _ _ h hG
      match i, h with
      | 0, h => exact h
      | 1, h => exact h
      | 2, ⟨l, e1, e2⟩ => exact ⟨l, e1.below hG, e2⟩
      | 3, h => exact h
      | 4, h => exact h
      | 5, ⟨l, e1, e2⟩ => exact ⟨l, e1.below hG, e2⟩
      | 6, h => exact h
      | 7, h => exact h
      | 8, h => exact h
      | 9, ⟨l, e1, e2⟩ => exact ⟨l, e1.below hG, e2⟩
      | 10, h => exact h
      | 11, ⟨l, e1, e2⟩ => exact ⟨l, e1.below hG, e2⟩
      | 12, h => exact h
      | 13, h => exact h
      | 14, h => exact h
      | 15, h => exact h
      | 16, h => exact h
      | 17, ⟨l, e1, e2⟩ => exact ⟨l, e1.below hG, e2⟩
      | 18, h => exact h
      | 19, h => exact h
      | 20, ⟨l, e1, e2⟩ => exact ⟨l, e1.below hG, e2⟩
      | 21, h => exact h
      | 22, h => exact h
      | 23, h => exact h
      | 24, h => exact h
      | 25, h => exact h
      | 26, h => exact h
      | 27, h => exact h
      | 28, h => exact h
      | 29, h => exact h
      | 30, h => exact h
      | 31, h => exact h
      | n + 32, _ => trivial
    case h0a => exact (Below.refl _ _).drew
    case stepa =>
      intro i op hi ho ac W hS hag hdep
      have hbr : Below W.heap.size W W := Below.refl _ _
      match i, hi, ho with
      | 0, _, rfl =>
        refine gstep rfl ?_
        exact ow_load_row 27 _ rfl N (hag 3 rfl) 27 _ (0, 0) _ (blk_below HSS.out.row hS) Try.underlying27 rfl (by kernel_rfl) ⟨_, rfl, fun vs' h _ => h (fun e => by cases e), hbr, hS⟩
      | 1, _, rfl =>
        refine gstep rfl ?_
        exact ow_move _ rfl (v := encStr u) (hag 1 rfl) ⟨_, rfl, fun vs' h _ => h (fun e => by cases e), hbr, hS⟩
      | 2, _, rfl =>
        have h1 : ac.eval (.tmp 57) = .agg (stV sq (.slice DA docs.length dc) lv sv) := hdep 0 (by omega) (by kernel_rfl) (fun k _ h => by cases h)
        have h2 : ac.eval (.tmp 58) = encStr u := hdep 1 (by omega) (by kernel_rfl) (fun k _ h => by cases h)
        refine gstep rfl ?_
        refine ow_call Try.func14 (by kernel_rfl) rfl _ _ rfl (vs := #[.agg (stV sq (.slice DA docs.length dc) lv sv), encStr u]) (by simp only [List.map_toArray, List.map_cons, List.map_nil, h1, h2]) ?_
        refine ((HSS.out.below hS).of u).mono ?_
        rintro e w' ⟨v, l', rfl, hr, hk, hbb⟩
        exact ⟨_, rfl, ⟨_, rfl, fun vs' h _ => ⟨l', by rw [h (fun e => by cases e)]; exact hr, hk⟩, hbb, hS.trans (hbb.mono hS.size)⟩⟩
      | 3, _, rfl =>
        refine gstep rfl ?_
        exact ow_load_row 27 _ rfl N9 (hag 7 rfl) 27 _ (0, 0) _ (blk_below HTT.out.row hS) Try.underlying27 rfl (by kernel_rfl) ⟨_, rfl, fun vs' h _ => h (fun e => by cases e), hbr, hS⟩
      | 4, _, rfl =>
        refine gstep rfl ?_
        exact ow_move _ rfl (v := encStr u) (hag 1 rfl) ⟨_, rfl, fun vs' h _ => h (fun e => by cases e), hbr, hS⟩
      | 5, _, rfl =>
        have h1 : ac.eval (.tmp 60) = .agg (stV sq (.slice A' docs.length c') (.slice LA' ln lc') (.slice SA' sn sc')) := hdep 3 (by omega) (by kernel_rfl) (fun k _ h => by cases h)
        have h2 : ac.eval (.tmp 61) = encStr u := hdep 4 (by omega) (by kernel_rfl) (fun k _ h => by cases h)
        refine gstep rfl ?_
        refine ow_call Try.func15 (by kernel_rfl) rfl _ _ rfl (vs := #[.agg (stV sq (.slice A' docs.length c') (.slice LA' ln lc') (.slice SA' sn sc')), encStr u]) (by simp only [List.map_toArray, List.map_cons, List.map_nil, h1, h2]) ?_
        refine (refOf_any docs sq _ _ _ W u _ (HTT.out.below hS).ds HFIT.out.1).mono ?_
        rintro e w' ⟨v, l', rfl, hr, hk, hbb⟩
        exact ⟨_, rfl, ⟨_, rfl, fun vs' h _ => ⟨l', by rw [h (fun e => by cases e)]; exact hr, hk⟩, hbb, hS.trans (hbb.mono hS.size)⟩⟩
      | 6, _, rfl =>
        refine gstep rfl ?_
        obtain ⟨l1, hr1, hk1⟩ : ∃ l, RT W (ac.eval (.tmp 59)) l ∧ Keys l (chansOf docs u) := hdep 2 (by omega) (by kernel_rfl) (fun k _ h => by cases h)
        obtain ⟨l2, hr2, hk2⟩ : ∃ l, RT W (ac.eval (.tmp 62)) l ∧ Keys l (chansOf docs u) := hdep 5 (by omega) (by kernel_rfl) (fun k _ h => by cases h)
        refine ow_call Try.func13 (by kernel_rfl) rfl _ _ rfl (vs := #[ac.eval (.tmp 59), ac.eval (.tmp 62)]) (by simp only [List.map_toArray, List.map_cons, List.map_nil]) ?_
        refine (Same_any _ _ l1 l2 W hr1 hr2).mono ?_
        rw [decide_eq_true (hk1.uniq hk2 (fun _ => Iff.rfl))]
        rintro e w' ⟨rfl, hbb⟩
        exact ⟨_, rfl, ⟨_, rfl, fun vs' h _ => h (fun e => by cases e), hbb, hS.trans (hbb.mono hS.size)⟩⟩
      | 7, _, rfl =>
        have h1 : ac.eval (.tmp 63) = .bool true := hdep 6 (by omega) (by kernel_rfl) (fun k _ h => by cases h)
        refine gstep rfl ?_
        exact ow_move _ rfl h1 ⟨_, rfl, fun vs' h _ => h (fun e => by cases e), hbr, hS⟩
      | 8, _, rfl =>
        refine gstep (wanted_ok rfl rfl (hdep 7 (by omega) (by kernel_rfl) (fun k _ h => by cases h) : ac.eval (.tmp 64) = .bool true)) ?_
        exact ow_load_row 27 _ rfl N (hag 3 rfl) 27 _ (0, 0) _ (blk_below HSS.out.row hS) Try.underlying27 rfl (by kernel_rfl) ⟨_, rfl, fun vs' h _ => h (fun e => by cases e), hbr, hS⟩
      | 9, _, rfl =>
        have h1 : ac.eval (.tmp 65) = .agg (stV sq (.slice DA docs.length dc) lv sv) := hdep 8 (by omega) (by kernel_rfl) (fun k _ h => by cases h)
        refine gstep (wanted_ok rfl rfl (hdep 7 (by omega) (by kernel_rfl) (fun k _ h => by cases h) : ac.eval (.tmp 64) = .bool true)) ?_
        refine ow_call Try.func16 (by kernel_rfl) rfl _ _ rfl (vs := #[.agg (stV sq (.slice DA docs.length dc) lv sv)]) (by simp only [List.map_toArray, List.map_cons, List.map_nil, h1]) ?_
        refine ((HSS.out.below hS).users).mono ?_
        rintro e w' ⟨v, l', rfl, hr, hk, hbb⟩
        exact ⟨_, rfl, ⟨_, rfl, fun vs' h _ => ⟨l', by rw [h (fun e => by cases e)]; exact hr, hk⟩, hbb, hS.trans (hbb.mono hS.size)⟩⟩
      | 10, _, rfl =>
        refine gstep (wanted_ok rfl rfl (hdep 7 (by omega) (by kernel_rfl) (fun k _ h => by cases h) : ac.eval (.tmp 64) = .bool true)) ?_
        exact ow_load_row 27 _ rfl N9 (hag 7 rfl) 27 _ (0, 0) _ (blk_below HTT.out.row hS) Try.underlying27 rfl (by kernel_rfl) ⟨_, rfl, fun vs' h _ => h (fun e => by cases e), hbr, hS⟩
      | 11, _, rfl =>
        have h1 : ac.eval (.tmp 67) = .agg (stV sq (.slice A' docs.length c') (.slice LA' ln lc') (.slice SA' sn sc')) := hdep 10 (by omega) (by kernel_rfl) (fun k _ h => by cases h)
        refine gstep (wanted_ok rfl rfl (hdep 7 (by omega) (by kernel_rfl) (fun k _ h => by cases h) : ac.eval (.tmp 64) = .bool true)) ?_
        refine ow_call Try.func17 (by kernel_rfl) rfl _ _ rfl (vs := #[.agg (stV sq (.slice A' docs.length c') (.slice LA' ln lc') (.slice SA' sn sc'))]) (by simp only [List.map_toArray, List.map_cons, List.map_nil, h1]) ?_
        refine (refUsers_any docs sq _ _ _ W _ (HTT.out.below hS).ds HFIT.out.1).mono ?_
        rintro e w' ⟨v, l', rfl, hr, hk, hbb⟩
        exact ⟨_, rfl, ⟨_, rfl, fun vs' h _ => ⟨l', by rw [h (fun e => by cases e)]; exact hr, hk⟩, hbb, hS.trans (hbb.mono hS.size)⟩⟩
      | 12, _, rfl =>
        refine gstep (wanted_ok rfl rfl (hdep 7 (by omega) (by kernel_rfl) (fun k _ h => by cases h) : ac.eval (.tmp 64) = .bool true)) ?_
        obtain ⟨l1, hr1, hk1⟩ : ∃ l, RT W (ac.eval (.tmp 66)) l ∧ Keys l ((pairs docs).map Prod.fst) := hdep 9 (by omega) (by kernel_rfl) (fun k _ h => by cases h)
        obtain ⟨l2, hr2, hk2⟩ : ∃ l, RT W (ac.eval (.tmp 68)) l ∧ Keys l ((pairs docs).map Prod.fst) := hdep 11 (by omega) (by kernel_rfl) (fun k _ h => by cases h)
        refine ow_call Try.func13 (by kernel_rfl) rfl _ _ rfl (vs := #[ac.eval (.tmp 66), ac.eval (.tmp 68)]) (by simp only [List.map_toArray, List.map_cons, List.map_nil]) ?_
        refine (Same_any _ _ l1 l2 W hr1 hr2).mono ?_
        rw [decide_eq_true (hk1.uniq hk2 (fun _ => Iff.rfl))]
        rintro e w' ⟨rfl, hbb⟩
        exact ⟨_, rfl, ⟨_, rfl, fun vs' h _ => h (fun e => by cases e), hbb, hS.trans (hbb.mono hS.size)⟩⟩
      | 13, _, rfl =>
        have h1 : ac.eval (.tmp 64) = .bool true := hdep 7 (by omega) (by kernel_rfl) (fun k _ h => by cases h)
        have h2 : ac.eval (.tmp 69) = .bool true := hdep 12 (by omega) (by kernel_rfl) (fun k _ h => by cases h)
        refine gstep rfl ?_
        exact ow_pick _ _ _ rfl true h1 (by simpa using h2) ⟨_, rfl, fun vs' h _ => h (fun e => by cases e), hbr, hS⟩
      | 14, _, rfl =>
        have h1 : ac.eval (.tmp 70) = .bool true := hdep 13 (by omega) (by kernel_rfl) (fun k _ h => by cases h)
        refine gstep rfl ?_
        exact ow_move _ rfl h1 ⟨_, rfl, fun vs' h _ => h (fun e => by cases e), hbr, hS⟩
      | 15, _, rfl =>
        refine gstep (wanted_ok rfl rfl (hdep 14 (by omega) (by kernel_rfl) (fun k _ h => by cases h) : ac.eval (.tmp 71) = .bool true)) ?_
        exact ow_load_row 27 _ rfl N (hag 3 rfl) 27 _ (0, 0) _ (blk_below HSS.out.row hS) Try.underlying27 rfl (by kernel_rfl) ⟨_, rfl, fun vs' h _ => h (fun e => by cases e), hbr, hS⟩
      | 16, _, rfl =>
        refine gstep (wanted_ok rfl rfl (hdep 14 (by omega) (by kernel_rfl) (fun k _ h => by cases h) : ac.eval (.tmp 71) = .bool true)) ?_
        exact ow_move _ rfl (v := encStr u) (hag 1 rfl) ⟨_, rfl, fun vs' h _ => h (fun e => by cases e), hbr, hS⟩
      | 17, _, rfl =>
        have h1 : ac.eval (.tmp 72) = .agg (stV sq (.slice DA docs.length dc) lv sv) := hdep 15 (by omega) (by kernel_rfl) (fun k _ h => by cases h)
        have h2 : ac.eval (.tmp 73) = encStr u := hdep 16 (by omega) (by kernel_rfl) (fun k _ h => by cases h)
        refine gstep (wanted_ok rfl rfl (hdep 14 (by omega) (by kernel_rfl) (fun k _ h => by cases h) : ac.eval (.tmp 71) = .bool true)) ?_
        refine ow_call Try.func18 (by kernel_rfl) rfl _ _ rfl (vs := #[.agg (stV sq (.slice DA docs.length dc) lv sv), encStr u]) (by simp only [List.map_toArray, List.map_cons, List.map_nil, h1, h2]) ?_
        refine ((HSS.out.below hS).all u).mono ?_
        rintro e w' ⟨v, l', rfl, hr, hk, hbb⟩
        exact ⟨_, rfl, ⟨_, rfl, fun vs' h _ => ⟨l', by rw [h (fun e => by cases e)]; exact hr, hk⟩, hbb, hS.trans (hbb.mono hS.size)⟩⟩
      | 18, _, rfl =>
        refine gstep (wanted_ok rfl rfl (hdep 14 (by omega) (by kernel_rfl) (fun k _ h => by cases h) : ac.eval (.tmp 71) = .bool true)) ?_
        exact ow_load_row 27 _ rfl N9 (hag 7 rfl) 27 _ (0, 0) _ (blk_below HTT.out.row hS) Try.underlying27 rfl (by kernel_rfl) ⟨_, rfl, fun vs' h _ => h (fun e => by cases e), hbr, hS⟩
      | 19, _, rfl =>
        refine gstep (wanted_ok rfl rfl (hdep 14 (by omega) (by kernel_rfl) (fun k _ h => by cases h) : ac.eval (.tmp 71) = .bool true)) ?_
        exact ow_move _ rfl (v := encStr u) (hag 1 rfl) ⟨_, rfl, fun vs' h _ => h (fun e => by cases e), hbr, hS⟩
      | 20, _, rfl =>
        have h1 : ac.eval (.tmp 75) = .agg (stV sq (.slice A' docs.length c') (.slice LA' ln lc') (.slice SA' sn sc')) := hdep 18 (by omega) (by kernel_rfl) (fun k _ h => by cases h)
        have h2 : ac.eval (.tmp 76) = encStr u := hdep 19 (by omega) (by kernel_rfl) (fun k _ h => by cases h)
        refine gstep (wanted_ok rfl rfl (hdep 14 (by omega) (by kernel_rfl) (fun k _ h => by cases h) : ac.eval (.tmp 71) = .bool true)) ?_
        refine ow_call Try.func19 (by kernel_rfl) rfl _ _ rfl (vs := #[.agg (stV sq (.slice A' docs.length c') (.slice LA' ln lc') (.slice SA' sn sc')), encStr u]) (by simp only [List.map_toArray, List.map_cons, List.map_nil, h1, h2]) ?_
        refine (refAll_any docs sq _ _ _ W u _ (HTT.out.below hS).ds HFIT.out.1 HFIT.out.2.2).mono ?_
        rintro e w' ⟨v, l', rfl, hr, hk, hbb⟩
        exact ⟨_, rfl, ⟨_, rfl, fun vs' h _ => ⟨l', by rw [h (fun e => by cases e)]; exact hr, hk⟩, hbb, hS.trans (hbb.mono hS.size)⟩⟩
      | 21, _, rfl =>
        refine gstep (wanted_ok rfl rfl (hdep 14 (by omega) (by kernel_rfl) (fun k _ h => by cases h) : ac.eval (.tmp 71) = .bool true)) ?_
        obtain ⟨l1, hr1, hk1⟩ : ∃ l, RT W (ac.eval (.tmp 74)) l ∧ Keys l (seenOf docs u) := hdep 17 (by omega) (by kernel_rfl) (fun k _ h => by cases h)
        obtain ⟨l2, hr2, hk2⟩ : ∃ l, RT W (ac.eval (.tmp 77)) l ∧ Keys l (seenOf docs u) := hdep 20 (by omega) (by kernel_rfl) (fun k _ h => by cases h)
        refine ow_call Try.func13 (by kernel_rfl) rfl _ _ rfl (vs := #[ac.eval (.tmp 74), ac.eval (.tmp 77)]) (by simp only [List.map_toArray, List.map_cons, List.map_nil]) ?_
        refine (Same_any _ _ l1 l2 W hr1 hr2).mono ?_
        rw [decide_eq_true (hk1.uniq hk2 (fun _ => Iff.rfl))]
        rintro e w' ⟨rfl, hbb⟩
        exact ⟨_, rfl, ⟨_, rfl, fun vs' h _ => h (fun e => by cases e), hbb, hS.trans (hbb.mono hS.size)⟩⟩
      | 22, _, rfl =>
        have h1 : ac.eval (.tmp 71) = .bool true := hdep 14 (by omega) (by kernel_rfl) (fun k _ h => by cases h)
        have h2 : ac.eval (.tmp 78) = .bool true := hdep 21 (by omega) (by kernel_rfl) (fun k _ h => by cases h)
        refine gstep rfl ?_
        exact ow_pick _ _ _ rfl true h1 (by simpa using h2) ⟨_, rfl, fun vs' h _ => h (fun e => by cases e), hbr, hS⟩
      | 23, _, rfl =>
        have h1 : ac.eval (.tmp 79) = .bool true := hdep 22 (by omega) (by kernel_rfl) (fun k _ h => by cases h)
        refine gstep rfl ?_
        exact ow_move _ rfl h1 ⟨_, rfl, fun vs' h _ => h (fun e => by cases e), hbr, hS⟩
      | 24, _, rfl =>
        refine gstep (wanted_ok rfl rfl (hdep 23 (by omega) (by kernel_rfl) (fun k _ h => by cases h) : ac.eval (.tmp 80) = .bool true)) ?_
        exact ow_load_row 27 _ rfl N (hag 3 rfl) 27 _ (0, 0) _ (blk_below HSS.out.row hS) Try.underlying27 rfl (by kernel_rfl) ⟨_, rfl, fun vs' h _ => h (fun e => by cases e), hbr, hS⟩
      | 25, _, rfl =>
        refine gstep (wanted_ok rfl rfl (hdep 23 (by omega) (by kernel_rfl) (fun k _ h => by cases h) : ac.eval (.tmp 80) = .bool true)) ?_
        exact ow_load_row 27 _ rfl N9 (hag 7 rfl) 27 _ (0, 0) _ (blk_below HTT.out.row hS) Try.underlying27 rfl (by kernel_rfl) ⟨_, rfl, fun vs' h _ => h (fun e => by cases e), hbr, hS⟩
      | 26, _, rfl =>
        have h1 : ac.eval (.tmp 81) = .agg (stV sq (.slice DA docs.length dc) lv sv) := hdep 24 (by omega) (by kernel_rfl) (fun k _ h => by cases h)
        have h2 : ac.eval (.tmp 82) = .agg (stV sq (.slice A' docs.length c') (.slice LA' ln lc') (.slice SA' sn sc')) := hdep 25 (by omega) (by kernel_rfl) (fun k _ h => by cases h)
        refine gstep (wanted_ok rfl rfl (hdep 23 (by omega) (by kernel_rfl) (fun k _ h => by cases h) : ac.eval (.tmp 80) = .bool true)) ?_
        refine ow_call Try.func20 (by kernel_rfl) rfl _ _ rfl (vs := #[.agg (stV sq (.slice DA docs.length dc) lv sv), .agg (stV sq (.slice A' docs.length c') (.slice LA' ln lc') (.slice SA' sn sc'))]) (by simp only [List.map_toArray, List.map_cons, List.map_nil, h1, h2]) ?_
        refine (sameS_any m (fun b => b < w.heap.size ∨ w1.heap.size ≤ b) w.heap.size docs.length ln sn sq _ _ _ _ _ _ W (Nat.le_trans HB7.out.size hS.size)
          (HTD7.out.keep (by omega) (Keep.of_below hS) (fun _ h _ => h) (fun es es' h => ⟨DE.lk m _ _ _ _ _ _ h.1 (Keep.of_below hS) (fun _ h _ => h), h.2.keep (Keep.of_below hS)⟩))
          (HTL7.out.keep (by omega) (Keep.of_below hS) (fun _ h _ => h) (fun _ _ h => h)) (HTS7.out.keep (by omega) (Keep.of_below hS) (fun _ h _ => h) (fun _ _ h => h))).mono ?_
        rintro e w' ⟨rfl, hbb⟩
        exact ⟨_, rfl, ⟨_, rfl, fun vs' h _ => h (fun e => by cases e), hbb, hS.trans (hbb.mono hS.size)⟩⟩
      | 27, _, rfl =>
        have h1 : ac.eval (.tmp 80) = .bool true := hdep 23 (by omega) (by kernel_rfl) (fun k _ h => by cases h)
        have h2 : ac.eval (.tmp 83) = .bool true := hdep 26 (by omega) (by kernel_rfl) (fun k _ h => by cases h)
        refine gstep rfl ?_
        exact ow_pick _ _ _ rfl true h1 (by simpa using h2) ⟨_, rfl, fun vs' h _ => h (fun e => by cases e), hbr, hS⟩
      | 28, _, rfl =>
        have h1 : ac.eval (.tmp 84) = .bool true := hdep 27 (by omega) (by kernel_rfl) (fun k _ h => by cases h)
        refine gstep rfl ?_
        exact ow_move _ rfl h1 ⟨_, rfl, fun vs' h _ => h (fun e => by cases e), hbr, hS⟩
      | 29, _, rfl =>
        refine gstep (wanted_ok rfl rfl (hdep 28 (by omega) (by kernel_rfl) (fun k _ h => by cases h) : ac.eval (.tmp 85) = .bool true)) ?_
        refine ow_call Try.func8 (by kernel_rfl) rfl _ _ rfl (vs := #[]) (by simp) ?_
        refine (awake_any W).mono ?_
        rintro e w' ⟨rfl, hbb⟩
        exact ⟨_, rfl, ⟨_, rfl, fun vs' h _ => h (fun e => by cases e), hbb, hS.trans (hbb.mono hS.size)⟩⟩
      | 30, _, rfl =>
        have h1 : ac.eval (.tmp 85) = .bool true := hdep 28 (by omega) (by kernel_rfl) (fun k _ h => by cases h)
        have h2 : ac.eval (.tmp 86) = .bool true := hdep 29 (by omega) (by kernel_rfl) (fun k _ h => by cases h)
        refine gstep rfl ?_
        exact ow_pick _ _ _ rfl true h1 (by simpa using h2) ⟨_, rfl, fun vs' h _ => h (fun e => by cases e), hbr, hS⟩
      | 31, _, rfl =>
        have h1 : ac.eval (.tmp 87) = .bool true := hdep 30 (by omega) (by kernel_rfl) (fun k _ h => by cases h)
        refine gstep rfl ?_
        exact ow_assign _ rfl h1 ⟨_, rfl, fun vs' h _ => h (fun e => by cases e), hbr, hS⟩
      | n + 32, hi, _ => exact absurd hi (by omega)
    case fina =>
      intro vs W hS hF
      have e31 : vs 31 = .bool true := hF 31 (by omega) (fun _ _ => rfl)
      clear hF
      change wpList _ _ _ _ (Act.put (Act.put (Act.put (Act.put (Act.put (Act.put (Act.put (Act.put (Act.put (Act.put (Act.put (Act.put (Act.put (Act.put (Act.put (Act.put (Act.put (Act.put (Act.put (Act.put (Act.put (Act.put (Act.put (Act.put (Act.put (Act.put (Act.put (Act.put (Act.put (Act.put (Act.put (Act.put _ (some 57) (vs 0)) (some 58) (vs 1)) (some 59) (vs 2)) (some 60) (vs 3)) (some 61) (vs 4)) (some 62) (vs 5)) (some 63) (vs 6)) (some 64) (vs 7)) (some 65) (vs 8)) (some 66) (vs 9)) (some 67) (vs 10)) (some 68) (vs 11)) (some 69) (vs 12)) (some 70) (vs 13)) (some 71) (vs 14)) (some 72) (vs 15)) (some 73) (vs 16)) (some 74) (vs 17)) (some 75) (vs 18)) (some 76) (vs 19)) (some 77) (vs 20)) (some 78) (vs 21)) (some 79) (vs 22)) (some 80) (vs 23)) (some 81) (vs 24)) (some 82) (vs 25)) (some 83) (vs 26)) (some 84) (vs 27)) (some 85) (vs 28)) (some 86) (vs 29)) (some 87) (vs 30)) (some 6) (vs 31)) W
      rw [e31]
      clear e31
      generalize vs 0 = z0
      generalize vs 1 = z1
      generalize vs 2 = z2
      generalize vs 3 = z3
      generalize vs 4 = z4
      generalize vs 5 = z5
      generalize vs 6 = z6
      generalize vs 7 = z7
      generalize vs 8 = z8
      generalize vs 9 = z9
      generalize vs 10 = z10
      generalize vs 11 = z11
      generalize vs 12 = z12
      generalize vs 13 = z13
      generalize vs 14 = z14
      generalize vs 15 = z15
      generalize vs 16 = z16
      generalize vs 17 = z17
      generalize vs 18 = z18
      generalize vs 19 = z19
      generalize vs 20 = z20
      generalize vs 21 = z21
      generalize vs 22 = z22
      generalize vs 23 = z23
      generalize vs 24 = z24
      generalize vs 25 = z25
      generalize vs 26 = z26
      generalize vs 27 = z27
      generalize vs 28 = z28
      generalize vs 29 = z29
      generalize vs 30 = z30
      simp only [putAll, List.drop_succ_cons, List.drop_zero, Act.put, List.setIfInBounds_toArray, List.set_cons_zero, List.set_cons_succ]
      clear vs
      have HB8 := Lib.hid (HB7.out.trans (hS.mono HB7.out.size))
      clear hS
      go_wp2_with fail
      go_ret
      exact ⟨rfl, HB8.out⟩
end Go.Proofs.Ytncjgfhipflokaa
