/-
  DigestWrites' walk.
-/
import Derived.Test.YtnemclbeofiakaaRe
namespace Go.Proofs.Ytnemclbeofiakaa
open Go.RowKit Bl

/-- an owned row of bytes, one of them turned -/
theorem own_set {w : World} {B g n c k : Nat} {ys : List UInt8} (b : UInt8) (h : w.ownsRow B 5 1 (.slice (some ⟨g, 0, none⟩) n c) n (bytesV ys)) (_hk : k < n) : (w.setCell ⟨g, k, none⟩ (.int .u8 (b.toNat : Int))).ownsRow B 5 1 (.slice (some ⟨g, 0, none⟩) n c) n (bytesV (ys.set k b)) := by
  rcases h with ⟨h0, ⟨h1, _⟩ | ⟨g', cap, cur, hv, hb, hg, h1, h2, h3, h4⟩⟩
  · cases h1
  · injection hv with hv1 hv2 hv3
    injection hv1 with hv1
    injection hv1 with e1 e2
    subst e1; subst hv3
    refine ⟨by simpa [bytesV] using h0, .inr ⟨g, c, _, rfl, hb, blk_setCell (i := k) hg (.int .u8 (b.toNat : Int)), h1, h2, by simpa using h3, ?_⟩⟩
    rw [Array.toList_setIfInBounds, List.take_set, h4]
    simp [bytesV, List.map_set]
theorem own_blk {w : World} {B n : Nat} {v : Value} {bs : List UInt8} (h : w.ownsRow B 5 1 v n (bytesV bs)) (hp : 0 < n) : ∃ g c cur, v = .slice (some ⟨g, 0, none⟩) n c ∧ B ≤ g ∧ w.heap[g]? = some (.cells cur 5 (0, 0)) ∧ ∀ k x, k < n → bs[k]? = some x → w.cell? ⟨g, k, none⟩ = some (.int .u8 (x.toNat : Int)) := by
  rcases h.2 with ⟨_, h0⟩ | ⟨g, cap, cur, rfl, hb, hg, h1, h2, h3, h4⟩
  · omega
  · refine ⟨g, cap, cur, rfl, hb, hg, fun k x hk hx => ?_⟩
    rw [cell_of_row w g k _ _ _ hg]
    have h5 : (cur.toList.take (n * 1))[k]? = (bytesV bs)[k]? := by rw [h4]
    rw [List.getElem?_take_of_lt (by omega)] at h5
    rw [← Array.getElem?_toList, h5]
    simp [bytesV, hx]

set_option maxHeartbeats 1000000 in
set_option maxRecDepth 4000 in
theorem DigestWrites_any (h : List Nat) (hh : Wds 8 h) (A : Option Addr) (m c : Nat) (N : Nat) (hN : N < 18446744073709551616) (size : Int) (B : Option Addr) (n d : Nat) (w : World)
    (hs : m ≤ 2000 → ∃ rs, m = rs.length ∧ SB w (.slice A m c) rs) (hb : n ≤ 2000 → ∃ bs, n = bs.length ∧ SB w (.slice B n d) bs) :
    Calls Try.prog 4 #[.agg (dgV h (.slice A m c) N size), .slice B n d] w fun e w' => e = .returned (.bool true) ∧ Below w.heap.size w w' := by
  have HSR := Lib.hid hs
  have HSB := Lib.hid hb
  have HH := Lib.hid hh
  clear hs hb hh
  obtain ⟨g2, hg2⟩ : ∃ g, g = w.heap.size := ⟨_, rfl⟩
  have HG2 := Lib.hid hg2
  have h0 := World.alloc_heap_new w (.cells (dgV h (.slice A m c) N size) 33)
  have hb0 := below_alloc1 w (.cells (dgV h (.slice A m c) N size) 33)
  clear hg2
  go_enter Try.func4, Try.ntmps4
  go_upto_region 1 with fail
  rw [← HG2.out] at h0 ⊢
  obtain ⟨w1, hw1⟩ : ∃ w1, w1 = w.alloc (.cells (dgV h (.slice A m c) N size) 33) := ⟨_, rfl⟩
  rw [← hw1] at h0 hb0 ⊢
  have HR1 := Lib.hid h0
  have HB1 := Lib.hid hb0
  clear h0 hb0 hw1
  have hc8 := (cell_of_row _ _ 8 _ _ _ HR1.out).trans (dgV_sl HH.out.1 (.slice A m c) N size)
  by_cases hlong : 2000 < m
  · have hd : decide ((2000 : Int) < (m : Int)) = true := by simp; omega
    go_wp2_with fail
    refine (awake_any w1).mono ?_
    rintro e w7 ⟨rfl, hb7⟩
    go_wp2_with fail
    go_ret
    exact ⟨rfl, HB1.out.trans (hb7.mono HB1.out.size)⟩
  have hd : decide ((2000 : Int) < (m : Int)) = false := by simp; omega
  by_cases hlong2 : 2000 < n
  · have hd2 : decide ((2000 : Int) < (n : Int)) = true := by simp; omega
    go_wp2_with fail
    refine (awake_any w1).mono ?_
    rintro e w7 ⟨rfl, hb7⟩
    go_wp2_with fail
    go_ret
    exact ⟨rfl, HB1.out.trans (hb7.mono HB1.out.size)⟩
  have hd2 : decide ((2000 : Int) < (n : Int)) = false := by simp; omega
  obtain ⟨rs, rfl, hsr⟩ := HSR.out (by omega)
  obtain ⟨bs, rfl, hsb⟩ := HSB.out (by omega)
  have HS := Lib.hid hsr
  have HV := Lib.hid hsb
  clear hsr hsb HSR HSB
  go_upto_region 3 with fail
  clear hc8
  refine region_f 6 (fun i vs W => match i with
      | 0 => vs 0 = .pointer (some ⟨g2, 8, none⟩)
      | 1 => vs 1 = .slice A rs.length c
      | 2 => vs 2 = .string ⟨rs.toArray⟩
      | 3 => vs 3 = .slice B bs.length d
      | 4 => vs 4 = .string ⟨bs.toArray⟩
      | 5 => vs 5 = .string ⟨rs.toArray⟩
      | _ => True) (fun _ W W' => Below W.heap.size W W') (fun W => Below w1.heap.size w1 W) (by kernel_rfl) (by kernel_rfl) ?hst3 ?h03 ?step3 ?fin3
  case hst3 =>
    intro i k vs W W' _ _ h hG
    match i, h with
    | 0, h => exact h
    | 1, h => exact h
    | 2, h => exact h
    | 3, h => exact h
    | 4, h => exact h
    | 5, h => exact h
    | n + 6, _ => trivial
  case h03 => exact (Below.refl _ _).drew
  case step3 =>
    intro i op hi ho ac W hS hag hdep
    have hbr : Below W.heap.size W W := Below.refl _ _
    match i, hi, ho with
    | 0, _, rfl =>
      exact ow_field33 _ 1 8 rfl (by simp) g2 (hag 2 rfl) ⟨_, rfl, fun vs' h _ => h (fun e => by cases e), hbr, hS⟩
    | 1, _, rfl =>
      have h1 : ac.eval (.tmp 19) = .pointer (some ⟨g2, 8, none⟩) := hdep 0 (by omega) (by kernel_rfl)
      exact ow_load_slice' _ 5 24 rfl g2 8 h1 _ _ _ ((cell_of_row _ _ 8 _ _ _ (blk_below HR1.out hS)).trans (dgV_sl HH.out.1 _ _ _)) Try.underlying24 ⟨_, rfl, fun vs' h _ => h (fun e => by cases e), hbr, hS⟩
    | 2, _, rfl =>
      have h1 : ac.eval (.tmp 20) = .slice A rs.length c := hdep 1 (by omega) (by kernel_rfl)
      exact ow_str _ rfl h1 ((HS.out.below HB1.out).below hS) ⟨_, rfl, fun vs' h _ => h (fun e => by cases e), hbr, hS⟩
    | 3, _, rfl =>
      exact ow_move _ rfl (hag 1 rfl) ⟨_, rfl, fun vs' h _ => h (fun e => by cases e), hbr, hS⟩
    | 4, _, rfl =>
      have h1 : ac.eval (.tmp 22) = .slice B bs.length d := hdep 3 (by omega) (by kernel_rfl)
      exact ow_str _ rfl h1 ((HV.out.below HB1.out).below hS) ⟨_, rfl, fun vs' h _ => h (fun e => by cases e), hbr, hS⟩
    | 5, _, rfl =>
      have h1 : ac.eval (.tmp 21) = .string ⟨rs.toArray⟩ := hdep 2 (by omega) (by kernel_rfl)
      exact ow_assign _ rfl h1 ⟨_, rfl, fun vs' h _ => h (fun e => by cases e), hbr, hS⟩
    | n + 6, hi, _ => exact absurd hi (by omega)
  case fin3 =>
    intro vs W hS hF
    have e0 : vs 0 = .pointer (some ⟨g2, 8, none⟩) := hF 0 (by omega)
    have e1 : vs 1 = .slice A rs.length c := hF 1 (by omega)
    have e2 : vs 2 = .string ⟨rs.toArray⟩ := hF 2 (by omega)
    have e3 : vs 3 = .slice B bs.length d := hF 3 (by omega)
    have e4 : vs 4 = .string ⟨bs.toArray⟩ := hF 4 (by omega)
    have e5 : vs 5 = .string ⟨rs.toArray⟩ := hF 5 (by omega)
    clear hF
    change wpList _ _ _ _ (Act.put (Act.put (Act.put (Act.put (Act.put (Act.put _ (some 19) (vs 0)) (some 20) (vs 1)) (some 21) (vs 2)) (some 22) (vs 3)) (some 23) (vs 4)) (some 5) (vs 5)) W
    rw [e0, e1, e2, e3, e4, e5]
    clear e0 e1 e2 e3 e4 e5
    simp only [putAll, List.drop_succ_cons, List.drop_zero, Act.put, List.setIfInBounds_toArray, List.set_cons_zero, List.set_cons_succ]
    clear vs
    have HR2 := Lib.hid (blk_below HR1.out hS)
    have HB2 := Lib.hid (HB1.out.trans (hS.mono HB1.out.size))
    clear hS HR1 HB1
    go_wp2_with (refine wpList_load_row rfl 33 _ rfl g2 rfl 33 _ (0, 0) _ HR2.out Try.underlying33 rfl (by rw [dgV_size HH.out.1]; kernel_rfl) ?_)
    refine (Write_any h HH.out N hN size _ _ rs bs W (HS.out.below HB2.out) (HV.out.below HB2.out) (by simp; omega)).mono ?_
    rintro e w3 ⟨sl', rfl, hown, hb3⟩
    obtain ⟨st, hst⟩ : ∃ st, st = writeL (rs ++ bs).length h N (rs ++ bs) := ⟨_, rfl⟩
    have hwd := writeL_wds (rs ++ bs).length h N (rs ++ bs) HH.out hN
    rw [← hst] at hown hwd ⊢
    have hrl : st.2.2.length ≤ 4000 := by have := hwd.2.2; simp at this; omega
    have HST := Lib.hid hst
    have HWD := Lib.hid hwd
    obtain ⟨A7, c7, rfl, hs7, -⟩ := (SB_of_own hown (by omega)).shape
    have HR3 := Lib.hid (blk_below HR2.out hb3)
    have HB3 := Lib.hid (HB2.out.trans (hb3.mono HB2.out.size))
    have HO3 := Lib.hid (hown.base_le HB2.out.size)
    have HS7 := Lib.hid hs7
    clear hst hwd hown hs7 hb3 HR2 HB2
    obtain ⟨g7, hg7⟩ : ∃ g, g = w3.heap.size := ⟨_, rfl⟩
    have HG7 := Lib.hid hg7
    clear hg7
    go_upto_region 5 with (first
      | (refine wpList_alloc_row rfl 33 rfl _ (zero33 _) ?_; rw [← HG7.out]; intro w4 hT hS hG; have HT4 := Lib.hid hT; have HG4 := Lib.hid (below_of_grown hG); clear hT hG hS)
      | (refine wpList_store_row rfl 33 _ _ rfl g7 rfl 33 _ _ rfl HT4.out (by rw [dgV_size HWD.out.1.1]; rfl) (by rw [dgV_size HWD.out.1.1]; kernel_rfl) (dgV_one _ _ rfl) ?_; intro w5 hT3 hS3 hG3; have HT5 := Lib.hid hT3; have HG5 := Lib.hid hG3; clear hT3 hS3 hG3))
    have h27 : g2 < g7 := by have := blk_lt HR3.out; have := HG7.out; omega
    have HR5 := Lib.hid (blk_grown (blk_below HR3.out HG4.out) HG5.out (fun e => by injection e with e; omega))
    have HB5 := Lib.hid ((HB3.out.trans (HG4.out.mono HB3.out.size)).grown HG5.out (by have := HB3.out.size; have := HG4.out.size; omega) (fun k e => by injection e with e; have := HB3.out.size; have := HG7.out; omega))
    have D7 := Lib.hid (show DgAt g7 st.1 st.2.1 size (.slice A7 st.2.2.length c7) st.2.2 w5 from ⟨HT5.out, (HS7.out.below HG4.out).grown33 HT4.out (dgV_nobyte _ _) HG5.out, HWD.out.1, HWD.out.2.1⟩)
    have HO5 := Lib.hid (show w5.ownsRow w.heap.size 5 1 (.slice A7 st.2.2.length c7) st.2.2.length (bytesV st.2.2) from own_move HO3.out (fun k cs _ h0 => blk_grown (blk_below h0 HG4.out) HG5.out (fun e => by injection e with e; have := blk_lt h0; have := HG7.out; omega)))
    clear HR3 HB3 HG4 HG5 HT4 HT5 HS7 HO3 HG7
    have HS5 := Lib.hid (HS.out.below HB5.out)
    have HV5 := Lib.hid (HV.out.below HB5.out)
    refine region_g 23 (fun _ _ => false) (fun i vs W => match i with
        | 0 => vs 0 = .agg (dgV st.1 (.slice A7 st.2.2.length c7) st.2.1 size)
        | 1 => vs 1 = .agg (dgV h (.slice A rs.length c) N size)
        | 2 => vs 2 = .slice B bs.length d
        | 3 => ∃ sl', vs 3 = .agg (dgV st.1 sl' st.2.1 size) ∧ SB W sl' st.2.2
        | 4 => vs 4 = .bool true
        | 5 => vs 5 = .bool false
        | 6 => vs 6 = .bool false
        | 7 => vs 7 = .agg (dgV h (.slice A rs.length c) N size)
        | 8 => SB W (vs 8) (sumL size h N rs)
        | 9 => vs 9 = .string ⟨(sumL size h N rs).toArray⟩
        | 10 => vs 10 = .agg (dgV h (.slice A rs.length c) N size)
        | 11 => SB W (vs 11) (sumL size h N rs)
        | 12 => vs 12 = .string ⟨(sumL size h N rs).toArray⟩
        | 13 => vs 13 = .bool false
        | 14 => vs 14 = .bool false
        | 15 => vs 15 = .bool false
        | 16 => vs 16 = .agg (dgV st.1 (.slice A7 st.2.2.length c7) st.2.1 size)
        | 17 => SB W (vs 17) (sumL size st.1 st.2.1 st.2.2)
        | 18 => vs 18 = .string ⟨(sumL size st.1 st.2.1 st.2.2).toArray⟩
        | 19 => vs 19 = .agg (dgV st.1 (.slice A7 st.2.2.length c7) st.2.1 size)
        | 20 => SB W (vs 20) (sumL size st.1 st.2.1 st.2.2)
        | 21 => vs 21 = .string ⟨(sumL size st.1 st.2.1 st.2.2).toArray⟩
        | 22 => vs 22 = .bool false
        | _ => True) (fun _ W W' => Below W.heap.size W W') (fun W => Below w5.heap.size w5 W) (by kernel_rfl) (by kernel_rfl) ?hst5 ?h05 ?step5 ?fin5
    case hst5 =>
      intro i k vs W W' _ _ _ h hG
      match i, h with
      | 0, h => exact h
      | 1, h => exact h
      | 2, h => exact h
      | 3, ⟨sl', e1, e2⟩ => exact ⟨sl', e1, e2.below hG⟩
      | 4, h => exact h
      | 5, h => exact h
      | 6, h => exact h
      | 7, h => exact h
      | 8, h => exact SB.below h hG
      | 9, h => exact h
      | 10, h => exact h
      | 11, h => exact SB.below h hG
      | 12, h => exact h
      | 13, h => exact h
      | 14, h => exact h
      | 15, h => exact h
      | 16, h => exact h
      | 17, h => exact SB.below h hG
      | 18, h => exact h
      | 19, h => exact h
      | 20, h => exact SB.below h hG
      | 21, h => exact h
      | 22, h => exact h
      | n + 23, _ => trivial
    case h05 => exact (Below.refl _ _).drew
    case step5 =>
      intro i op hi ho ac W hS hag hdep
      have hbr : Below W.heap.size W W := Below.refl _ _
      match i, hi, ho with
      | 0, _, rfl =>
        refine gstep rfl ?_
        exact ow_load_row 33 _ rfl g7 (hag 7 rfl) 33 _ (0, 0) _ (blk_below D7.out.row hS) Try.underlying33 rfl (by rw [dgV_size HWD.out.1.1]; kernel_rfl) ⟨_, rfl, fun vs' h _ => h (fun e => by cases e), hbr, hS⟩
      | 1, _, rfl =>
        refine gstep rfl ?_
        exact ow_load_row 33 _ rfl g2 (hag 2 rfl) 33 _ (0, 0) _ (blk_below HR5.out hS) Try.underlying33 rfl (by rw [dgV_size HH.out.1]; kernel_rfl) ⟨_, rfl, fun vs' h _ => h (fun e => by cases e), hbr, hS⟩
      | 2, _, rfl =>
        refine gstep rfl ?_
        exact ow_move _ rfl (hag 1 rfl) ⟨_, rfl, fun vs' h _ => h (fun e => by cases e), hbr, hS⟩
      | 3, _, rfl =>
        have h1 : ac.eval (.tmp 28) = .agg (dgV h (.slice A rs.length c) N size) := hdep 1 (by omega) (by kernel_rfl) (fun k _ h => by cases h)
        have h2 : ac.eval (.tmp 29) = .slice B bs.length d := hdep 2 (by omega) (by kernel_rfl) (fun k _ h => by cases h)
        refine gstep rfl ?_
        refine ow_writeR _ _ _ rfl HH.out hN (HS5.out.below hS) (HV5.out.below hS) (by simp; omega) h1 h2 (fun sl' w' hs' hbb => ?_)
        rw [← HST.out] at hs' ⊢
        exact ⟨_, rfl, fun vs' h _ => ⟨sl', h (fun e => by cases e), hs'⟩, hbb, hS.trans (hbb.mono hS.size)⟩
      | 4, _, rfl =>
        have h1 : ac.eval (.tmp 27) = .agg (dgV st.1 (.slice A7 st.2.2.length c7) st.2.1 size) := hdep 0 (by omega) (by kernel_rfl) (fun k _ h => by cases h)
        have h2 := hdep 3 (by omega) (by kernel_rfl) (fun k _ h => by cases h)
        refine gstep rfl ?_
        obtain ⟨sl', h2, h2s⟩ := h2
        have h2 : ac.eval (.tmp 30) = .agg (dgV st.1 sl' st.2.1 size) := h2
        exact ow_same _ _ _ rfl HWD.out.1 HWD.out.2.1 (D7.out.data.below hS) h2s h1 h2 (fun w' hbb => ⟨_, rfl, fun vs' h _ => h (fun e => by cases e), hbb, hS.trans (hbb.mono hS.size)⟩)
      | 5, _, rfl =>
        have h1 : ac.eval (.tmp 31) = .bool true := hdep 4 (by omega) (by kernel_rfl) (fun k _ h => by cases h)
        refine gstep rfl ?_
        exact ow_not _ 4 rfl true h1 ⟨_, rfl, fun vs' h _ => h (fun e => by cases e), hbr, hS⟩
      | 6, _, rfl =>
        have h1 : ac.eval (.tmp 32) = .bool false := hdep 5 (by omega) (by kernel_rfl) (fun k _ h => by cases h)
        refine gstep rfl ?_
        exact ow_move _ rfl h1 ⟨_, rfl, fun vs' h _ => h (fun e => by cases e), hbr, hS⟩
      | 7, _, rfl =>
        refine gstep (wanted_ok rfl rfl (hdep 6 (by omega) (by kernel_rfl) (fun k _ h => by cases h) : ac.eval (.tmp 33) = .bool false)) ?_
        exact ow_load_row 33 _ rfl g2 (hag 2 rfl) 33 _ (0, 0) _ (blk_below HR5.out hS) Try.underlying33 rfl (by rw [dgV_size HH.out.1]; kernel_rfl) ⟨_, rfl, fun vs' h _ => h (fun e => by cases e), hbr, hS⟩
      | 8, _, rfl =>
        have h1 : ac.eval (.tmp 34) = .agg (dgV h (.slice A rs.length c) N size) := hdep 7 (by omega) (by kernel_rfl) (fun k _ h => by cases h)
        refine gstep (wanted_ok rfl rfl (hdep 6 (by omega) (by kernel_rfl) (fun k _ h => by cases h) : ac.eval (.tmp 33) = .bool false)) ?_
        exact ow_sumA _ _ rfl HH.out hN (HS5.out.below hS) h1 (fun v' w' hv' hbb => ⟨_, rfl, fun vs' h _ => by rw [h (fun e => by cases e)]; exact hv', hbb, hS.trans (hbb.mono hS.size)⟩)
      | 9, _, rfl =>
        have h1 : SB W (ac.eval (.tmp 35)) (sumL size h N rs) := hdep 8 (by omega) (by kernel_rfl) (fun k _ h => by cases h)
        refine gstep (wanted_ok rfl rfl (hdep 6 (by omega) (by kernel_rfl) (fun k _ h => by cases h) : ac.eval (.tmp 33) = .bool false)) ?_
        exact ow_str _ rfl rfl h1 ⟨_, rfl, fun vs' h _ => h (fun e => by cases e), hbr, hS⟩
      | 10, _, rfl =>
        refine gstep (wanted_ok rfl rfl (hdep 6 (by omega) (by kernel_rfl) (fun k _ h => by cases h) : ac.eval (.tmp 33) = .bool false)) ?_
        exact ow_load_row 33 _ rfl g2 (hag 2 rfl) 33 _ (0, 0) _ (blk_below HR5.out hS) Try.underlying33 rfl (by rw [dgV_size HH.out.1]; kernel_rfl) ⟨_, rfl, fun vs' h _ => h (fun e => by cases e), hbr, hS⟩
      | 11, _, rfl =>
        have h1 : ac.eval (.tmp 37) = .agg (dgV h (.slice A rs.length c) N size) := hdep 10 (by omega) (by kernel_rfl) (fun k _ h => by cases h)
        refine gstep (wanted_ok rfl rfl (hdep 6 (by omega) (by kernel_rfl) (fun k _ h => by cases h) : ac.eval (.tmp 33) = .bool false)) ?_
        exact ow_sumR _ _ rfl HH.out hN (HS5.out.below hS) h1 (fun v' w' hv' hbb => ⟨_, rfl, fun vs' h _ => by rw [h (fun e => by cases e)]; exact hv', hbb, hS.trans (hbb.mono hS.size)⟩)
      | 12, _, rfl =>
        have h1 : SB W (ac.eval (.tmp 38)) (sumL size h N rs) := hdep 11 (by omega) (by kernel_rfl) (fun k _ h => by cases h)
        refine gstep (wanted_ok rfl rfl (hdep 6 (by omega) (by kernel_rfl) (fun k _ h => by cases h) : ac.eval (.tmp 33) = .bool false)) ?_
        exact ow_str _ rfl rfl h1 ⟨_, rfl, fun vs' h _ => h (fun e => by cases e), hbr, hS⟩
      | 13, _, rfl =>
        have h1 : ac.eval (.tmp 36) = .string ⟨(sumL size h N rs).toArray⟩ := hdep 9 (by omega) (by kernel_rfl) (fun k _ h => by cases h)
        have h2 : ac.eval (.tmp 39) = .string ⟨(sumL size h N rs).toArray⟩ := hdep 12 (by omega) (by kernel_rfl) (fun k _ h => by cases h)
        refine gstep (wanted_ok rfl rfl (hdep 6 (by omega) (by kernel_rfl) (fun k _ h => by cases h) : ac.eval (.tmp 33) = .bool false)) ?_
        exact ow_neq_str _ _ rfl _ h1 h2 ⟨_, rfl, fun vs' h _ => h (fun e => by cases e), hbr, hS⟩
      | 14, _, rfl =>
        have h1 : ac.eval (.tmp 33) = .bool false := hdep 6 (by omega) (by kernel_rfl) (fun k _ h => by cases h)
        have h2 : ac.eval (.tmp 40) = .bool false := hdep 13 (by omega) (by kernel_rfl) (fun k _ h => by cases h)
        refine gstep rfl ?_
        exact ow_pick _ _ _ rfl false h1 (by simpa using h2) ⟨_, rfl, fun vs' h _ => h (fun e => by cases e), hbr, hS⟩
      | 15, _, rfl =>
        have h1 : ac.eval (.tmp 41) = .bool false := hdep 14 (by omega) (by kernel_rfl) (fun k _ h => by cases h)
        refine gstep rfl ?_
        exact ow_move _ rfl h1 ⟨_, rfl, fun vs' h _ => h (fun e => by cases e), hbr, hS⟩
      | 16, _, rfl =>
        refine gstep (wanted_ok rfl rfl (hdep 15 (by omega) (by kernel_rfl) (fun k _ h => by cases h) : ac.eval (.tmp 42) = .bool false)) ?_
        exact ow_load_row 33 _ rfl g7 (hag 7 rfl) 33 _ (0, 0) _ (blk_below D7.out.row hS) Try.underlying33 rfl (by rw [dgV_size HWD.out.1.1]; kernel_rfl) ⟨_, rfl, fun vs' h _ => h (fun e => by cases e), hbr, hS⟩
      | 17, _, rfl =>
        have h1 : ac.eval (.tmp 43) = .agg (dgV st.1 (.slice A7 st.2.2.length c7) st.2.1 size) := hdep 16 (by omega) (by kernel_rfl) (fun k _ h => by cases h)
        refine gstep (wanted_ok rfl rfl (hdep 15 (by omega) (by kernel_rfl) (fun k _ h => by cases h) : ac.eval (.tmp 42) = .bool false)) ?_
        exact ow_sumA _ _ rfl HWD.out.1 HWD.out.2.1 (D7.out.data.below hS) h1 (fun v' w' hv' hbb => ⟨_, rfl, fun vs' h _ => by rw [h (fun e => by cases e)]; exact hv', hbb, hS.trans (hbb.mono hS.size)⟩)
      | 18, _, rfl =>
        have h1 : SB W (ac.eval (.tmp 44)) (sumL size st.1 st.2.1 st.2.2) := hdep 17 (by omega) (by kernel_rfl) (fun k _ h => by cases h)
        refine gstep (wanted_ok rfl rfl (hdep 15 (by omega) (by kernel_rfl) (fun k _ h => by cases h) : ac.eval (.tmp 42) = .bool false)) ?_
        exact ow_str _ rfl rfl h1 ⟨_, rfl, fun vs' h _ => h (fun e => by cases e), hbr, hS⟩
      | 19, _, rfl =>
        refine gstep (wanted_ok rfl rfl (hdep 15 (by omega) (by kernel_rfl) (fun k _ h => by cases h) : ac.eval (.tmp 42) = .bool false)) ?_
        exact ow_load_row 33 _ rfl g7 (hag 7 rfl) 33 _ (0, 0) _ (blk_below D7.out.row hS) Try.underlying33 rfl (by rw [dgV_size HWD.out.1.1]; kernel_rfl) ⟨_, rfl, fun vs' h _ => h (fun e => by cases e), hbr, hS⟩
      | 20, _, rfl =>
        have h1 : ac.eval (.tmp 46) = .agg (dgV st.1 (.slice A7 st.2.2.length c7) st.2.1 size) := hdep 19 (by omega) (by kernel_rfl) (fun k _ h => by cases h)
        refine gstep (wanted_ok rfl rfl (hdep 15 (by omega) (by kernel_rfl) (fun k _ h => by cases h) : ac.eval (.tmp 42) = .bool false)) ?_
        exact ow_sumR _ _ rfl HWD.out.1 HWD.out.2.1 (D7.out.data.below hS) h1 (fun v' w' hv' hbb => ⟨_, rfl, fun vs' h _ => by rw [h (fun e => by cases e)]; exact hv', hbb, hS.trans (hbb.mono hS.size)⟩)
      | 21, _, rfl =>
        have h1 : SB W (ac.eval (.tmp 47)) (sumL size st.1 st.2.1 st.2.2) := hdep 20 (by omega) (by kernel_rfl) (fun k _ h => by cases h)
        refine gstep (wanted_ok rfl rfl (hdep 15 (by omega) (by kernel_rfl) (fun k _ h => by cases h) : ac.eval (.tmp 42) = .bool false)) ?_
        exact ow_str _ rfl rfl h1 ⟨_, rfl, fun vs' h _ => h (fun e => by cases e), hbr, hS⟩
      | 22, _, rfl =>
        have h1 : ac.eval (.tmp 45) = .string ⟨(sumL size st.1 st.2.1 st.2.2).toArray⟩ := hdep 18 (by omega) (by kernel_rfl) (fun k _ h => by cases h)
        have h2 : ac.eval (.tmp 48) = .string ⟨(sumL size st.1 st.2.1 st.2.2).toArray⟩ := hdep 21 (by omega) (by kernel_rfl) (fun k _ h => by cases h)
        refine gstep (wanted_ok rfl rfl (hdep 15 (by omega) (by kernel_rfl) (fun k _ h => by cases h) : ac.eval (.tmp 42) = .bool false)) ?_
        exact ow_neq_str _ _ rfl _ h1 h2 ⟨_, rfl, fun vs' h _ => h (fun e => by cases e), hbr, hS⟩
      | n + 23, hi, _ => exact absurd hi (by omega)
    case fin5 =>
      intro vs W hS hF
      have e15 : vs 15 = .bool false := hF 15 (by omega) (fun _ _ => rfl)
      have e22 : vs 22 = .bool false := hF 22 (by omega) (fun _ _ => rfl)
      clear hF
      change wpList _ _ _ _ (Act.put (Act.put (Act.put (Act.put (Act.put (Act.put (Act.put (Act.put (Act.put (Act.put (Act.put (Act.put (Act.put (Act.put (Act.put (Act.put (Act.put (Act.put (Act.put (Act.put (Act.put (Act.put (Act.put _ (some 27) (vs 0)) (some 28) (vs 1)) (some 29) (vs 2)) (some 30) (vs 3)) (some 31) (vs 4)) (some 32) (vs 5)) (some 33) (vs 6)) (some 34) (vs 7)) (some 35) (vs 8)) (some 36) (vs 9)) (some 37) (vs 10)) (some 38) (vs 11)) (some 39) (vs 12)) (some 40) (vs 13)) (some 41) (vs 14)) (some 42) (vs 15)) (some 43) (vs 16)) (some 44) (vs 17)) (some 45) (vs 18)) (some 46) (vs 19)) (some 47) (vs 20)) (some 48) (vs 21)) (some 49) (vs 22)) W
      rw [e15, e22]
      clear e15 e22
      generalize vs 0 = z0
      generalize vs 1 = z1
      generalize vs 2 = z2
      generalize vs 3 = z3
      generalize vs 4 = z4
      generalize vs 5 = z5
      generalize vs 6 = z6
      generalize vs 7 = z7
      generalize vs 8 = z8
      generalize vs 9 = z9
      generalize vs 10 = z10
      generalize vs 11 = z11
      generalize vs 12 = z12
      generalize vs 13 = z13
      generalize vs 14 = z14
      generalize vs 16 = z16
      generalize vs 17 = z17
      generalize vs 18 = z18
      generalize vs 19 = z19
      generalize vs 20 = z20
      generalize vs 21 = z21
      simp only [putAll, List.drop_succ_cons, List.drop_zero, Act.put, List.setIfInBounds_toArray, List.set_cons_zero, List.set_cons_succ]
      clear vs
      have HR6 := Lib.hid (blk_below HR5.out hS)
      have HT6 := Lib.hid (blk_below D7.out.row hS)
      have HO6 := Lib.hid (own_move HO5.out (fun k cs _ h0 => blk_below h0 hS))
      have HB6 := Lib.hid (HB5.out.trans (hS.mono HB5.out.size))
      clear hS HR5 D7 HO5 HB5 HS5 HV5
      go_wp2_with fail
      go_loopw [8] (fun i wr => ∃ k : Nat, k ≤ st.2.2.length ∧ i = .int .i64 (k : Int) ∧ (∃ ys : List UInt8, ys.length = st.2.2.length ∧ wr.ownsRow w.heap.size 5 1 (.slice A7 st.2.2.length c7) st.2.2.length (bytesV ys)) ∧ wr.heap[g2]? = some (.cells (dgV h (.slice A rs.length c) N size) 33 (0, 0)) ∧ wr.heap[g7]? = some (.cells (dgV st.1 (.slice A7 st.2.2.length c7) st.2.1 size) 33 (0, 0)) ∧ Below w.heap.size w wr) (fun i _ => st.2.2.length - (intOf i).toNat)
      case atStart => exact ⟨0, Nat.zero_le _, rfl, ⟨st.2.2, rfl, HO6.out⟩, HR6.out, HT6.out, HB6.out⟩
      case round =>
        clear HR6 HT6 HO6 HB6
        obtain ⟨k, hk, rfl, ⟨ys, hyl, hown⟩, hr2, hr7, hbe⟩ := hrel
        have hc87 := (cell_of_row _ _ 8 _ _ _ hr7).trans (dgV_sl HWD.out.1.1 (.slice A7 st.2.2.length c7) st.2.1 size)
        have HO := Lib.hid hown
        have HR2 := Lib.hid hr2
        have HR7 := Lib.hid hr7
        have HBE := Lib.hid hbe
        have HYL := Lib.hid hyl
        clear hown hr2 hr7 hbe hyl
        obtain ⟨L, hL⟩ : ∃ L, L = st.2.2.length := ⟨_, rfl⟩
        rw [← hL] at hk hc87 HO HYL HR7 ⊢
        have HLL := Lib.hid hL
        have hL4 : L ≤ 4000 := by rw [hL]; exact hrl
        clear hL
        rcases (show k < L ∨ k = L by omega) with hlt | rfl
        · have hd8 : decide (k < L) = true := decide_eq_true hlt
          have hd8' : decide ((k : Int) < (L : Int)) = true := by simp; omega
          obtain ⟨gx, cx, cur, hsx, hgx, hcur, hcell⟩ := own_blk HO.out (by omega)
          injection hsx with hsx1 _ hsx3
          subst hsx1; subst hsx3
          obtain ⟨y, hy⟩ : ∃ y, ys[k]? = some y := ⟨ys[k]'(by have := HYL.out; omega), by rw [List.getElem?_eq_getElem]⟩
          have hcv := hcell k y hlt hy
          have hfz : wr.frozen? ⟨gx, k, none⟩ = false := frozen_of_row wr gx _ _ _ hcur
          have hwy : IntKind.u8.wrap ((y.toNat : Int) + 1) = (((y + 1 : UInt8).toNat : Nat) : Int) := by
            have := y.toNat_lt
            rw [UInt8.toNat_add]
            simp [IntKind.wrap, IntKind.bits, IntKind.signed]
          obtain ⟨z, hz⟩ : ∃ z : UInt8, z = y + 1 := ⟨_, rfl⟩
          rw [← hz] at hwy
          have HCUR := Lib.hid hcur
          clear hcell hcur hy hz
          go_wp2_with fail
          go_roundw
          case rel =>
            have hgr : wr.grownBy (wr.setCell ⟨gx, k, none⟩ (.int .u8 (z.toNat : Int))) (some gx) := grown_setCell (grown_refl _ _) _ _
            have hne : ∀ (g : Nat) (cs : Array Value), wr.heap[g]? = some (.cells cs 33 (0, 0)) → g ≠ gx := by
              rintro g cs hg rfl
              rw [HCUR.out] at hg
              injection hg with hg
              injection hg with _ hg
              cases hg
            exact ⟨k + 1, by omega, rfl, ⟨ys.set k z, by rw [List.length_set]; exact HYL.out, own_set z HO.out hlt⟩, blk_grown HR2.out hgr (fun e => by injection e with e; exact hne _ _ HR2.out e), blk_grown HR7.out hgr (fun e => by injection e with e; exact hne _ _ HR7.out e), HBE.out.grown hgr HBE.out.size (fun q e => by injection e with e; omega)⟩
          case measure => have := HLL.out; simp [intOf]; omega
        · have hd8 : decide (k < k) = false := by simp
          have hd8' : decide ((k : Int) < (k : Int)) = false := by simp
          have hc8 := (cell_of_row _ _ 8 _ _ _ HR2.out).trans (dgV_sl HH.out.1 (.slice A rs.length c) N size)
          have hcr := conv_str wr _ rs (HS.out.below HBE.out)
          have hcb := conv_str wr _ bs (HV.out.below HBE.out)
          go_wp2_with fail
          refine (awake_any wr).mono ?_
          rintro e w9 ⟨rfl, hb9⟩
          go_wp2_with fail
          go_ret
          exact ⟨rfl, HBE.out.trans (hb9.mono HBE.out.size)⟩
end Go.Proofs.Ytnemclbeofiakaa
