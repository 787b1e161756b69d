/-
  The document's Write.
-/
import Derived.Test.YtnemclbeofiakaaRa
namespace Go.Proofs.Ytnemclbeofiakaa
open Go.RowKit Bl

theorem own_keep {w w' : World} {B n : Nat} {v : Value} {xs : List Value} (h : w.ownsRow B 5 1 v n xs) (hgr : w.grownBy w' v.ownBlock) {g : Nat} {cs : Array Value} {t : TypeId} (hg : w.heap[g]? = some (.cells cs t (0, 0))) (ht : 5 ≠ t) : w'.heap[g]? = some (.cells cs t (0, 0)) := by
  refine blk_grown hg hgr (fun e => ?_)
  rcases own_ne_blk h hg ht with h0 | h0
  · rw [h0] at e; cases e
  · exact h0 e.symm

/-- the document's Write, in its loop -/
structure RwAt (g : Nat) (w : World) (h : List Nat) (n : Nat) (size : Int) (sl : Value) (r : List UInt8) (W : World) : Prop where
  wr : WrAt g w h n size sl r W
  off : OffRow W g sl r

set_option maxHeartbeats 1000000 in
theorem WriteR_any (h : List Nat) (hh : Wds 8 h) (n : Nat) (hn : n < 18446744073709551616) (size : Int) (sl v : Value) (r bs : List UInt8) (w : World) (hs : SB w sl r) (hv : SB w v bs) (hl : (r ++ bs).length ≤ 140737488355328) :
    Calls Try.prog 13 #[.agg (dgV h sl n size), v] w fun e w' => ∃ sl', e = .returned (.agg (dgV (writeL (r ++ bs).length h n (r ++ bs)).1 sl' (writeL (r ++ bs).length h n (r ++ bs)).2.1 size)) ∧
      OffRow w' w.heap.size sl' (writeL (r ++ bs).length h n (r ++ bs)).2.2 ∧ Below w.heap.size w w' := by
  obtain ⟨A, c, rfl, hs, -⟩ := hs.shape
  obtain ⟨B, d, rfl, hv, -⟩ := hv.shape
  have HV := Lib.hid hv
  have HSL := Lib.hid hs
  have HL := Lib.hid hl
  have HH := Lib.hid hh
  have hbr : r.length + bs.length ≤ 140737488355328 := by simpa using hl
  clear hv hs hl hh
  obtain ⟨i0, hi0, hz0, hz1, hz2⟩ := info_parts info5
  have HI0 := Lib.hid hi0
  have HZ0 := Lib.hid hz0
  have HZ1 := Lib.hid hz1
  have HZ2 := Lib.hid hz2
  clear hi0 hz0 hz1 hz2
  go_enter Try.func13, Try.ntmps13
  go_upto_region 1 with (refine wpList_alloc_row rfl 33 rfl _ (zero33 _) ?_; intro w1 hT hS hG; have HT := Lib.hid hT; have HG := Lib.hid (below_of_grown hG); clear hT hG hS)
  have hB1 : Below w.heap.size w w1 := ((Below.refl _ w).alloc (Nat.le_refl _) _).trans (HG.out.mono (by simp))
  have hrow1 := blk_below (World.alloc_heap_new w (.cells (dgV h (.slice A r.length c) n size) 33)) HG.out
  have hres1 := HT.out
  rw [World.size_alloc] at hres1 ⊢
  obtain ⟨g, hg⟩ : ∃ g, g = w.heap.size := ⟨_, rfl⟩
  rw [← hg] at hB1 hrow1 hres1 ⊢
  have HGG := Lib.hid hg
  clear hg HT HG
  have hbe2 := hB1.trans ((below_alloc1 w1 (.cells #[] 5)).mono (by have := blk_lt hrow1; omega))
  have hrow2 := blk_below hrow1 (below_alloc1 w1 (.cells #[] 5))
  have hres2 := blk_below hres1 (below_alloc1 w1 (.cells #[] 5))
  have hc82 := (cell_of_row _ _ 8 _ _ _ hrow2).trans (dgV_sl HH.out.1 (.slice A r.length c) n size)
  have HOB := Lib.hid (own_build0 w1 g (by have := blk_lt hrow1; omega))
  have hglt1 : g < w1.heap.size := blk_lt hrow1
  have HSL2 := Lib.hid (HSL.out.below (by rw [← HGG.out]; exact hbe2))
  have HBE2 := Lib.hid hbe2
  have HROW2 := Lib.hid hrow2
  have HRES2 := Lib.hid hres2
  clear hbe2 hrow2 hres2 hB1 hrow1 hres1
  obtain ⟨al, hal⟩ : ∃ al, al = r ++ bs := ⟨_, rfl⟩
  rw [← hal] at HL
  have HALL := Lib.hid (show al.length = r.length + bs.length by rw [hal]; simp)
  have HAL := Lib.hid hal
  clear hal
  go_wp2_with (first
    | (refine wpList_build0 rfl rfl ?_)
    | (at_builtin; refine wpList_append_src _ rfl (.tmp 5) (.tmp 7) 24 rfl g 5 i0 (.int .u8 0) 1 Try.underlying24 HI0.out HZ0.out HZ1.out HZ2.out rfl _ 0 [] rfl HOB.out A r.length c (bytesV r) rfl (bytesV_length r) HSL2.out.isNil HSL2.out.cells (bytesV_one _) (by unfold maxLen; omega) (by omega) (by simp; omega) ?_; intro v8 w2 hown2 hg2 hat2; have HO2 := Lib.hid hown2; have HBE3 := Lib.hid (HBE2.out.grown hg2 (by simp; omega) (own_ge HOB.out)); have HROW3 := Lib.hid (own_keep HOB.out hg2 HROW2.out (by decide)); have HRES3 := Lib.hid (own_keep HOB.out hg2 HRES2.out (by decide)); have HV3 := Lib.hid (HV.out.below (by rw [← HGG.out]; exact HBE3.out)); clear hown2 hg2 hat2)
    | (at_builtin; refine wpList_append_src _ rfl (.tmp 8) (.tmp 9) 24 rfl g 5 i0 (.int .u8 0) 1 Try.underlying24 HI0.out HZ0.out HZ1.out HZ2.out rfl v8 (0 + r.length) ([] ++ bytesV r) rfl HO2.out B bs.length d (bytesV bs) rfl (bytesV_length bs) HV3.out.isNil HV3.out.cells (bytesV_one _) (by unfold maxLen; omega) (by omega) (by have := blk_lt HROW3.out; omega) ?_; intro v10 w3 hown3 hg3 hat3; have ho3 : OffRow w3 g v10 al := OffRow.of_own (by rw [HALL.out, HAL.out, bytesV_append]; simpa using hown3); obtain ⟨A3, c3, rfl⟩ := ho3.shape; have HO3 := Lib.hid ho3; have HBE4 := Lib.hid (HBE3.out.grown hg3 (by have := blk_lt HROW3.out; omega) (own_ge HO2.out)); have HROW4 := Lib.hid (own_keep HO2.out hg3 HROW3.out (by decide)); have HRES4 := Lib.hid (own_keep HO2.out hg3 HRES3.out (by decide)); have hc83 := (cell_of_row _ _ 8 _ _ _ HROW4.out).trans (dgV_sl HH.out.1 (.slice A r.length c) n size); have hf83 := frozen_of_row _ g 8 _ _ HROW4.out; clear hown3 hg3 hat3 ho3))
  have hwr := wr_set8 HROW4.out HRES4.out (by rw [← HGG.out] at *; exact HBE4.out) HH.out hn (HO3.out.sb HL.out)
  have hoff := HO3.out.other HROW4.out (by decide) (grown_setCell (grown_refl w3 (some g)) 8 (.slice A3 al.length c3))
  have HW0 := Lib.hid (show RwAt g w h n size (.slice A3 al.length c3) al (w3.setCell ⟨g, 8, none⟩ (.slice A3 al.length c3)) from ⟨hwr, hoff⟩)
  clear hwr hoff hc82 hc83 hf83 HROW4 HRES4 HBE4 HO3 HROW3 HRES3 HBE3 HO2 HV3 HROW2 HRES2 HBE2 HOB HSL2 HSL HV
  obtain ⟨w4, hw4⟩ : ∃ w4, w4 = w3.setCell ⟨g, 8, none⟩ (.slice A3 al.length c3) := ⟨_, rfl⟩
  rw [← hw4] at HW0 ⊢
  clear hw4
  go_loopw [] (fun wr => ∃ h1 n1 r1 A1 c1, RwAt g w h1 n1 size (.slice A1 (List.length r1) c1) r1 wr ∧ r1.length ≤ al.length ∧ writeL r1.length h1 n1 r1 = writeL al.length h n al) (fun wr => lenAt g 8 wr)
  case atStart => exact ⟨h, n, al, A3, c3, HW0.out, Nat.le_refl _, rfl⟩
  case round =>
    clear HW0
    obtain ⟨h1, n1, r1, A1, c1, hw, hle, hwl⟩ := hrel
    have hc8 := hw.wr.c8
    have hc9 := hw.wr.c9
    have hf9 := frozen_of_row _ g 9 _ _ hw.wr.dg.row
    have hlen := hw.wr.len
    have HW := Lib.hid hw
    have HWL := Lib.hid hwl
    have HLE := Lib.hid hle
    have HLEN := Lib.hid hlen
    clear hw hwl hle hlen
    by_cases h64 : 64 < r1.length
    · obtain ⟨b, o, rfl, hcc, hpart⟩ := SB.part HW.out.wr.dg.data (by omega)
      clear hpart
      have hd : decide ((64 : Int) < (r1.length : Int)) = true := by simp; omega
      have hwr : IntKind.u64.wrap ((n1 : Int) + 64) = (((n1 + 64) % 18446744073709551616 : Nat) : Int) := by rw [IntKind.wrap_u64]; omega
      obtain ⟨n2, hn2⟩ : ∃ n2, n2 = (n1 + 64) % 18446744073709551616 := ⟨_, rfl⟩
      rw [← hn2] at hwr
      have HN2 := Lib.hid hn2
      have hn2l : n2 < 18446744073709551616 := by rw [hn2]; exact Nat.mod_lt _ (by decide)
      clear hn2
      go_wp2_with fail
      have hw2 : RwAt g w h1 n2 size (.slice (some ⟨b, o, none⟩) r1.length c1) r1 (wr.setCell ⟨g, 9, none⟩ (.int .u64 (n2 : Int))) := ⟨HW.out.wr.set9 n2 hn2l, HW.out.off.other HW.out.wr.dg.row (by decide) (grown_setCell (grown_refl wr (some g)) 9 _)⟩
      obtain ⟨w4, hw4⟩ : ∃ w4, w4 = wr.setCell ⟨g, 9, none⟩ (.int .u64 (n2 : Int)) := ⟨_, rfl⟩
      rw [← hw4] at hw2 ⊢
      have HW4 := Lib.hid hw2
      clear hw4 hw2 HW hc8 hc9 hf9 hwr
      refine region_f 8 (fun i vs W => match i with
          | 0 => vs 0 = .pointer (some ⟨g, 0, none⟩)
          | 1 => vs 1 = .agg (wordsV h1).toArray
          | 2 => vs 2 = .pointer (some ⟨g, 8, none⟩)
          | 3 => vs 3 = .slice (some ⟨b, o, none⟩) r1.length c1
          | 4 => vs 4 = .slice (some ⟨b, o, none⟩) 64 c1
          | 5 => vs 5 = .pointer (some ⟨g, 9, none⟩)
          | 6 => vs 6 = .int .u64 (n2 : Int)
          | 7 => vs 7 = .agg (wordsV (mixF h1 (wordsF (r1.take 64)) n2 false)).toArray
          | _ => True) (fun _ W W' => Below W.heap.size W W') (fun W => Below w4.heap.size w4 W) (by kernel_rfl) (by kernel_rfl) ?hst4 ?h04 ?step4 ?fin4
      case hst4 =>
        intro i k vs W W' _ _ h hG
        match i, h with
        | 0, h => exact h
        | 1, h => exact h
        | 2, h => exact h
        | 3, h => exact h
        | 4, h => exact h
        | 5, h => exact h
        | 6, h => exact h
        | 7, h => exact h
        | n + 8, _ => trivial
      case h04 => exact (Below.refl _ _).drew
      case step4 =>
        intro i op hi ho ac W hS hag hdep
        have hbr : Below W.heap.size W W := Below.refl _ _
        have hWW := HW4.out.wr.keep hS
        match i, hi, ho with
        | 0, _, rfl =>
          exact ow_field33 _ 0 0 rfl (by simp) g (hag 2 rfl) ⟨_, rfl, fun vs' h _ => h (fun e => by cases e), hbr, hS⟩
        | 1, _, rfl =>
          have h1' : ac.eval (.tmp 20) = .pointer (some ⟨g, 0, none⟩) := hdep 0 (by omega) (by kernel_rfl)
          refine ow_load_part 23 _ rfl g h1' _ _ (fun j v hj => ?_) Try.underlying23 rfl (by rw [wordsV_size, HW4.out.wr.dg.wds.1]; kernel_rfl) ⟨_, rfl, fun vs' h _ => h (fun e => by cases e), hbr, hS⟩
          have hjl : j < h1.length := by have := (Array.getElem?_eq_some_iff.1 hj).1; rwa [wordsV_size] at this
          rw [cell_of_row _ _ j _ _ _ hWW.dg.row, dgV_word _ _ _ j hjl, ← hj]
          simp [wordsV, List.getD_eq_getElem?_getD, hjl]
        | 2, _, rfl =>
          exact ow_field33 _ 1 8 rfl (by simp) g (hag 2 rfl) ⟨_, rfl, fun vs' h _ => h (fun e => by cases e), hbr, hS⟩
        | 3, _, rfl =>
          have h1' : ac.eval (.tmp 22) = .pointer (some ⟨g, 8, none⟩) := hdep 2 (by omega) (by kernel_rfl)
          exact ow_load_slice' _ 5 24 rfl g 8 h1' _ _ _ hWW.c8 Try.underlying24 ⟨_, rfl, fun vs' h _ => h (fun e => by cases e), hbr, hS⟩
        | 4, _, rfl =>
          have h1' : ac.eval (.tmp 23) = .slice (some ⟨b, o, none⟩) r1.length c1 := hdep 3 (by omega) (by kernel_rfl)
          exact ow_slice_hi _ 5 24 64 rfl b o r1.length c1 h1' Try.underlying24 (by omega) (by omega) tag5 ⟨_, rfl, fun vs' h _ => h (fun e => by cases e), hbr, hS⟩
        | 5, _, rfl =>
          exact ow_field33 _ 2 9 rfl (by simp) g (hag 2 rfl) ⟨_, rfl, fun vs' h _ => h (fun e => by cases e), hbr, hS⟩
        | 6, _, rfl =>
          have h1' : ac.eval (.tmp 25) = .pointer (some ⟨g, 9, none⟩) := hdep 5 (by omega) (by kernel_rfl)
          exact ow_load_int _ 25 .u64 rfl g 9 h1' _ hWW.c9 Try.underlying25 ⟨_, rfl, fun vs' h _ => h (fun e => by cases e), hbr, hS⟩
        | 7, _, rfl =>
          have e1 : ac.eval (.tmp 21) = .agg (wordsV h1).toArray := hdep 1 (by omega) (by kernel_rfl)
          have e2 : ac.eval (.tmp 24) = .slice (some ⟨b, o, none⟩) 64 c1 := hdep 4 (by omega) (by kernel_rfl)
          have e3 : ac.eval (.tmp 26) = .int .u64 (n2 : Int) := hdep 6 (by omega) (by kernel_rfl)
          obtain ⟨b', o', hbo, _, hp⟩ := SB.part hWW.dg.data (by omega)
          injection hbo with hbo
          injection hbo with hb1 ho1
          subst hb1; subst ho1
          have hsb := hp 0 64 c1 (by omega) (by omega)
          simp only [Nat.add_zero, List.drop_zero] at hsb
          exact ow_mixR _ _ _ _ _ rfl h1 HW4.out.wr.dg.wds _ (r1.take 64) n2 hn2l false e1 e2 e3 rfl hsb (by simp; omega) (fun w' hbb => ⟨_, rfl, fun vs' h _ => h (fun e => by cases e), hbb, hS.trans (hbb.mono hS.size)⟩)
        | n + 8, hi, _ => exact absurd hi (by omega)
      case fin4 =>
        intro vs W hS hF
        have e7 : vs 7 = .agg (wordsV (mixF h1 (wordsF (r1.take 64)) n2 false)).toArray := hF 7 (by omega)
        clear hF
        change wpList _ _ _ _ (Act.put (Act.put (Act.put (Act.put (Act.put (Act.put (Act.put (Act.put _ (some 20) (vs 0)) (some 21) (vs 1)) (some 22) (vs 2)) (some 23) (vs 3)) (some 24) (vs 4)) (some 25) (vs 5)) (some 26) (vs 6)) (some 27) (vs 7)) W
        rw [e7]
        clear e7
        generalize vs 0 = z0
        generalize vs 1 = z1
        generalize vs 2 = z2
        generalize vs 3 = z3
        generalize vs 4 = z4
        generalize vs 5 = z5
        generalize vs 6 = z6
        simp only [putAll, List.drop_succ_cons, List.drop_zero, Act.put, List.setIfInBounds_toArray, List.set_cons_zero, List.set_cons_succ]
        clear vs
        have HW5 := Lib.hid (show RwAt g w h1 n2 size (.slice (some ⟨b, o, none⟩) r1.length c1) r1 W from ⟨HW4.out.wr.keep hS, HW4.out.off.below hS⟩)
        obtain ⟨h2, hh2⟩ : ∃ h2, h2 = mixF h1 (wordsF (r1.take 64)) n2 false := ⟨_, rfl⟩
        have hh2w : Wds 8 h2 := by rw [hh2]; exact HW4.out.wr.dg.wds.mixF _ _ _
        rw [← hh2]
        have HH2 := Lib.hid hh2
        have HH2W := Lib.hid hh2w
        clear hS HW4 hh2 hh2w
        go_upto_region 5 with (refine wpList_store_part rfl 23 _ _ rfl g rfl 33 _ _ rfl HW5.out.wr.dg.row (by rw [wordsV_size, dgV_size HW5.out.wr.dg.wds.1, HH2W.out.1]; omega) (by rw [wordsV_size, HH2W.out.1]; kernel_rfl) (wordsV_one _) ?_; intro w6 hT6 hS6 hG6; have HT6 := Lib.hid hT6; have HG6 := Lib.hid hG6; clear hT6 hG6 hS6)
        have hrow6 := HT6.out
        rw [dgV_over HW5.out.wr.dg.wds.1 HH2W.out.1] at hrow6
        have hw6 := HW5.out.wr.grown HG6.out HH2W.out hn2l hrow6
        have hoff6 := HW5.out.off.other HW5.out.wr.dg.row (by decide) HG6.out
        have hc86 := hw6.c8
        have hf86 := frozen_of_row _ g 8 _ _ hw6.dg.row
        have HW6 := Lib.hid hw6
        have HOFF6 := Lib.hid hoff6
        clear hrow6 hw6 hoff6 HT6 HG6 HW5
        have hne : ¬ c1 = 64 := by omega
        have hl2 : (r1.drop 64).length = r1.length - 64 := by simp
        have hoff7 := HOFF6.out.drop64 h64
        have hsub : SB w6 (.slice (some ⟨b, o + 64, none⟩) (r1.length - 64) (c1 - 64)) (r1.drop 64) := hoff7.sb (by have := HLE.out; have := HL.out; omega)
        have HSUB := Lib.hid hsub
        have HOFF7 := Lib.hid hoff7
        clear hsub hoff7 HOFF6
        go_wp2_with (refine wpList_slice_lo rfl _ 5 24 64 rfl b o r1.length c1 rfl Try.underlying24 (by omega) (by omega) (by omega) tag5 ?_)
        have hw7 := wr_set8 HW6.out.dg.row HW6.out.res HW6.out.below HW6.out.dg.wds hn2l HSUB.out
        have ho7 := HOFF7.out.other HW6.out.dg.row (by decide) (grown_setCell (grown_refl w6 (some g)) 8 (.slice (some ⟨b, o + 64, none⟩) (r1.length - 64) (c1 - 64)))
        rw [← hl2] at hw7 ho7 ⊢
        have HW7 := Lib.hid (show RwAt g w h2 n2 size _ (r1.drop 64) _ from ⟨hw7, ho7⟩)
        have hstep := writeL_step h1 n1 r1 h64
        rw [← HN2.out, ← HH2.out] at hstep
        have hle2 : (r1.drop 64).length ≤ al.length := by have := HLE.out; omega
        have HSTEP := Lib.hid (hstep.symm.trans HWL.out)
        clear hw7 ho7 hstep HW6 HSUB HOFF7
        go_roundw
        case rel => exact ⟨h2, n2, r1.drop 64, _, _, HW7.out, hle2, HSTEP.out⟩
        case measure =>
          rw [HLEN.out, HW7.out.wr.len, hl2]
          omega
    · have hd : decide ((64 : Int) < (r1.length : Int)) = false := by simp; omega
      have hst : writeL al.length h n al = (h1, n1, r1) := by rw [← HWL.out]; exact writeL_stop _ _ _ _ (by omega)
      have HST := Lib.hid hst
      clear hst
      go_wp2_with (first
        | (refine wpList_load_row rfl 33 _ rfl g rfl 33 _ (0, 0) _ HW.out.wr.dg.row Try.underlying33 rfl (by rw [dgV_size HW.out.wr.dg.wds.1]; kernel_rfl) ?_)
        | (refine wpList_store_row rfl 33 _ _ rfl (g + 1) rfl 33 _ _ rfl HW.out.wr.res (by rw [dgV_size HW.out.wr.dg.wds.1]; rfl) (by rw [dgV_size HW.out.wr.dg.wds.1]; kernel_rfl) (dgV_one _ _ rfl) ?_; intro w6 hT6 hS6 hG6; have HT6 := Lib.hid hT6; have HG6 := Lib.hid hG6; clear hT6 hG6 hS6))
      refine bodyPost_ret (v := .agg (dgV h1 (.slice A1 r1.length c1) n1 size)) ?_ rfl ⟨.slice A1 r1.length c1, ?_, ?_, ?_⟩
      · exact results_cell_row (P := Try.prog) (p := 4) (ty := 33) rfl _ w6 (g + 1) 33 _ (0, 0) _ rfl HT6.out Try.underlying33 rfl (by rw [dgV_size HW.out.wr.dg.wds.1]; kernel_rfl)
      · rw [← HAL.out, HST.out]
      · rw [← HAL.out, HST.out, ← HGG.out]
        exact HW.out.off.other HW.out.wr.res (by decide) HG6.out
      · rw [← HGG.out]
        exact HW.out.wr.below.grown HG6.out (by have := blk_lt HW.out.wr.res; omega) (fun k e => by injection e with e; omega)
end Go.Proofs.Ytnemclbeofiakaa
