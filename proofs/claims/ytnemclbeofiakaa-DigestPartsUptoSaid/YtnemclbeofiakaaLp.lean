/-
  DigestParts' walk.
-/
import Derived.Test.YtnemclbeofiakaaWt
import Derived.Test.YtnemclbeofiakaaLs
namespace Go.Proofs.Ytnemclbeofiakaa
open Go.RowKit Bl

set_option maxHeartbeats 1000000 in
set_option maxRecDepth 4000 in
theorem DigestParts_any (sz at_ tt : Int) (v u : Value) (bs os : List UInt8) (w : World) (hat : -9223372036854775808 ≤ at_ ∧ at_ ≤ 9223372036854775807) (hto : -9223372036854775808 ≤ tt ∧ tt ≤ 9223372036854775807) (hv : SB w v bs) (hu : SB w u os) (hb : bs.length + os.length ≤ 2097152) :
    Calls Try.prog 5 #[.int .i64 sz, v, u, .int .i64 at_, .int .i64 tt] w fun e w' => e = .returned (.bool true) ∧ Below w.heap.size w w' := by
  obtain ⟨A, c, rfl, hv, -⟩ := hv.shape
  obtain ⟨B, d, rfl, hu, -⟩ := hu.shape
  have HV := Lib.hid hv
  have HU := Lib.hid hu
  have HB0 := Lib.hid hb
  clear hv hu
  go_enter Try.func5, Try.ntmps5
  by_cases hlong : 5000 < bs.length + os.length
  · have hd : decide ((5000 : Int) < (bs.length : Int) + (os.length : Int)) = true := by simp; omega
    go_wp2_with fail
    refine (awake_any w).mono ?_
    rintro e w7 ⟨rfl, hb7⟩
    go_wp2_with fail
    go_ret
    exact ⟨rfl, hb7⟩
  · have hd : decide ((5000 : Int) < (bs.length : Int) + (os.length : Int)) = false := by simp; omega
    go_wp2_with fail
    refine (Begin_any sz w).mono ?_
    rintro e w1 ⟨cs1, rfl, hz1, ho1, he1, hb1⟩
    have HZ1 := Lib.hid hz1
    have HO1 := Lib.hid ho1
    have HE1 := Lib.hid he1
    have HB1 := Lib.hid hb1
    clear hz1 ho1 he1 hb1
    obtain ⟨ea, hea⟩ : ∃ x : Int, x = if 1 ≤ sz ∧ sz ≤ 32 then 0 else 1 := ⟨_, rfl⟩
    rw [← hea]
    have HEA := Lib.hid hea
    clear hea
    obtain ⟨g1, hg1⟩ : ∃ g, g = w1.heap.size := ⟨_, rfl⟩
    have HG1 := Lib.hid hg1
    clear hg1
    go_upto_region 4 with (first
      | (refine wpList_alloc_row rfl 33 rfl _ (zero33 _) ?_; rw [← HG1.out]; intro w2 hT hS hG; have HT2 := Lib.hid hT; have HG2 := Lib.hid (below_of_grown hG); clear hT hG hS)
      | (refine wpList_store_row rfl 33 _ _ rfl g1 rfl 33 _ _ rfl HT2.out (by rw [HZ1.out]; rfl) (by rw [HZ1.out]; kernel_rfl) HO1.out ?_; intro w3 hT3 hS3 hG3; have HT3 := Lib.hid hT3; have HG3 := Lib.hid hG3; clear hT3 hS3 hG3))
    have HB3 := Lib.hid ((HB1.out.trans (HG2.out.mono HB1.out.size)).grown HG3.out (by have := HB1.out.size; have := HG2.out.size; omega) (fun k e => by injection e with e; have := HB1.out.size; have := HG1.out; omega))
    have hg1w : w.heap.size ≤ g1 := by have := HB1.out.size; have := HG1.out; omega
    clear HB1 HG2 HG3 HT2 HG1
    by_cases ha : 1 ≤ sz ∧ sz ≤ 32
    · have hea0 : ea = 0 := by rw [HEA.out, if_pos ha]
      subst hea0
      have hcs1 := HE1.out ha
      subst hcs1
      obtain ⟨p, rfl⟩ : ∃ k : Nat, sz = (k : Int) := ⟨sz.toNat, by omega⟩
      simp only [Int.toNat_natCast] at HT3 ⊢
      clear HE1 HO1 HZ1 HEA
      go_upto_region 6 with fail
      go_cut [13] from 37 (fun i wc => wc = w3 ∧ ∃ k : Nat, k ≤ bs.length ∧ i = .int .i64 (k : Int))
      case first =>
        have hne : ((bs.length : Int) + 1 == 0) = false := by simp; omega
        by_cases h0 : at_ ≤ 0
        · go_wp2_with fail
          go_meet
          case rel => exact ⟨rfl, 0, Nat.zero_le _, rfl⟩
        · have h0' : 0 < at_ := by omega
          have hm1 : 0 ≤ at_ % ((bs.length : Int) + 1) := Int.emod_nonneg _ (by omega)
          have hm2 : at_ % ((bs.length : Int) + 1) < (bs.length : Int) + 1 := Int.emod_lt_of_pos _ (by omega)
          have HM := Lib.hid (show ∃ k : Nat, k ≤ bs.length ∧ Value.int .i64 (at_ % ((bs.length : Int) + 1)) = .int .i64 (k : Int) from ⟨(at_ % ((bs.length : Int) + 1)).toNat, by omega, by rw [Int.toNat_of_nonneg hm1]⟩)
          clear hm1 hm2
          go_wp2_with fail
          go_meet
          case rel => exact ⟨rfl, HM.out⟩
      apply_assumption
      obtain ⟨rfl, ki, hki, rfl⟩ := hcut
      go_upto_region 7 with fail
      go_cut [14] from 43 (fun i wc' => wc' = wc ∧ ∃ k : Nat, ki ≤ k ∧ k ≤ bs.length ∧ i = .int .i64 (k : Int))
      case first =>
        have hne : ((bs.length : Int) - (ki : Int) + 1 == 0) = false := by simp; omega
        by_cases h0 : tt ≤ 0
        · go_wp2_with fail
          go_meet
          case rel => exact ⟨rfl, ki, Nat.le_refl _, hki, by simp⟩
        · have h0' : 0 < tt := by omega
          have hm1 : 0 ≤ tt % ((bs.length : Int) - (ki : Int) + 1) := Int.emod_nonneg _ (by omega)
          have hm2 : tt % ((bs.length : Int) - (ki : Int) + 1) < (bs.length : Int) - (ki : Int) + 1 := Int.emod_lt_of_pos _ (by omega)
          have HM := Lib.hid (show ∃ k : Nat, ki ≤ k ∧ k ≤ bs.length ∧ Value.int .i64 ((ki : Int) + tt % ((bs.length : Int) - (ki : Int) + 1)) = .int .i64 (k : Int) from ⟨((ki : Int) + tt % ((bs.length : Int) - (ki : Int) + 1)).toNat, by omega, by omega, by rw [Int.toNat_of_nonneg (by omega)]⟩)
          obtain ⟨R, hR⟩ : ∃ R, R = tt % ((bs.length : Int) - (ki : Int) + 1) := ⟨_, rfl⟩
          rw [← hR] at hm1 hm2 HM
          have hR' := hR.symm
          clear hR
          go_wp2_with fail
          go_meet
          case rel => exact ⟨rfl, HM.out⟩
      apply_assumption
      obtain ⟨rfl, kk, hkk1, hkk2, rfl⟩ := hcut
      have HT3 := HT3
      have HWP := Lib.hid (wds_begin (s := p) (by omega))
      have HS := Lib.hid (HV.out.below HB3.out)
      obtain ⟨st1, hst1⟩ : ∃ st, st = writeL (bs.take ki).length (beginF p) 0 (bs.take ki) := ⟨_, rfl⟩
      obtain ⟨st2, hst2⟩ : ∃ st, st = writeL (bs.take kk).length (beginF p) 0 (bs.take kk) := ⟨_, rfl⟩
      have hw1 := writeL_wds (bs.take ki).length (beginF p) 0 (bs.take ki) HWP.out (by decide)
      have hw2 := writeL_wds (bs.take kk).length (beginF p) 0 (bs.take kk) HWP.out (by decide)
      have happ := writeL_append (bs.take ki).length (beginF p) 0 (bs.take ki) ((bs.drop ki).take (kk - ki)) (Nat.le_refl _)
      have hjoin : bs.take ki ++ (bs.drop ki).take (kk - ki) = bs.take kk := by
        have h1 : (bs.take kk).take ki = bs.take ki := by rw [List.take_take, Nat.min_eq_left hkk1]
        have h2 : (bs.take kk).drop ki = (bs.drop ki).take (kk - ki) := by rw [List.drop_take]
        rw [← h1, ← h2, List.take_append_drop]
      rw [hjoin, ← hst1, ← hst2] at happ
      rw [← hst1] at hw1
      rw [← hst2] at hw2
      have HW1 := Lib.hid hw1
      have HW2 := Lib.hid hw2
      have HAPP := Lib.hid happ
      have HST1 := Lib.hid hst1
      have HST2 := Lib.hid hst2
      clear hw1 hw2 happ hst1 hst2 hjoin
      go_upto_region 8 with fail
      refine region_f 11 (fun i vs W => match i with
          | 0 => vs 0 = .agg (dgV (beginF p) nilS 0 (p : Int))
          | 1 => vs 1 = .slice A bs.length c
          | 2 => vs 2 = .int .i64 (ki : Int)
          | 3 => SB W (vs 3) (bs.take ki)
          | 4 => ∃ A' c', vs 4 = .agg (dgV st1.1 (.slice A' st1.2.2.length c') st1.2.1 (p : Int)) ∧ SB W (.slice A' st1.2.2.length c') st1.2.2
          | 5 => vs 5 = .slice A bs.length c
          | 6 => vs 6 = .int .i64 (ki : Int)
          | 7 => vs 7 = .int .i64 (kk : Int)
          | 8 => SB W (vs 8) ((bs.drop ki).take (kk - ki))
          | 9 => ∃ A' c', vs 9 = .agg (dgV st2.1 (.slice A' st2.2.2.length c') st2.2.1 (p : Int)) ∧ SB W (.slice A' st2.2.2.length c') st2.2.2
          | 10 => ∃ x, vs 10 = .pointer (some ⟨x, 0, none⟩) ∧ wc.heap.size ≤ x ∧ W.heap[x]? = some (.cells (dgV (List.replicate 8 0) nilS 0 0) 33 (0, 0))
          | _ => True) (fun _ W W' => Below W.heap.size W W') (fun W => Below wc.heap.size wc W) (by kernel_rfl) (by kernel_rfl) ?hst ?h0 ?step ?fin
      case hst =>
        intro i k vs W W' _ _ h hG
        match i, h with
        | 0, h => exact h
        | 1, h => exact h
        | 2, h => exact h
        | 3, h => exact SB.below h hG
        | 4, ⟨A', c', h1, h2⟩ => exact ⟨A', c', h1, h2.below hG⟩
        | 5, h => exact h
        | 6, h => exact h
        | 7, h => exact h
        | 8, h => exact SB.below h hG
        | 9, ⟨A', c', h1, h2⟩ => exact ⟨A', c', h1, h2.below hG⟩
        | 10, ⟨x, h1, h2, h3⟩ => exact ⟨x, h1, h2, blk_below h3 hG⟩
        | n + 11, _ => trivial
      case h0 => exact (Below.refl _ _).drew
      case step =>
        intro i op hi ho ac W hS hag hdep
        have hbr : Below W.heap.size W W := Below.refl _ _
        match i, hi, ho with
        | 0, _, rfl => exact ow_load_row 33 _ rfl g1 (hag 11 rfl) 33 _ (0, 0) _ (blk_below HT3.out hS) Try.underlying33 rfl (by rw [dgV_size HWP.out.1]; kernel_rfl) ⟨_, rfl, fun vs' h _ => h (fun e => by cases e), hbr, hS⟩
        | 1, _, rfl => exact ow_move _ rfl (hag 1 rfl) ⟨_, rfl, fun vs' h _ => h (fun e => by cases e), hbr, hS⟩
        | 2, _, rfl => exact ow_move _ rfl (hag 13 rfl) ⟨_, rfl, fun vs' h _ => h (fun e => by cases e), hbr, hS⟩
        | 3, _, rfl =>
          have h1 : ac.eval (.tmp 54) = .slice A bs.length c := hdep 1 (by omega) (by kernel_rfl)
          have h2 : ac.eval (.tmp 55) = .int .i64 (ki : Int) := hdep 2 (by omega) (by kernel_rfl)
          exact ow_cut_to _ _ rfl h1 (HS.out.below hS) ki h2 hki (fun v' hv' => ⟨_, rfl, fun vs' h _ => by rw [h (fun e => by cases e)]; exact hv', hbr, hS⟩)
        | 4, _, rfl =>
          have h1 : ac.eval (.tmp 53) = .agg (dgV (beginF p) nilS 0 (p : Int)) := hdep 0 (by omega) (by kernel_rfl)
          have h2 : SB W (ac.eval (.tmp 56)) (bs.take ki) := hdep 3 (by omega) (by kernel_rfl)
          refine ow_call Try.func11 (by kernel_rfl) rfl _ _ rfl (vs := #[.agg (dgV (beginF p) nilS 0 (p : Int)), ac.eval (.tmp 56)]) (by simp only [List.map_toArray, List.map_cons, List.map_nil, h1]) ?_
          refine (Write_any (beginF p) HWP.out 0 (by decide) (p : Int) nilS _ [] (bs.take ki) W (SB_nil _) h2 (by simp; omega)).mono ?_
          rintro e w' ⟨sl', rfl, hown, hbb⟩
          simp only [List.nil_append] at hown ⊢
          rw [← HST1.out] at hown ⊢
          obtain ⟨A', c', rfl, hs', -⟩ := (SB_of_own hown (by have := HW1.out.2.2; simp at this; omega)).shape
          exact ⟨_, rfl, _, rfl, fun vs' h _ => ⟨A', c', h (fun e => by cases e), hs'⟩, hbb, hS.trans (hbb.mono hS.size)⟩
        | 5, _, rfl => exact ow_move _ rfl (hag 1 rfl) ⟨_, rfl, fun vs' h _ => h (fun e => by cases e), hbr, hS⟩
        | 6, _, rfl => exact ow_move _ rfl (hag 13 rfl) ⟨_, rfl, fun vs' h _ => h (fun e => by cases e), hbr, hS⟩
        | 7, _, rfl => exact ow_move _ rfl (hag 14 rfl) ⟨_, rfl, fun vs' h _ => h (fun e => by cases e), hbr, hS⟩
        | 8, _, rfl =>
          have h1 : ac.eval (.tmp 58) = .slice A bs.length c := hdep 5 (by omega) (by kernel_rfl)
          have h2 : ac.eval (.tmp 59) = .int .i64 (ki : Int) := hdep 6 (by omega) (by kernel_rfl)
          have h3 : ac.eval (.tmp 60) = .int .i64 (kk : Int) := hdep 7 (by omega) (by kernel_rfl)
          exact ow_cut _ _ _ rfl h1 (HS.out.below hS) ki kk h2 h3 hkk1 hkk2 (fun v' hv' => ⟨_, rfl, fun vs' h _ => by rw [h (fun e => by cases e)]; exact hv', hbr, hS⟩)
        | 9, _, rfl =>
          obtain ⟨A', c', h1, h2⟩ := hdep 4 (by omega) (by kernel_rfl)
          have h1 : ac.eval (.tmp 57) = .agg (dgV st1.1 (.slice A' st1.2.2.length c') st1.2.1 (p : Int)) := h1
          have h3 : SB W (ac.eval (.tmp 61)) ((bs.drop ki).take (kk - ki)) := hdep 8 (by omega) (by kernel_rfl)
          refine ow_call Try.func11 (by kernel_rfl) rfl _ _ rfl (vs := #[.agg (dgV st1.1 (.slice A' st1.2.2.length c') st1.2.1 (p : Int)), ac.eval (.tmp 61)]) (by simp only [List.map_toArray, List.map_cons, List.map_nil, h1]) ?_
          refine (Write_any st1.1 HW1.out.1 st1.2.1 HW1.out.2.1 (p : Int) _ _ st1.2.2 _ W h2 h3 (by have := HW1.out.2.2; simp at this ⊢; omega)).mono ?_
          rintro e w' ⟨sl', rfl, hown, hbb⟩
          rw [HAPP.out] at hown ⊢
          obtain ⟨A2, c2, rfl, hs', -⟩ := (SB_of_own hown (by have := HW2.out.2.2; simp at this; omega)).shape
          exact ⟨_, rfl, _, rfl, fun vs' h _ => ⟨A2, c2, h (fun e => by cases e), hs'⟩, hbb, hS.trans (hbb.mono hS.size)⟩
        | 10, _, rfl => exact ow_alloc_row 33 rfl _ (zero33 W) (fun w' hn hb => ⟨_, rfl, fun vs' h _ => ⟨_, h (fun e => by cases e), hS.size, hn⟩, hb, hS.trans (hb.mono hS.size)⟩)
        | n + 11, hi, _ => exact absurd hi (by omega)
      case fin =>
        intro vs W hS hF
        obtain ⟨A1, c1, e9, hs9⟩ := hF 9 (by omega)
        obtain ⟨x, e10, hx1, hx2⟩ := hF 10 (by omega)
        clear hF
        change wpList _ _ _ _ (Act.put (Act.put (Act.put (Act.put (Act.put (Act.put (Act.put (Act.put (Act.put (Act.put (Act.put _ (some 53) (vs 0)) (some 54) (vs 1)) (some 55) (vs 2)) (some 56) (vs 3)) (some 57) (vs 4)) (some 58) (vs 5)) (some 59) (vs 6)) (some 60) (vs 7)) (some 61) (vs 8)) (some 62) (vs 9)) (some 15) (vs 10)) W
        rw [e9, e10]
        clear e9 e10
        generalize vs 0 = z0
        generalize vs 1 = z1
        generalize vs 2 = z2
        generalize vs 3 = z3
        generalize vs 4 = z4
        generalize vs 5 = z5
        generalize vs 6 = z6
        generalize vs 7 = z7
        generalize vs 8 = z8
        simp only [putAll, List.drop_succ_cons, List.drop_zero, Act.put, List.setIfInBounds_toArray, List.set_cons_zero, List.set_cons_succ]
        clear vs
        have HX := Lib.hid hx2
        have HS9 := Lib.hid hs9
        have HBW := Lib.hid (HB3.out.trans (hS.mono HB3.out.size))
        have HSW := Lib.hid (HS.out.below hS)
        have HUW := Lib.hid ((HU.out.below HB3.out).below hS)
        have hxw : w.heap.size ≤ x := by have := HB3.out.size; omega
        have hkeep : ∀ (k : Nat) (o : Obj), wc.heap[k]? = some o → W.heap[k]? = some o ∧ k ≠ x := fun k o h => ⟨blk_below h hS, by have := blk_lt h; omega⟩
        clear hkeep hS hx2 hs9 HS HB3 HT3
        go_upto_region 9 with (refine wpList_store_row rfl 33 _ _ rfl x rfl 33 _ _ rfl HX.out (by rw [dgV_size HW2.out.1.1]; rfl) (by rw [dgV_size HW2.out.1.1]; kernel_rfl) (dgV_one _ _ rfl) ?_; intro w6 hT6 hS6 hG6; have HT6 := Lib.hid hT6; have HG6 := Lib.hid hG6; clear hT6 hS6 hG6)
        have hd6 : DgAt x st2.1 st2.2.1 (p : Int) (.slice A1 st2.2.2.length c1) st2.2.2 w6 := ⟨HT6.out, HS9.out.grown33 HX.out (dgV_nobyte _ _) HG6.out, HW2.out.1, HW2.out.2.1⟩
        have HD6 := Lib.hid hd6
        have HS6 := Lib.hid (HSW.out.grown33 HX.out (dgV_nobyte _ _) HG6.out)
        have HU6 := Lib.hid (HUW.out.grown33 HX.out (dgV_nobyte _ _) HG6.out)
        have HB6 := Lib.hid (HBW.out.grown HG6.out HBW.out.size (fun k e => by injection e with e; omega))
        clear hd6 HT6 HG6 HX HS9 HBW HSW HUW
        obtain ⟨st3, hst3⟩ : ∃ st, st = writeL bs.length (beginF p) 0 bs := ⟨_, rfl⟩
        obtain ⟨st4, hst4⟩ : ∃ st, st = writeL (bs.take kk ++ os).length (beginF p) 0 (bs.take kk ++ os) := ⟨_, rfl⟩
        have hw3 := writeL_wds bs.length (beginF p) 0 bs HWP.out (by decide)
        have hw4 := writeL_wds (bs.take kk ++ os).length (beginF p) 0 (bs.take kk ++ os) HWP.out (by decide)
        have happ3 := writeL_append (bs.take kk).length (beginF p) 0 (bs.take kk) (bs.drop kk) (Nat.le_refl _)
        have happ4 := writeL_append (bs.take kk).length (beginF p) 0 (bs.take kk) os (Nat.le_refl _)
        rw [List.take_append_drop, ← HST2.out, ← hst3] at happ3
        rw [← HST2.out, ← hst4] at happ4
        rw [← hst3] at hw3
        rw [← hst4] at hw4
        have HW3 := Lib.hid hw3
        have HW4 := Lib.hid hw4
        have HAPP3 := Lib.hid happ3
        have HAPP4 := Lib.hid happ4
        have HST3 := Lib.hid hst3
        have HST4 := Lib.hid hst4
        clear hw3 hw4 happ3 happ4 hst3 hst4
        refine region_d 12 (fun k => decide (8 ≤ k ∧ k < 10)) (fun k j => decide (10 ≤ k ∧ k < 12 ∧ j + 2 = k)) (fun i vs W => match i with
            | 0 => vs 0 = .agg (dgV st2.1 (.slice A1 st2.2.2.length c1) st2.2.1 (p : Int))
            | 1 => vs 1 = .slice A bs.length c
            | 2 => vs 2 = .int .i64 (kk : Int)
            | 3 => SB W (vs 3) (bs.drop kk)
            | 4 => ∃ A' c', vs 4 = .agg (dgV st3.1 (.slice A' st3.2.2.length c') st3.2.1 (p : Int)) ∧ SB W (.slice A' st3.2.2.length c') st3.2.2
            | 5 => vs 5 = .agg (dgV st2.1 (.slice A1 st2.2.2.length c1) st2.2.1 (p : Int))
            | 6 => vs 6 = .slice B os.length d
            | 7 => ∃ A' c', vs 7 = .agg (dgV st4.1 (.slice A' st4.2.2.length c') st4.2.1 (p : Int)) ∧ SB W (.slice A' st4.2.2.length c') st4.2.2
            | 8 => ∃ y, vs 8 = .pointer (some ⟨y, 0, none⟩) ∧ w6.heap.size ≤ y ∧ W.heap[y]? = some (.cells (dgV (List.replicate 8 0) nilS 0 0) 33 (0, 0))
            | 9 => ∃ y, vs 9 = .pointer (some ⟨y, 0, none⟩) ∧ w6.heap.size ≤ y ∧ W.heap[y]? = some (.cells (dgV (List.replicate 8 0) nilS 0 0) 33 (0, 0))
            | 10 => ∃ y A' c', vs 8 = .pointer (some ⟨y, 0, none⟩) ∧ w6.heap.size ≤ y ∧ W.heap[y]? = some (.cells (dgV st3.1 (.slice A' st3.2.2.length c') st3.2.1 (p : Int)) 33 (0, 0)) ∧ SB W (.slice A' st3.2.2.length c') st3.2.2
            | 11 => ∃ y A' c', vs 9 = .pointer (some ⟨y, 0, none⟩) ∧ w6.heap.size ≤ y ∧ W.heap[y]? = some (.cells (dgV st4.1 (.slice A' st4.2.2.length c') st4.2.1 (p : Int)) 33 (0, 0)) ∧ SB W (.slice A' st4.2.2.length c') st4.2.2
            | _ => True) (fun k vs W W' => (¬ (10 ≤ k ∧ k < 12) → Below W.heap.size W W') ∧ (10 ≤ k ∧ k < 12 → ∃ y cs, vs (k - 2) = .pointer (some ⟨y, 0, none⟩) ∧ W.heap[y]? = some (.cells cs 33 (0, 0)) ∧ (∀ (i : Nat) (z : Int), cs[i]? ≠ some (Value.int .u8 z)) ∧ W.grownBy W' (some y))) (fun W => Below w6.heap.size w6 W) (by kernel_rfl) (by kernel_rfl) ?hAl9 ?hst9 ?h09 ?step9 ?fin9
        case hAl9 =>
          intro i hi
          have hi : 8 ≤ i ∧ i < 10 := of_decide_eq_true hi
          have h : i = 8 ∨ i = 9 := by omega
          rcases h with rfl | rfl <;> exact ⟨by decide, by decide⟩
        case hst9 =>
          intro i k vs va W W' hki hnd hnc hag hdis h hG
          by_cases hk : 10 ≤ k ∧ k < 12
          · obtain ⟨y, cs, hvp, hx, hnb, hgr⟩ := hG.2 hk
            have hkk' : k = 10 ∨ k = 11 := by omega
            rcases hkk' with rfl | rfl
            · match i, h with
              | 0, h => exact h
              | 1, h => exact h
              | 2, h => exact h
              | 5, h => exact h
              | 6, h => exact h
              | 4, ⟨A', c', h1, h2⟩ => exact ⟨A', c', h1, h2.grown33 hx hnb hgr⟩
              | 7, ⟨A', c', h1, h2⟩ => exact ⟨A', c', h1, h2.grown33 hx hnb hgr⟩
              | 3, h => exact SB.grown33 h hx hnb hgr
              | 8, _ => exact absurd hnc (by decide)
              | 9, ⟨y', e', hB', hc'⟩ =>
                refine ⟨y', e', hB', blk_grown hc' hgr (fun e => ?_)⟩
                have e1 := Option.some.inj e
                exact hdis 9 8 (by decide) (by decide) (by decide) (.inl (.inl rfl)) (.inr (.inr (by kernel_rfl))) (by rw [← hag 9 (.inl rfl), e', e1]; exact hvp.symm)
              | 10, _ => exact absurd rfl hki
              | 11, _ => exact absurd (hnd.symm.trans (by kernel_rfl)) Bool.false_ne_true
              | n + 12, _ => trivial
            · match i, h with
              | 0, h => exact h
              | 1, h => exact h
              | 2, h => exact h
              | 5, h => exact h
              | 6, h => exact h
              | 4, ⟨A', c', h1, h2⟩ => exact ⟨A', c', h1, h2.grown33 hx hnb hgr⟩
              | 7, ⟨A', c', h1, h2⟩ => exact ⟨A', c', h1, h2.grown33 hx hnb hgr⟩
              | 3, h => exact SB.grown33 h hx hnb hgr
              | 9, _ => exact absurd hnc (by decide)
              | 8, ⟨y', e', hB', hc'⟩ =>
                refine ⟨y', e', hB', blk_grown hc' hgr (fun e => ?_)⟩
                have e1 := Option.some.inj e
                exact hdis 8 9 (by decide) (by decide) (by decide) (.inl (.inl rfl)) (.inr (.inr (by kernel_rfl))) (by rw [← hag 8 (.inl rfl), e', e1]; exact hvp.symm)
              | 10, ⟨y', A', c', e', hB', hc', h5⟩ =>
                refine ⟨y', A', c', e', hB', blk_grown hc' hgr (fun e => ?_), h5.grown33 hx hnb hgr⟩
                have e1 := Option.some.inj e
                exact hdis 8 9 (by decide) (by decide) (by decide) (.inl (.inr (by kernel_rfl))) (.inr (.inr (by kernel_rfl))) (by rw [← hag 8 (.inr (by kernel_rfl)), e', e1]; exact hvp.symm)
              | 11, _ => exact absurd rfl hki
              | n + 12, _ => trivial
          · have hbb := hG.1 hk
            match i, h with
            | 0, h => exact h
            | 1, h => exact h
            | 2, h => exact h
            | 5, h => exact h
            | 6, h => exact h
            | 4, ⟨A', c', h1, h2⟩ => exact ⟨A', c', h1, h2.below hbb⟩
            | 7, ⟨A', c', h1, h2⟩ => exact ⟨A', c', h1, h2.below hbb⟩
            | 3, h => exact SB.below h hbb
            | 8, ⟨y', e', hB', hc'⟩ => exact ⟨y', e', hB', blk_below hc' hbb⟩
            | 9, ⟨y', e', hB', hc'⟩ => exact ⟨y', e', hB', blk_below hc' hbb⟩
            | 10, ⟨y', A', c', e', hB', hc', h5⟩ => exact ⟨y', A', c', e', hB', blk_below hc' hbb, h5.below hbb⟩
            | 11, ⟨y', A', c', e', hB', hc', h5⟩ => exact ⟨y', A', c', e', hB', blk_below hc' hbb, h5.below hbb⟩
            | n + 12, _ => trivial
        case h09 => exact (Below.refl _ _).drew
        case step9 =>
         intro i op hi ho ac W hS hag hdep
         have hbr : Below W.heap.size W W := Below.refl _ _
         match i, hi, ho with
        | 0, _, rfl => exact ow_load_row 33 _ rfl x (hag 15 rfl) 33 _ (0, 0) _ (HD6.out.below hS).row Try.underlying33 rfl (by rw [dgV_size HW2.out.1.1]; kernel_rfl) ⟨_, rfl, fun vs' h _ => h (fun e => by cases e), fun _ _ _ => ⟨fun _ => hbr, fun h => absurd h (by decide)⟩, hS, Nat.le_refl _, fun h => absurd h (by decide)⟩
        | 1, _, rfl => exact ow_move _ rfl (hag 1 rfl) ⟨_, rfl, fun vs' h _ => h (fun e => by cases e), fun _ _ _ => ⟨fun _ => hbr, fun h => absurd h (by decide)⟩, hS, Nat.le_refl _, fun h => absurd h (by decide)⟩
        | 2, _, rfl => exact ow_move _ rfl (hag 14 rfl) ⟨_, rfl, fun vs' h _ => h (fun e => by cases e), fun _ _ _ => ⟨fun _ => hbr, fun h => absurd h (by decide)⟩, hS, Nat.le_refl _, fun h => absurd h (by decide)⟩
        | 3, _, rfl =>
          have h1 : ac.eval (.tmp 64) = .slice A bs.length c := hdep 1 (by omega) (by kernel_rfl) (fun k _ h => by have h := of_decide_eq_true h; omega)
          have h2 : ac.eval (.tmp 65) = .int .i64 (kk : Int) := hdep 2 (by omega) (by kernel_rfl) (fun k _ h => by have h := of_decide_eq_true h; omega)
          exact ow_cut_from _ _ rfl h1 (HS6.out.below hS) kk h2 hkk2 (fun v' hv' => ⟨_, rfl, fun vs' h _ => by rw [h (fun e => by cases e)]; exact hv', fun _ _ _ => ⟨fun _ => hbr, fun h => absurd h (by decide)⟩, hS, Nat.le_refl _, fun h => absurd h (by decide)⟩)
        | 4, _, rfl =>
          have h1 : ac.eval (.tmp 63) = .agg (dgV st2.1 (.slice A1 st2.2.2.length c1) st2.2.1 (p : Int)) := hdep 0 (by omega) (by kernel_rfl) (fun k _ h => by have h := of_decide_eq_true h; omega)
          have h2 : SB W (ac.eval (.tmp 66)) (bs.drop kk) := hdep 3 (by omega) (by kernel_rfl) (fun k _ h => by have h := of_decide_eq_true h; omega)
          refine ow_call Try.func11 (by kernel_rfl) rfl _ _ rfl (vs := #[.agg (dgV st2.1 (.slice A1 st2.2.2.length c1) st2.2.1 (p : Int)), ac.eval (.tmp 66)]) (by simp only [List.map_toArray, List.map_cons, List.map_nil, h1]) ?_
          refine (Write_any st2.1 HW2.out.1 st2.2.1 HW2.out.2.1 (p : Int) _ _ st2.2.2 (bs.drop kk) W (HD6.out.below hS).data h2 (by have := HW2.out.2.2; simp at this ⊢; omega)).mono ?_
          rintro e w' ⟨sl', rfl, hown, hbb⟩
          rw [HAPP3.out] at hown ⊢
          obtain ⟨A', c', rfl, hs', -⟩ := (SB_of_own hown (by have := HW3.out.2.2; (try simp only [List.length_append, List.length_take] at this); omega)).shape
          exact ⟨_, rfl, _, rfl, fun vs' h _ => ⟨A', c', h (fun e => by cases e), hs'⟩, fun _ _ _ => ⟨fun _ => hbb, fun h => absurd h (by decide)⟩, hS.trans (hbb.mono hS.size), hbb.size, fun h => absurd h (by decide)⟩
        | 5, _, rfl => exact ow_load_row 33 _ rfl x (hag 15 rfl) 33 _ (0, 0) _ (HD6.out.below hS).row Try.underlying33 rfl (by rw [dgV_size HW2.out.1.1]; kernel_rfl) ⟨_, rfl, fun vs' h _ => h (fun e => by cases e), fun _ _ _ => ⟨fun _ => hbr, fun h => absurd h (by decide)⟩, hS, Nat.le_refl _, fun h => absurd h (by decide)⟩
        | 6, _, rfl => exact ow_move _ rfl (hag 2 rfl) ⟨_, rfl, fun vs' h _ => h (fun e => by cases e), fun _ _ _ => ⟨fun _ => hbr, fun h => absurd h (by decide)⟩, hS, Nat.le_refl _, fun h => absurd h (by decide)⟩
        | 7, _, rfl =>
          have h1 : ac.eval (.tmp 68) = .agg (dgV st2.1 (.slice A1 st2.2.2.length c1) st2.2.1 (p : Int)) := hdep 5 (by omega) (by kernel_rfl) (fun k _ h => by have h := of_decide_eq_true h; omega)
          have h0 : ac.eval (.tmp 69) = .slice B os.length d := hdep 6 (by omega) (by kernel_rfl) (fun k _ h => by have h := of_decide_eq_true h; omega)
          have h2 : SB W (ac.eval (.tmp 69)) os := by rw [h0]; exact HU6.out.below hS
          refine ow_call Try.func11 (by kernel_rfl) rfl _ _ rfl (vs := #[.agg (dgV st2.1 (.slice A1 st2.2.2.length c1) st2.2.1 (p : Int)), ac.eval (.tmp 69)]) (by simp only [List.map_toArray, List.map_cons, List.map_nil, h1]) ?_
          refine (Write_any st2.1 HW2.out.1 st2.2.1 HW2.out.2.1 (p : Int) _ _ st2.2.2 os W (HD6.out.below hS).data h2 (by have := HW2.out.2.2; simp at this ⊢; omega)).mono ?_
          rintro e w' ⟨sl', rfl, hown, hbb⟩
          rw [HAPP4.out] at hown ⊢
          obtain ⟨A', c', rfl, hs', -⟩ := (SB_of_own hown (by have := HW4.out.2.2; simp at this; omega)).shape
          exact ⟨_, rfl, _, rfl, fun vs' h _ => ⟨A', c', h (fun e => by cases e), hs'⟩, fun _ _ _ => ⟨fun _ => hbb, fun h => absurd h (by decide)⟩, hS.trans (hbb.mono hS.size), hbb.size, fun h => absurd h (by decide)⟩
        | 8, _, rfl => exact ow_alloc_row 33 rfl _ (zero33 W) (fun w' hn hb => ⟨_, rfl, fun vs' h _ => ⟨_, h (fun e => by cases e), hS.size, hn⟩, fun vs' _ _ => ⟨fun _ => hb, fun h => absurd h (by decide)⟩, hS.trans (hb.mono hS.size), hb.size, fun _ => ⟨_, rfl, Nat.le_refl _, blk_lt hn⟩⟩)
        | 9, _, rfl => exact ow_alloc_row 33 rfl _ (zero33 W) (fun w' hn hb => ⟨_, rfl, fun vs' h _ => ⟨_, h (fun e => by cases e), hS.size, hn⟩, fun vs' _ _ => ⟨fun _ => hb, fun h => absurd h (by decide)⟩, hS.trans (hb.mono hS.size), hb.size, fun _ => ⟨_, rfl, Nat.le_refl _, blk_lt hn⟩⟩)
        | 10, _, rfl =>
          obtain ⟨y, h1, h2, h3⟩ := hdep 8 (by omega) (by kernel_rfl) (fun k _ h => by have h := of_decide_eq_true h; left; omega)
          have h1 : ac.eval (.tmp 16) = .pointer (some ⟨y, 0, none⟩) := h1
          obtain ⟨A', c', h4, h5⟩ := hdep 4 (by omega) (by kernel_rfl) (fun k _ h => by have h := of_decide_eq_true h; omega)
          have h4 : ac.eval (.tmp 67) = .agg (dgV st3.1 (.slice A' st3.2.2.length c') st3.2.1 (p : Int)) := h4
          refine wp_store_row 33 _ _ rfl y h1 33 _ _ h4 h3 (by rw [dgV_size HW3.out.1.1]; rfl) (by rw [dgV_size HW3.out.1.1]; kernel_rfl) (dgV_one _ _ rfl) (fun w' hT hsz hgr => ?_)
          refine ⟨_, rfl, fun vs' _ hv => ⟨y, A', c', (hv 8 (by kernel_rfl)).trans h1, h2, hT, h5.grown33 h3 (dgV_nobyte _ _) hgr⟩, fun vs' _ hv => ⟨fun h => absurd h (by decide), fun _ => ⟨y, _, (hv 8 (by kernel_rfl)).trans h1, h3, dgV_nobyte _ _, hgr⟩⟩, hS.grown hgr hS.size (fun j e => by injection e with e; omega), by omega, fun h => absurd h (by decide)⟩
        | 11, _, rfl =>
          obtain ⟨y, h1, h2, h3⟩ := hdep 9 (by omega) (by kernel_rfl) (fun k _ h => by have h := of_decide_eq_true h; left; omega)
          have h1 : ac.eval (.tmp 17) = .pointer (some ⟨y, 0, none⟩) := h1
          obtain ⟨A', c', h4, h5⟩ := hdep 7 (by omega) (by kernel_rfl) (fun k _ h => by have h := of_decide_eq_true h; omega)
          have h4 : ac.eval (.tmp 70) = .agg (dgV st4.1 (.slice A' st4.2.2.length c') st4.2.1 (p : Int)) := h4
          refine wp_store_row 33 _ _ rfl y h1 33 _ _ h4 h3 (by rw [dgV_size HW4.out.1.1]; rfl) (by rw [dgV_size HW4.out.1.1]; kernel_rfl) (dgV_one _ _ rfl) (fun w' hT hsz hgr => ?_)
          refine ⟨_, rfl, fun vs' _ hv => ⟨y, A', c', (hv 9 (by kernel_rfl)).trans h1, h2, hT, h5.grown33 h3 (dgV_nobyte _ _) hgr⟩, fun vs' _ hv => ⟨fun h => absurd h (by decide), fun _ => ⟨y, _, (hv 9 (by kernel_rfl)).trans h1, h3, dgV_nobyte _ _, hgr⟩⟩, hS.grown hgr hS.size (fun j e => by injection e with e; omega), by omega, fun h => absurd h (by decide)⟩
        | n + 12, hi, _ => exact absurd hi (by omega)
        case fin9 =>
          intro vs W hS hF
          obtain ⟨x3, A3, c3, e8, hx30, hx31, hx32⟩ := hF 10 (by omega) (fun k hk => decide_eq_false (by omega))
          obtain ⟨x4, A4, c4, e9, hx40, hx41, hx42⟩ := hF 11 (by omega) (fun k hk => decide_eq_false (by omega))
          clear hF
          change wpList _ _ _ _ (Act.put (Act.put (Act.put (Act.put (Act.put (Act.put (Act.put (Act.put (Act.put (Act.put (Act.put (Act.put _ (some 63) (vs 0)) (some 64) (vs 1)) (some 65) (vs 2)) (some 66) (vs 3)) (some 67) (vs 4)) (some 68) (vs 5)) (some 69) (vs 6)) (some 70) (vs 7)) (some 16) (vs 8)) (some 17) (vs 9)) none (vs 10)) none (vs 11)) W
          rw [e8, e9]
          clear e8 e9
          generalize vs 0 = y0
          generalize vs 1 = y1
          generalize vs 2 = y2
          generalize vs 3 = y3
          generalize vs 4 = y4
          generalize vs 5 = y5
          generalize vs 6 = y6
          generalize vs 7 = y7
          generalize vs 10 = y10
          generalize vs 11 = y11
          simp only [putAll, List.drop_succ_cons, List.drop_zero, Act.put, List.setIfInBounds_toArray, List.set_cons_zero, List.set_cons_succ]
          clear vs
          have D3 := Lib.hid (show DgAt x3 st3.1 st3.2.1 (p : Int) (.slice A3 st3.2.2.length c3) st3.2.2 W from ⟨hx31, hx32, HW3.out.1, HW3.out.2.1⟩)
          have D4 := Lib.hid (show DgAt x4 st4.1 st4.2.1 (p : Int) (.slice A4 st4.2.2.length c4) st4.2.2 W from ⟨hx41, hx42, HW4.out.1, HW4.out.2.1⟩)
          have HSW := Lib.hid (HS6.out.below hS)
          have HUW := Lib.hid (HU6.out.below hS)
          have HBW := Lib.hid (HB6.out.trans (hS.mono HB6.out.size))
          clear hS hx30 hx31 hx32 hx40 hx41 hx42 HS6 HU6 HB6 HD6
          go_wp2_with fail
          have hba := below_alloc1 W (.cells #[Value.slice A bs.length c] 24)
          refine (Of_any p (by omega) (by omega) _ [bs] _ (SBB_one (World.alloc_heap_new _ _) (HSW.out.below hba)) (by simp; omega)).mono ?_
          rintro e w7 ⟨v1, rfl, hown1, hb7⟩
          have hfl : ([bs] : List (List UInt8)).flatten = bs := by simp
          rw [hfl] at hown1
          have hb17 := hba.trans (hb7.mono hba.size)
          have D37 := Lib.hid (D3.out.below hb17)
          have D47 := Lib.hid (D4.out.below hb17)
          have HS7 := Lib.hid (HSW.out.below hb17)
          have HU7 := Lib.hid (HUW.out.below hb17)
          have HB7 := Lib.hid (HBW.out.trans (hb17.mono HBW.out.size))
          have HO1 := Lib.hid hown1
          have hlo : (ofF p bs).length = p := outF_length _ _
          obtain ⟨A5, c5, rfl, hs5, -⟩ := (SB_of_own (bs := ofF p bs) (by rw [hlo]; exact hown1) (by rw [hlo]; omega)).shape
          have HS5 := Lib.hid hs5
          rw [hlo]
          clear hba hb7 hb17 hown1 hfl D3 D4 HSW HUW HBW HO1 hs5
          go_wp2_with (refine wpList_plain rfl fun K hK => ow_cut_to _ _ rfl rfl HS7.out kk rfl hkk2 (fun v' hv' => ?_); obtain ⟨A6, c6, rfl, hs6, -⟩ := hv'.shape; have HS6 := Lib.hid hs6; clear hs6 hv'; refine hK _ _ ?_)
          have hlk : (bs.take kk).length = kk := by simp; omega
          rw [hlk] at HS6
          have hba := below_alloc1 w7 (.cells #[Value.slice A6 kk c6, Value.slice B os.length d] 24)
          refine (Of_any p (by omega) (by omega) _ [bs.take kk, os] _ (SBB_two (World.alloc_heap_new _ _) (HS6.out.below hba) (HU7.out.below hba)) (by simp; omega)).mono ?_
          rintro e w8 ⟨v2, rfl, hown2, hb8⟩
          have hfl : ([bs.take kk, os] : List (List UInt8)).flatten = bs.take kk ++ os := by simp
          rw [hfl] at hown2
          have hb78 := hba.trans (hb8.mono hba.size)
          have D38 := Lib.hid (D37.out.below hb78)
          have D48 := Lib.hid (D47.out.below hb78)
          have HR1 := Lib.hid (HS5.out.below hb78)
          have HB8 := Lib.hid (HB7.out.trans (hb78.mono HB7.out.size))
          have hlo2 : (ofF p (bs.take kk ++ os)).length = p := outF_length _ _
          obtain ⟨A7, c7, rfl, hs7, -⟩ := (SB_of_own (bs := ofF p (bs.take kk ++ os)) (by rw [hlo2]; exact hown2) (by rw [hlo2]; omega)).shape
          have HR2 := Lib.hid hs7
          rw [hlo2]
          clear hba hb8 hb78 hown2 hfl D37 D47 HS5 HS6 HS7 HU7 HB7 hs7
          go_wp2_with fail
          have hlo1 : (ofF p bs).length = p := outF_length _ _
          have hlo2 : (ofF p (bs.take kk ++ os)).length = p := outF_length _ _
          have hr1 := HR1.out
          have hr2 := HR2.out
          rw [hlo1] at hr1
          rw [hlo2] at hr2
          have HR1x := Lib.hid hr1
          have HR2x := Lib.hid hr2
          have HE3 := Lib.hid (show outF (lastF st3.1 st3.2.1 st3.2.2) p = ofF p bs by unfold ofF; rw [← HST3.out])
          have HE4 := Lib.hid (show outF (lastF st4.1 st4.2.1 st4.2.2) p = ofF p (bs.take kk ++ os) by unfold ofF; rw [← HST4.out])
          have hl3 : st3.2.2.length ≤ 64 := by rw [HST3.out]; exact writeL_rest _ _ _ _ (Nat.le_refl _)
          have hl4 : st4.2.2.length ≤ 64 := by rw [HST4.out]; exact writeL_rest _ _ _ _ (Nat.le_refl _)
          clear hlo1 hlo2 hr1 hr2 HR1 HR2
          refine region_g 39 (fun _ _ => false) (fun i vs W => match i with
              | 0 => vs 0 = .int .i64 0
              | 1 => vs 1 = .bool true
              | 2 => vs 2 = .bool true
              | 3 => vs 3 = .int .i64 0
              | 4 => vs 4 = .bool true
              | 5 => vs 5 = .bool true
              | 6 => vs 6 = .bool true
              | 7 => vs 7 = .agg (dgV st3.1 (.slice A3 st3.2.2.length c3) st3.2.1 (p : Int))
              | 8 => SB W (vs 8) (ofF p bs)
              | 9 => vs 9 = .string ⟨(ofF p bs).toArray⟩
              | 10 => vs 10 = .slice A5 p c5
              | 11 => vs 11 = .string ⟨(ofF p bs).toArray⟩
              | 12 => vs 12 = .bool true
              | 13 => vs 13 = .bool true
              | 14 => vs 14 = .bool true
              | 15 => vs 15 = .agg (dgV st4.1 (.slice A4 st4.2.2.length c4) st4.2.1 (p : Int))
              | 16 => SB W (vs 16) (ofF p (bs.take kk ++ os))
              | 17 => vs 17 = .string ⟨(ofF p (bs.take kk ++ os)).toArray⟩
              | 18 => vs 18 = .slice A7 p c7
              | 19 => vs 19 = .string ⟨(ofF p (bs.take kk ++ os)).toArray⟩
              | 20 => vs 20 = .bool true
              | 21 => vs 21 = .bool true
              | 22 => vs 22 = .bool true
              | 23 => vs 23 = .slice A5 p c5
              | 24 => vs 24 = .int .i64 (p : Int)
              | 25 => vs 25 = .int .i64 (p : Int)
              | 26 => vs 26 = .bool true
              | 27 => vs 27 = .bool true
              | 28 => vs 28 = .bool true
              | 29 => vs 29 = .agg (dgV st3.1 (.slice A3 st3.2.2.length c3) st3.2.1 (p : Int))
              | 30 => SB W (vs 30) (ofF p bs)
              | 31 => vs 31 = .string ⟨(ofF p bs).toArray⟩
              | 32 => vs 32 = .slice A5 p c5
              | 33 => vs 33 = .string ⟨(ofF p bs).toArray⟩
              | 34 => vs 34 = .bool true
              | 35 => vs 35 = .bool true
              | 36 => vs 36 = .bool true
              | 37 => vs 37 = .bool true
              | 38 => vs 38 = .bool true
              | _ => True) (fun _ W W' => Below W.heap.size W W') (fun W => Below w8.heap.size w8 W) (by kernel_rfl) (by kernel_rfl) ?hst12 ?h012 ?step12 ?fin12
          case hst12 =>
           intro i k vs W W' _ _ _ h hG
           match i, h with
          | 0, h => exact h
          | 1, h => exact h
          | 2, h => exact h
          | 3, h => exact h
          | 4, h => exact h
          | 5, h => exact h
          | 6, h => exact h
          | 7, h => exact h
          | 8, h => exact SB.below h hG
          | 9, h => exact h
          | 10, h => exact h
          | 11, h => exact h
          | 12, h => exact h
          | 13, h => exact h
          | 14, h => exact h
          | 15, h => exact h
          | 16, h => exact SB.below h hG
          | 17, h => exact h
          | 18, h => exact h
          | 19, h => exact h
          | 20, h => exact h
          | 21, h => exact h
          | 22, h => exact h
          | 23, h => exact h
          | 24, h => exact h
          | 25, h => exact h
          | 26, h => exact h
          | 27, h => exact h
          | 28, h => exact h
          | 29, h => exact h
          | 30, h => exact SB.below h hG
          | 31, h => exact h
          | 32, h => exact h
          | 33, h => exact h
          | 34, h => exact h
          | 35, h => exact h
          | 36, h => exact h
          | 37, h => exact h
          | 38, h => exact h
          | n + 39, _ => trivial
          case h012 => exact (Below.refl _ _).drew
          case step12 =>
           intro i op hi ho ac W hS hag hdep
           have hbr : Below W.heap.size W W := Below.refl _ _
           match i, hi, ho with
          | 0, _, rfl =>
            refine gstep rfl ?_
            exact ow_move _ rfl (hag 19 rfl) ⟨_, rfl, fun vs' h _ => h (fun e => by cases e), hbr, hS⟩
          | 1, _, rfl =>
            have h1 : ac.eval (.tmp 88) = .int .i64 0 := hdep 0 (by omega) (by kernel_rfl) (fun k _ h => by cases h)
            refine gstep rfl ?_
            exact ow_eql_int _ _ 27 27 rfl .i64 0 h1 rfl ⟨_, rfl, fun vs' h _ => h (fun e => by cases e), hbr, hS⟩
          | 2, _, rfl =>
            have h1 : ac.eval (.tmp 89) = .bool true := hdep 1 (by omega) (by kernel_rfl) (fun k _ h => by cases h)
            refine gstep rfl ?_
            exact ow_move _ rfl h1 ⟨_, rfl, fun vs' h _ => h (fun e => by cases e), hbr, hS⟩
          | 3, _, rfl =>
            refine gstep (wanted_ok rfl rfl (hdep 2 (by omega) (by kernel_rfl) (fun k _ h => by cases h) : ac.eval (.tmp 90) = .bool true)) ?_
            exact ow_move _ rfl (hag 21 rfl) ⟨_, rfl, fun vs' h _ => h (fun e => by cases e), hbr, hS⟩
          | 4, _, rfl =>
            have h1 : ac.eval (.tmp 91) = .int .i64 0 := hdep 3 (by omega) (by kernel_rfl) (fun k _ h => by cases h)
            refine gstep (wanted_ok rfl rfl (hdep 2 (by omega) (by kernel_rfl) (fun k _ h => by cases h) : ac.eval (.tmp 90) = .bool true)) ?_
            exact ow_eql_int _ _ 27 27 rfl .i64 0 h1 rfl ⟨_, rfl, fun vs' h _ => h (fun e => by cases e), hbr, hS⟩
          | 5, _, rfl =>
            have h1 : ac.eval (.tmp 90) = .bool true := hdep 2 (by omega) (by kernel_rfl) (fun k _ h => by cases h)
            have h2 : ac.eval (.tmp 92) = .bool true := hdep 4 (by omega) (by kernel_rfl) (fun k _ h => by cases h)
            refine gstep rfl ?_
            exact ow_pick _ _ _ rfl true h1 (by rw [if_pos rfl]; exact h2) ⟨_, rfl, fun vs' h _ => h (fun e => by cases e), hbr, hS⟩
          | 6, _, rfl =>
            have h1 : ac.eval (.tmp 93) = .bool true := hdep 5 (by omega) (by kernel_rfl) (fun k _ h => by cases h)
            refine gstep rfl ?_
            exact ow_move _ rfl h1 ⟨_, rfl, fun vs' h _ => h (fun e => by cases e), hbr, hS⟩
          | 7, _, rfl =>
            refine gstep (wanted_ok rfl rfl (hdep 6 (by omega) (by kernel_rfl) (fun k _ h => by cases h) : ac.eval (.tmp 94) = .bool true)) ?_
            exact ow_load_row 33 _ rfl x3 (hag 16 rfl) 33 _ (0, 0) _ (D38.out.below hS).row Try.underlying33 rfl (by rw [dgV_size HW3.out.1.1]; kernel_rfl) ⟨_, rfl, fun vs' h _ => h (fun e => by cases e), hbr, hS⟩
          | 8, _, rfl =>
            have h1 : ac.eval (.tmp 95) = .agg (dgV st3.1 (.slice A3 st3.2.2.length c3) st3.2.1 (p : Int)) := hdep 7 (by omega) (by kernel_rfl) (fun k _ h => by cases h)
            refine gstep (wanted_ok rfl rfl (hdep 6 (by omega) (by kernel_rfl) (fun k _ h => by cases h) : ac.eval (.tmp 94) = .bool true)) ?_
            refine ow_sum _ 33 rfl (D38.out.below hS) hl3 (by omega) (by omega) h1 (fun v' w' hv' hbb => ?_)
            rw [HE3.out] at hv'
            exact ⟨_, rfl, fun vs' h _ => by rw [h (fun e => by cases e)]; exact hv', hbb, hS.trans (hbb.mono hS.size)⟩
          | 9, _, rfl =>
            have h1 : SB W (ac.eval (.tmp 96)) (ofF p bs) := hdep 8 (by omega) (by kernel_rfl) (fun k _ h => by cases h)
            refine gstep (wanted_ok rfl rfl (hdep 6 (by omega) (by kernel_rfl) (fun k _ h => by cases h) : ac.eval (.tmp 94) = .bool true)) ?_
            exact ow_str _ rfl rfl h1 ⟨_, rfl, fun vs' h _ => h (fun e => by cases e), hbr, hS⟩
          | 10, _, rfl =>
            refine gstep (wanted_ok rfl rfl (hdep 6 (by omega) (by kernel_rfl) (fun k _ h => by cases h) : ac.eval (.tmp 94) = .bool true)) ?_
            exact ow_move _ rfl (hag 18 rfl) ⟨_, rfl, fun vs' h _ => h (fun e => by cases e), hbr, hS⟩
          | 11, _, rfl =>
            have h1 : ac.eval (.tmp 98) = .slice A5 p c5 := hdep 10 (by omega) (by kernel_rfl) (fun k _ h => by cases h)
            refine gstep (wanted_ok rfl rfl (hdep 6 (by omega) (by kernel_rfl) (fun k _ h => by cases h) : ac.eval (.tmp 94) = .bool true)) ?_
            exact ow_str _ rfl h1 (HR1x.out.below hS) ⟨_, rfl, fun vs' h _ => h (fun e => by cases e), hbr, hS⟩
          | 12, _, rfl =>
            have h1 : ac.eval (.tmp 97) = .string ⟨(ofF p bs).toArray⟩ := hdep 9 (by omega) (by kernel_rfl) (fun k _ h => by cases h)
            have h2 : ac.eval (.tmp 99) = .string ⟨(ofF p bs).toArray⟩ := hdep 11 (by omega) (by kernel_rfl) (fun k _ h => by cases h)
            refine gstep (wanted_ok rfl rfl (hdep 6 (by omega) (by kernel_rfl) (fun k _ h => by cases h) : ac.eval (.tmp 94) = .bool true)) ?_
            exact ow_eql_str _ _ rfl _ h1 h2 ⟨_, rfl, fun vs' h _ => h (fun e => by cases e), hbr, hS⟩
          | 13, _, rfl =>
            have h1 : ac.eval (.tmp 94) = .bool true := hdep 6 (by omega) (by kernel_rfl) (fun k _ h => by cases h)
            have h2 : ac.eval (.tmp 100) = .bool true := hdep 12 (by omega) (by kernel_rfl) (fun k _ h => by cases h)
            refine gstep rfl ?_
            exact ow_pick _ _ _ rfl true h1 (by rw [if_pos rfl]; exact h2) ⟨_, rfl, fun vs' h _ => h (fun e => by cases e), hbr, hS⟩
          | 14, _, rfl =>
            have h1 : ac.eval (.tmp 101) = .bool true := hdep 13 (by omega) (by kernel_rfl) (fun k _ h => by cases h)
            refine gstep rfl ?_
            exact ow_move _ rfl h1 ⟨_, rfl, fun vs' h _ => h (fun e => by cases e), hbr, hS⟩
          | 15, _, rfl =>
            refine gstep (wanted_ok rfl rfl (hdep 14 (by omega) (by kernel_rfl) (fun k _ h => by cases h) : ac.eval (.tmp 102) = .bool true)) ?_
            exact ow_load_row 33 _ rfl x4 (hag 17 rfl) 33 _ (0, 0) _ (D48.out.below hS).row Try.underlying33 rfl (by rw [dgV_size HW4.out.1.1]; kernel_rfl) ⟨_, rfl, fun vs' h _ => h (fun e => by cases e), hbr, hS⟩
          | 16, _, rfl =>
            have h1 : ac.eval (.tmp 103) = .agg (dgV st4.1 (.slice A4 st4.2.2.length c4) st4.2.1 (p : Int)) := hdep 15 (by omega) (by kernel_rfl) (fun k _ h => by cases h)
            refine gstep (wanted_ok rfl rfl (hdep 14 (by omega) (by kernel_rfl) (fun k _ h => by cases h) : ac.eval (.tmp 102) = .bool true)) ?_
            refine ow_sum _ 33 rfl (D48.out.below hS) hl4 (by omega) (by omega) h1 (fun v' w' hv' hbb => ?_)
            rw [HE4.out] at hv'
            exact ⟨_, rfl, fun vs' h _ => by rw [h (fun e => by cases e)]; exact hv', hbb, hS.trans (hbb.mono hS.size)⟩
          | 17, _, rfl =>
            have h1 : SB W (ac.eval (.tmp 104)) (ofF p (bs.take kk ++ os)) := hdep 16 (by omega) (by kernel_rfl) (fun k _ h => by cases h)
            refine gstep (wanted_ok rfl rfl (hdep 14 (by omega) (by kernel_rfl) (fun k _ h => by cases h) : ac.eval (.tmp 102) = .bool true)) ?_
            exact ow_str _ rfl rfl h1 ⟨_, rfl, fun vs' h _ => h (fun e => by cases e), hbr, hS⟩
          | 18, _, rfl =>
            refine gstep (wanted_ok rfl rfl (hdep 14 (by omega) (by kernel_rfl) (fun k _ h => by cases h) : ac.eval (.tmp 102) = .bool true)) ?_
            exact ow_move _ rfl (hag 20 rfl) ⟨_, rfl, fun vs' h _ => h (fun e => by cases e), hbr, hS⟩
          | 19, _, rfl =>
            have h1 : ac.eval (.tmp 106) = .slice A7 p c7 := hdep 18 (by omega) (by kernel_rfl) (fun k _ h => by cases h)
            refine gstep (wanted_ok rfl rfl (hdep 14 (by omega) (by kernel_rfl) (fun k _ h => by cases h) : ac.eval (.tmp 102) = .bool true)) ?_
            exact ow_str _ rfl h1 (HR2x.out.below hS) ⟨_, rfl, fun vs' h _ => h (fun e => by cases e), hbr, hS⟩
          | 20, _, rfl =>
            have h1 : ac.eval (.tmp 105) = .string ⟨(ofF p (bs.take kk ++ os)).toArray⟩ := hdep 17 (by omega) (by kernel_rfl) (fun k _ h => by cases h)
            have h2 : ac.eval (.tmp 107) = .string ⟨(ofF p (bs.take kk ++ os)).toArray⟩ := hdep 19 (by omega) (by kernel_rfl) (fun k _ h => by cases h)
            refine gstep (wanted_ok rfl rfl (hdep 14 (by omega) (by kernel_rfl) (fun k _ h => by cases h) : ac.eval (.tmp 102) = .bool true)) ?_
            exact ow_eql_str _ _ rfl _ h1 h2 ⟨_, rfl, fun vs' h _ => h (fun e => by cases e), hbr, hS⟩
          | 21, _, rfl =>
            have h1 : ac.eval (.tmp 102) = .bool true := hdep 14 (by omega) (by kernel_rfl) (fun k _ h => by cases h)
            have h2 : ac.eval (.tmp 108) = .bool true := hdep 20 (by omega) (by kernel_rfl) (fun k _ h => by cases h)
            refine gstep rfl ?_
            exact ow_pick _ _ _ rfl true h1 (by rw [if_pos rfl]; exact h2) ⟨_, rfl, fun vs' h _ => h (fun e => by cases e), hbr, hS⟩
          | 22, _, rfl =>
            have h1 : ac.eval (.tmp 109) = .bool true := hdep 21 (by omega) (by kernel_rfl) (fun k _ h => by cases h)
            refine gstep rfl ?_
            exact ow_move _ rfl h1 ⟨_, rfl, fun vs' h _ => h (fun e => by cases e), hbr, hS⟩
          | 23, _, rfl =>
            refine gstep (wanted_ok rfl rfl (hdep 22 (by omega) (by kernel_rfl) (fun k _ h => by cases h) : ac.eval (.tmp 110) = .bool true)) ?_
            exact ow_move _ rfl (hag 18 rfl) ⟨_, rfl, fun vs' h _ => h (fun e => by cases e), hbr, hS⟩
          | 24, _, rfl =>
            have h1 : ac.eval (.tmp 111) = .slice A5 p c5 := hdep 23 (by omega) (by kernel_rfl) (fun k _ h => by cases h)
            refine gstep (wanted_ok rfl rfl (hdep 22 (by omega) (by kernel_rfl) (fun k _ h => by cases h) : ac.eval (.tmp 110) = .bool true)) ?_
            exact ow_len _ 24 5 Try.underlying24 rfl h1 ⟨_, rfl, fun vs' h _ => h (fun e => by cases e), hbr, hS⟩
          | 25, _, rfl =>
            refine gstep (wanted_ok rfl rfl (hdep 22 (by omega) (by kernel_rfl) (fun k _ h => by cases h) : ac.eval (.tmp 110) = .bool true)) ?_
            exact ow_move _ rfl (hag 0 rfl) ⟨_, rfl, fun vs' h _ => h (fun e => by cases e), hbr, hS⟩
          | 26, _, rfl =>
            have h1 : ac.eval (.tmp 112) = .int .i64 (p : Int) := hdep 24 (by omega) (by kernel_rfl) (fun k _ h => by cases h)
            have h2 : ac.eval (.tmp 113) = .int .i64 (p : Int) := hdep 25 (by omega) (by kernel_rfl) (fun k _ h => by cases h)
            refine gstep (wanted_ok rfl rfl (hdep 22 (by omega) (by kernel_rfl) (fun k _ h => by cases h) : ac.eval (.tmp 110) = .bool true)) ?_
            exact ow_eql_int _ _ 3 3 rfl .i64 _ h1 h2 ⟨_, rfl, fun vs' h _ => h (fun e => by cases e), hbr, hS⟩
          | 27, _, rfl =>
            have h1 : ac.eval (.tmp 110) = .bool true := hdep 22 (by omega) (by kernel_rfl) (fun k _ h => by cases h)
            have h2 : ac.eval (.tmp 114) = .bool true := hdep 26 (by omega) (by kernel_rfl) (fun k _ h => by cases h)
            refine gstep rfl ?_
            exact ow_pick _ _ _ rfl true h1 (by rw [if_pos rfl]; exact h2) ⟨_, rfl, fun vs' h _ => h (fun e => by cases e), hbr, hS⟩
          | 28, _, rfl =>
            have h1 : ac.eval (.tmp 115) = .bool true := hdep 27 (by omega) (by kernel_rfl) (fun k _ h => by cases h)
            refine gstep rfl ?_
            exact ow_move _ rfl h1 ⟨_, rfl, fun vs' h _ => h (fun e => by cases e), hbr, hS⟩
          | 29, _, rfl =>
            refine gstep (wanted_ok rfl rfl (hdep 28 (by omega) (by kernel_rfl) (fun k _ h => by cases h) : ac.eval (.tmp 116) = .bool true)) ?_
            exact ow_load_row 33 _ rfl x3 (hag 16 rfl) 33 _ (0, 0) _ (D38.out.below hS).row Try.underlying33 rfl (by rw [dgV_size HW3.out.1.1]; kernel_rfl) ⟨_, rfl, fun vs' h _ => h (fun e => by cases e), hbr, hS⟩
          | 30, _, rfl =>
            have h1 : ac.eval (.tmp 117) = .agg (dgV st3.1 (.slice A3 st3.2.2.length c3) st3.2.1 (p : Int)) := hdep 29 (by omega) (by kernel_rfl) (fun k _ h => by cases h)
            refine gstep (wanted_ok rfl rfl (hdep 28 (by omega) (by kernel_rfl) (fun k _ h => by cases h) : ac.eval (.tmp 116) = .bool true)) ?_
            refine ow_sum _ 33 rfl (D38.out.below hS) hl3 (by omega) (by omega) h1 (fun v' w' hv' hbb => ?_)
            rw [HE3.out] at hv'
            exact ⟨_, rfl, fun vs' h _ => by rw [h (fun e => by cases e)]; exact hv', hbb, hS.trans (hbb.mono hS.size)⟩
          | 31, _, rfl =>
            have h1 : SB W (ac.eval (.tmp 118)) (ofF p bs) := hdep 30 (by omega) (by kernel_rfl) (fun k _ h => by cases h)
            refine gstep (wanted_ok rfl rfl (hdep 28 (by omega) (by kernel_rfl) (fun k _ h => by cases h) : ac.eval (.tmp 116) = .bool true)) ?_
            exact ow_str _ rfl rfl h1 ⟨_, rfl, fun vs' h _ => h (fun e => by cases e), hbr, hS⟩
          | 32, _, rfl =>
            refine gstep (wanted_ok rfl rfl (hdep 28 (by omega) (by kernel_rfl) (fun k _ h => by cases h) : ac.eval (.tmp 116) = .bool true)) ?_
            exact ow_move _ rfl (hag 18 rfl) ⟨_, rfl, fun vs' h _ => h (fun e => by cases e), hbr, hS⟩
          | 33, _, rfl =>
            have h1 : ac.eval (.tmp 120) = .slice A5 p c5 := hdep 32 (by omega) (by kernel_rfl) (fun k _ h => by cases h)
            refine gstep (wanted_ok rfl rfl (hdep 28 (by omega) (by kernel_rfl) (fun k _ h => by cases h) : ac.eval (.tmp 116) = .bool true)) ?_
            exact ow_str _ rfl h1 (HR1x.out.below hS) ⟨_, rfl, fun vs' h _ => h (fun e => by cases e), hbr, hS⟩
          | 34, _, rfl =>
            have h1 : ac.eval (.tmp 119) = .string ⟨(ofF p bs).toArray⟩ := hdep 31 (by omega) (by kernel_rfl) (fun k _ h => by cases h)
            have h2 : ac.eval (.tmp 121) = .string ⟨(ofF p bs).toArray⟩ := hdep 33 (by omega) (by kernel_rfl) (fun k _ h => by cases h)
            refine gstep (wanted_ok rfl rfl (hdep 28 (by omega) (by kernel_rfl) (fun k _ h => by cases h) : ac.eval (.tmp 116) = .bool true)) ?_
            exact ow_eql_str _ _ rfl _ h1 h2 ⟨_, rfl, fun vs' h _ => h (fun e => by cases e), hbr, hS⟩
          | 35, _, rfl =>
            have h1 : ac.eval (.tmp 116) = .bool true := hdep 28 (by omega) (by kernel_rfl) (fun k _ h => by cases h)
            have h2 : ac.eval (.tmp 122) = .bool true := hdep 34 (by omega) (by kernel_rfl) (fun k _ h => by cases h)
            refine gstep rfl ?_
            exact ow_pick _ _ _ rfl true h1 (by rw [if_pos rfl]; exact h2) ⟨_, rfl, fun vs' h _ => h (fun e => by cases e), hbr, hS⟩
          | 36, _, rfl =>
            have h1 : ac.eval (.tmp 123) = .bool true := hdep 35 (by omega) (by kernel_rfl) (fun k _ h => by cases h)
            refine gstep rfl ?_
            exact ow_move _ rfl h1 ⟨_, rfl, fun vs' h _ => h (fun e => by cases e), hbr, hS⟩
          | 37, _, rfl =>
            refine gstep (wanted_ok rfl rfl (hdep 36 (by omega) (by kernel_rfl) (fun k _ h => by cases h) : ac.eval (.tmp 124) = .bool true)) ?_
            refine ow_call Try.func8 (by kernel_rfl) rfl _ _ rfl (vs := #[]) (by simp) ?_
            refine (awake_any W).mono ?_
            rintro e w' ⟨rfl, hbb⟩
            exact ⟨_, rfl, _, rfl, fun vs' h _ => h (fun e => by cases e), hbb, hS.trans (hbb.mono hS.size)⟩
          | 38, _, rfl =>
            have h1 : ac.eval (.tmp 124) = .bool true := hdep 36 (by omega) (by kernel_rfl) (fun k _ h => by cases h)
            have h2 : ac.eval (.tmp 125) = .bool true := hdep 37 (by omega) (by kernel_rfl) (fun k _ h => by cases h)
            refine gstep rfl ?_
            exact ow_pick _ _ _ rfl true h1 (by rw [if_pos rfl]; exact h2) ⟨_, rfl, fun vs' h _ => h (fun e => by cases e), hbr, hS⟩
          | n + 39, hi, _ => exact absurd hi (by omega)
          case fin12 =>
           intro vs W hS hF
           have e38 : vs 38 = .bool true := hF 38 (by omega) (fun _ _ => rfl)
           clear hF
           change wpList _ _ _ _ (Act.put (Act.put (Act.put (Act.put (Act.put (Act.put (Act.put (Act.put (Act.put (Act.put (Act.put (Act.put (Act.put (Act.put (Act.put (Act.put (Act.put (Act.put (Act.put (Act.put (Act.put (Act.put (Act.put (Act.put (Act.put (Act.put (Act.put (Act.put (Act.put (Act.put (Act.put (Act.put (Act.put (Act.put (Act.put (Act.put (Act.put (Act.put (Act.put _ (some 88) (vs 0)) (some 89) (vs 1)) (some 90) (vs 2)) (some 91) (vs 3)) (some 92) (vs 4)) (some 93) (vs 5)) (some 94) (vs 6)) (some 95) (vs 7)) (some 96) (vs 8)) (some 97) (vs 9)) (some 98) (vs 10)) (some 99) (vs 11)) (some 100) (vs 12)) (some 101) (vs 13)) (some 102) (vs 14)) (some 103) (vs 15)) (some 104) (vs 16)) (some 105) (vs 17)) (some 106) (vs 18)) (some 107) (vs 19)) (some 108) (vs 20)) (some 109) (vs 21)) (some 110) (vs 22)) (some 111) (vs 23)) (some 112) (vs 24)) (some 113) (vs 25)) (some 114) (vs 26)) (some 115) (vs 27)) (some 116) (vs 28)) (some 117) (vs 29)) (some 118) (vs 30)) (some 119) (vs 31)) (some 120) (vs 32)) (some 121) (vs 33)) (some 122) (vs 34)) (some 123) (vs 35)) (some 124) (vs 36)) (some 125) (vs 37)) (some 126) (vs 38)) W
           rw [e38]
           clear e38
           generalize vs 0 = y0
           generalize vs 1 = y1
           generalize vs 2 = y2
           generalize vs 3 = y3
           generalize vs 4 = y4
           generalize vs 5 = y5
           generalize vs 6 = y6
           generalize vs 7 = y7
           generalize vs 8 = y8
           generalize vs 9 = y9
           generalize vs 10 = y10
           generalize vs 11 = y11
           generalize vs 12 = y12
           generalize vs 13 = y13
           generalize vs 14 = y14
           generalize vs 15 = y15
           generalize vs 16 = y16
           generalize vs 17 = y17
           generalize vs 18 = y18
           generalize vs 19 = y19
           generalize vs 20 = y20
           generalize vs 21 = y21
           generalize vs 22 = y22
           generalize vs 23 = y23
           generalize vs 24 = y24
           generalize vs 25 = y25
           generalize vs 26 = y26
           generalize vs 27 = y27
           generalize vs 28 = y28
           generalize vs 29 = y29
           generalize vs 30 = y30
           generalize vs 31 = y31
           generalize vs 32 = y32
           generalize vs 33 = y33
           generalize vs 34 = y34
           generalize vs 35 = y35
           generalize vs 36 = y36
           generalize vs 37 = y37
           simp only [putAll, List.drop_succ_cons, List.drop_zero, Act.put, List.setIfInBounds_toArray, List.set_cons_zero, List.set_cons_succ]
           clear vs
           have HBZ := Lib.hid (HB8.out.trans (hS.mono HB8.out.size))
           clear hS
           go_wp2_with fail
           go_ret
           exact ⟨rfl, HBZ.out⟩
    · have hea1 : ea = 1 := by rw [HEA.out, if_neg ha]
      subst hea1
      go_wp2_with fail
      refine (awake_any w3).mono ?_
      rintro e w7 ⟨rfl, hb7⟩
      go_wp2_with fail
      go_ret
      exact ⟨rfl, HB3.out.trans (hb7.mono HB3.out.size)⟩
end Go.Proofs.Ytnemclbeofiakaa
