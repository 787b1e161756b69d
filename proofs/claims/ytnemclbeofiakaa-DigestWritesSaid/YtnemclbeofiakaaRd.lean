/-
  The document's Sum.
-/
import Derived.Test.YtnemclbeofiakaaRc
namespace Go.Proofs.Ytnemclbeofiakaa
open Go.RowKit Bl

set_option maxHeartbeats 1000000 in
theorem SumR_any (h : List Nat) (hh : Wds 8 h) (n : Nat) (hn : n < 18446744073709551616) (size : Int) (sl : Value) (r : List UInt8) (w : World) (hs : SB w sl r) :
    Calls Try.prog 15 #[.agg (dgV h sl n size)] w fun e w' => ∃ v, e = .returned v ∧ SB w' v (sumL size h n r) ∧ Below w.heap.size w w' := by
  obtain ⟨A, c, rfl, hs, hl⟩ := hs.shape
  have HSL := Lib.hid hs
  have HL := Lib.hid hl
  have HH := Lib.hid hh
  have hrow0 := World.alloc_heap_new w (.cells (dgV h (.slice A r.length c) n size) 33)
  have HR0 := Lib.hid hrow0
  clear hs hl hh hrow0
  go_enter Try.func15, Try.ntmps15
  go_wp2_with (refine wpList_load_row rfl 33 _ rfl w.heap.size rfl 33 _ (0, 0) _ HR0.out Try.underlying33 rfl (by rw [dgV_size HH.out.1]; kernel_rfl) ?_)
  have hba := below_alloc1 w (.cells (dgV h (.slice A r.length c) n size) 33)
  refine (WriteR_any h HH.out n hn size (.slice A r.length c) nilS r [] _ (HSL.out.below hba) (SB_nil _) (by rw [List.append_nil]; exact HL.out)).mono ?_
  rintro e w1 ⟨sl', rfl, hoff, hb1⟩
  rw [List.append_nil] at hoff
  rw [List.append_nil]
  have hwd := writeL_wds r.length h n r HH.out hn
  have hsumL : sumL size h n r = if 1 ≤ size ∧ size ≤ 32 then outF (lastF (writeL r.length h n r).1 (writeL r.length h n r).2.1 (writeL r.length h n r).2.2) size.toNat else [] := rfl
  obtain ⟨h1, hh1⟩ : ∃ x, x = (writeL r.length h n r).1 := ⟨_, rfl⟩
  obtain ⟨n1, hn1⟩ : ∃ x, x = (writeL r.length h n r).2.1 := ⟨_, rfl⟩
  obtain ⟨r1, hr1⟩ : ∃ x, x = (writeL r.length h n r).2.2 := ⟨_, rfl⟩
  rw [← hh1, ← hn1, ← hr1] at hwd hsumL
  rw [← hr1] at hoff
  rw [← hh1, ← hn1]
  have hr64 : r1.length ≤ 64 := by rw [hr1]; exact writeL_rest _ _ _ _ (Nat.le_refl _)
  obtain ⟨A1, c1, rfl⟩ := hoff.shape
  obtain ⟨g, hg⟩ : ∃ g, g = w.heap.size := ⟨_, rfl⟩
  have HG := Lib.hid hg
  have HWD := Lib.hid hwd
  have HSUM := Lib.hid hsumL
  have hrow1 := blk_below HR0.out hb1
  have hbel1 : Below w.heap.size w w1 := hba.trans (hb1.mono (by simp))
  have hoff1 : OffRow w1 w.heap.size (.slice A1 r1.length c1) r1 := hoff.base_le (by simp)
  rw [← hg] at hrow1 hbel1 hoff1 ⊢
  have HR1 := Lib.hid hrow1
  have HB1 := Lib.hid hbel1
  have HO1 := Lib.hid hoff1
  clear hh1 hn1 hr1 hwd hg hoff hoff1 hrow1 hbel1 hb1 hba HR0 hsumL
  go_upto_region 3 with (refine wpList_store_row rfl 33 _ _ rfl g rfl 33 _ _ rfl HR1.out (by rw [dgV_size HH.out.1, dgV_size HWD.out.1.1]) (by rw [dgV_size HWD.out.1.1]; kernel_rfl) (dgV_one _ _ rfl) ?_; intro w2 hT2 hS2 hG2; have HT2 := Lib.hid hT2; have HG2 := Lib.hid hG2; clear hT2 hG2 hS2)
  have HB2 := Lib.hid (show Below g w w2 from HB1.out.grown HG2.out (by have := blk_lt HR1.out; omega) (fun k e => by injection e with e; omega))
  have HO2 := Lib.hid (HO1.out.other HR1.out (by decide) HG2.out)
  clear HG2 HR1 HB1 HO1 HSL
  have hc8 := (cell_of_row _ _ 8 _ _ _ HT2.out).trans (dgV_sl HWD.out.1.1 (.slice A1 r1.length c1) n1 size)
  have hc9 := (cell_of_row _ _ 9 _ _ _ HT2.out).trans (dgV_n HWD.out.1.1 (.slice A1 r1.length c1) n1 size)
  have hc10 := (cell_of_row _ _ 10 _ _ _ HT2.out).trans (dgV_sz HWD.out.1.1 (.slice A1 r1.length c1) n1 size)
  by_cases hlo : size < 1
  · have hd1 : decide (size < 1) = true := decide_eq_true hlo
    go_wp2_with fail
    go_ret
    rw [HSUM.out, if_neg (by omega), ← HG.out]
    exact ⟨_, rfl, SB_nil w2, HB2.out⟩
  have hd1 : decide (size < 1) = false := decide_eq_false hlo
  by_cases hhi : 32 < size
  · have hd2 : decide (32 < size) = true := decide_eq_true hhi
    go_wp2_with fail
    go_ret
    rw [HSUM.out, if_neg (by omega), ← HG.out]
    exact ⟨_, rfl, SB_nil w2, HB2.out⟩
  have hd2 : decide (32 < size) = false := decide_eq_false hhi
  obtain ⟨s, rfl⟩ : ∃ s : Nat, size = (s : Int) := ⟨size.toNat, by omega⟩
  have hs1 : 1 ≤ s := by omega
  have hs32 : s ≤ 32 := by omega
  have hfin : sumL (s : Int) h n r = outF (lastF h1 n1 r1) s := by rw [HSUM.out, if_pos (by omega), Int.toNat_natCast]
  have HFIN := Lib.hid hfin
  clear hfin HSUM
  have hw1 : IntKind.u64.wrap (r1.length : Int) = (r1.length : Int) := by rw [IntKind.wrap_u64]; omega
  obtain ⟨N2, hN2⟩ : ∃ N2, N2 = (n1 + r1.length) % 18446744073709551616 := ⟨_, rfl⟩
  have hw2 : IntKind.u64.wrap ((n1 : Int) + (r1.length : Int)) = (N2 : Int) := by rw [IntKind.wrap_u64, hN2]; omega
  have HN2 := Lib.hid hN2
  have hn2l : N2 < 18446744073709551616 := by rw [hN2]; exact Nat.mod_lt _ (by decide)
  clear hN2
  obtain ⟨i0, hi0, hz0, hz1, hz2⟩ := info_parts info5
  have HI0 := Lib.hid hi0
  have HZ0 := Lib.hid hz0
  have HZ1 := Lib.hid hz1
  have HZ2 := Lib.hid hz2
  clear hi0 hz0 hz1 hz2
  go_wp2_with fail
  clear hc8 hc9 hc10 hw1 hw2
  go_loopw [5] (fun e wr => ∃ j, r1.length + j ≤ 64 ∧ OffRow wr g e (r1 ++ List.replicate j 0) ∧ wr.heap[g]? = some (.cells (dgV h1 (.slice A1 r1.length c1) n1 (s : Int)) 33 (0, 0)) ∧ Below g w wr) (fun e _ => 64 - lenS e)
  case atStart => exact ⟨0, by omega, by simpa using HO2.out, HT2.out, HB2.out⟩
  case round =>
    clear HO2 HT2 HB2
    obtain ⟨j, hj, hoff, hrow, hbe⟩ := hrel
    have hel : (r1 ++ List.replicate j (0 : UInt8)).length = r1.length + j := by simp
    obtain ⟨m, hm⟩ : ∃ m, m = r1.length + j := ⟨_, rfl⟩
    rw [← hm] at hel hj
    have HO := Lib.hid hoff
    obtain ⟨Ae, ce, rfl⟩ := hoff.shape
    rw [hel] at HO ⊢
    have HROW := Lib.hid hrow
    have HBE := Lib.hid hbe
    have HM := Lib.hid hm
    have HEL := Lib.hid hel
    clear hoff hrow hbe hm hel
    rcases (show m = 64 ∨ m < 64 by omega) with rfl | hlt
    · have hd6 : decide (((64 : Nat) : Int) < 64) = false := by decide
      go_wp2_with (first
        | (refine wpList_load_wordsR rfl _ rfl g HROW.out HWD.out.1.1 rfl ?_))
      refine (MixR_any h1 HWD.out.1 _ (r1 ++ List.replicate j 0) N2 hn2l true wr (HO.out.sb (by rw [HEL.out]; omega)) HEL.out).mono ?_
      rintro e w3 ⟨rfl, hb3⟩
      have hz : mixF h1 (wordsF (r1 ++ List.replicate j 0)) N2 true = lastF h1 n1 r1 := by rw [words_zeros, HN2.out]; rfl
      rw [hz]
      clear hz
      obtain ⟨hf, hhf⟩ : ∃ hf, hf = lastF h1 n1 r1 := ⟨_, rfl⟩
      rw [← hhf]
      have HFW := Lib.hid (show Wds 8 hf by rw [hhf]; exact HWD.out.1.mixF _ _ _)
      have HHF := Lib.hid hhf
      have HROW3 := Lib.hid (blk_below HROW.out hb3)
      have HBE3 := Lib.hid (HBE.out.trans (hb3.mono (by have := blk_lt HROW.out; omega)))
      clear hhf hb3 HROW HBE HO
      obtain ⟨p, hp⟩ : ∃ p, p = w3.heap.size := ⟨_, rfl⟩
      have hgp : g < p := by have := blk_lt HROW3.out; omega
      have HPP := Lib.hid hp
      clear hp
      go_wp2_with (first
        | (refine wpList_alloc_row rfl 23 rfl _ (zero23 _) ?_; rw [← HPP.out]; intro w4 hT hS hG; have HT4 := Lib.hid hT; have HG4 := Lib.hid (below_of_grown hG); clear hT hG hS)
        | (refine wpList_store_row rfl 23 _ _ rfl p rfl 23 _ _ rfl HT4.out (by rw [wordsV_size, HFW.out.1]; rfl) (by rw [wordsV_size, HFW.out.1]; kernel_rfl) (wordsV_one _) ?_; intro w5 hT3 hS3 hG3; have HT5 := Lib.hid hT3; have HG5 := Lib.hid hG3; clear hT3 hS3 hG3))
      have HROW5 := Lib.hid (blk_grown (blk_below HROW3.out HG4.out) HG5.out (fun e => by injection e with e; omega))
      have HBE5 := Lib.hid (show Below g w w5 from (HBE3.out.trans (HG4.out.mono (by have := HPP.out; omega))).grown HG5.out (by have := blk_lt HT4.out; omega) (fun k e => by injection e with e; omega))
      clear HROW3 HBE3 HG4 HG5 HT4
      go_loopw [3, 7] (fun out i wr => ∃ k : Nat, k ≤ 8 ∧ i = .int .i64 (k : Int) ∧ wr.ownsRow g 5 1 out (min s (4 * k)) (bytesV (outF hf (min s (4 * k)))) ∧ wr.heap[p]? = some (.cells (wordsV hf).toArray 23 (0, 0)) ∧ wr.heap[g]? = some (.cells (dgV h1 (.slice A1 r1.length c1) n1 (s : Int)) 33 (0, 0)) ∧ Below g w wr) (fun _ i _ => 8 - (intOf i).toNat)
      case atStart => exact ⟨0, by omega, rfl, by rw [Nat.mul_zero, Nat.min_zero]; exact World.ownsRow_nil _ _ _ _, HT5.out, HROW5.out, HBE5.out⟩
      case round =>
        clear HT5 HROW5 HBE5
        obtain ⟨k, hk, rfl, hown, hpr, hrow, hbe⟩ := hrel
        have HO := Lib.hid hown
        have HP := Lib.hid hpr
        have HROW := Lib.hid hrow
        have HBE := Lib.hid hbe
        clear hown hpr hrow hbe
        rcases (show k < 8 ∨ k = 8 by omega) with hlt | rfl
        · have hd7 : decide ((k : Int) < 8) = true := by simp; omega
          have hch := words_cell HP.out k (by rw [HFW.out.1]; exact hlt)
          obtain ⟨X, hX⟩ : ∃ X, X = hf.getD k 0 := ⟨_, rfl⟩
          rw [← hX] at hch
          have hxl : X < M := by rw [hX]; exact getD_lt HFW.out k
          have HXX := Lib.hid hX
          clear hX
          go_wp2_with fail
          clear hch
          go_loopw [3, 8, 9] (fun out x i wr => ∃ q : Nat, q ≤ 4 ∧ i = .int .i64 (q : Int) ∧ x = .int .u32 ((X / 256 ^ q : Nat) : Int) ∧ wr.ownsRow g 5 1 out (min s (4 * k + q)) (bytesV (outF hf (min s (4 * k + q)))) ∧ wr.heap[p]? = some (.cells (wordsV hf).toArray 23 (0, 0)) ∧ wr.heap[g]? = some (.cells (dgV h1 (.slice A1 r1.length c1) n1 (s : Int)) 33 (0, 0)) ∧ Below g w wr) (fun _ _ i _ => 4 - (intOf i).toNat)
          case atStart => exact ⟨0, by omega, rfl, by simp, HO.out, HP.out, HROW.out, HBE.out⟩
          case round =>
            clear HO HP HROW HBE
            obtain ⟨q, hq, rfl, rfl, hown, hpr, hrow, hbe⟩ := hrel
            have HP := Lib.hid hpr
            have HROW := Lib.hid hrow
            have HBE := Lib.hid hbe
            have hc10 := (cell_of_row _ _ 10 _ _ _ hrow).trans (dgV_sz HWD.out.1.1 (.slice A1 r1.length c1) n1 (s : Int))
            obtain ⟨Y, hY⟩ : ∃ Y, Y = X / 256 ^ q := ⟨_, rfl⟩
            have hyl : Y < M := by rw [hY]; exact Nat.lt_of_le_of_lt (Nat.div_le_self _ _) hxl
            rw [← hY]
            have HYY := Lib.hid hY
            clear hpr hrow hbe hY
            rcases (show q < 4 ∨ q = 4 by omega) with hq4 | rfl
            · have hd9 : decide ((q : Int) < 4) = true := by simp; omega
              obtain ⟨m, hmm⟩ : ∃ m, m = min s (4 * k + q) := ⟨_, rfl⟩
              have hol : (outF hf m).length = m := outF_length _ _
              rw [← hmm] at hown
              obtain ⟨Ao, co, rfl, -, -⟩ := (SB_of_own (by rw [hol]; exact hown) (by rw [hol]; omega)).shape
              rw [hol] at hown ⊢
              have HO := Lib.hid hown
              have HMM := Lib.hid hmm
              clear hown hol hmm
              by_cases hsm : 4 * k + q < s
              · have hm' : m = 4 * k + q := by rw [HMM.out]; omega
                have hd3 : decide (m < s) = true := by simp; omega
                have HM' := Lib.hid hm'
                clear hm'
                obtain ⟨bb, hbb⟩ : ∃ b : UInt8, b = UInt8.ofNat (Y % 256) := ⟨_, rfl⟩
                have HBB := Lib.hid hbb
                clear hbb
                have hm32 : m < 32 := by have := HM'.out; omega
                go_wp2_with (first
                  | (refine wpList_rem256 rfl _ _ _ Y rfl rfl rfl ?_)
                  | (refine wpList_quo256 rfl _ _ _ Y rfl rfl rfl hyl ?_)
                  | (refine wpList_conv5 rfl _ _ rfl rfl ?_; rw [← HBB.out])
                  | (at_builtin; refine wpList_append_src _ rfl (.tmp 56) (.tmp 60) 24 rfl g 5 i0 (.int .u8 0) 1 Try.underlying24 HI0.out HZ0.out HZ1.out HZ2.out rfl _ m (bytesV (outF hf m)) rfl (own_move HO.out (fun _ _ _ h0 => blk_alloc h0 _)) (some ⟨wr.heap.size, 0, none⟩) 1 1 [.int .u8 (bb.toNat : Int)] rfl rfl (by simp) (one_cell (World.alloc_heap_new wr _)) (by intro u hu; rw [List.mem_singleton.1 hu]; rfl) (by unfold maxLen; omega) (by omega) (by have := blk_lt HROW.out; simp; omega) ?_; intro v3 w7 hown3 hg3 hat3; have HO3 := Lib.hid hown3; have HG3 := Lib.hid hg3; clear hown3 hg3 hat3))
                go_roundw
                case rel =>
                  have hoa : (wr.alloc (.cells #[.int .u8 (bb.toNat : Int)] 5)).ownsRow g 5 1 (.slice Ao m co) m (bytesV (outF hf m)) := own_move HO.out (fun _ _ _ h0 => blk_alloc h0 _)
                  have hpa := blk_alloc HP.out (.cells #[.int .u8 (bb.toNat : Int)] 5)
                  have hra := blk_alloc HROW.out (.cells #[.int .u8 (bb.toNat : Int)] 5)
                  have hmin : min s (4 * k + (q + 1)) = m + 1 := by have := HM'.out; omega
                  have hsuc := outF_succ hf m
                  have e1 : m / 4 = k := by have := HM'.out; omega
                  have e2 : m % 4 = q := by have := HM'.out; omega
                  rw [e1, e2, ← HXX.out, ← byte_mod, ← HYY.out, ← HBB.out] at hsuc
                  refine ⟨q + 1, by omega, rfl, ?_, ?_, own_keep hoa HG3.out hpa (by decide), own_keep hoa HG3.out hra (by decide), (HBE.out.alloc (by have := blk_lt HROW.out; omega) _).grown HG3.out (by have := blk_lt HROW.out; simp; omega) (fun j e => own_ge hoa j e)⟩
                  · rw [HYY.out, ← div_256, Int.natCast_ediv (X / 256 ^ q) 256]; rfl
                  · rw [hmin, hsuc, bytesV_append]; exact HO3.out
                case measure => simp [intOf]; omega
              · have hm' : m = s := by rw [HMM.out]; omega
                have hd3 : decide (m < s) = false := by simp; omega
                have HM' := Lib.hid hm'
                clear hm'
                go_wp2_with (refine wpList_quo256 rfl _ _ _ Y rfl rfl rfl hyl ?_)
                go_roundw
                case rel =>
                  have hmin : min s (4 * k + (q + 1)) = m := by have := HM'.out; omega
                  refine ⟨q + 1, by omega, rfl, ?_, ?_, HP.out, HROW.out, HBE.out⟩
                  · rw [HYY.out, ← div_256, Int.natCast_ediv (X / 256 ^ q) 256]; rfl
                  · rw [hmin]; exact HO.out
                case measure => simp [intOf]; omega
            · have hd9 : decide (((4 : Nat) : Int) < 4) = false := by decide
              have HO := Lib.hid hown
              clear hown hc10
              go_wp2_with fail
              go_roundw
              case rel => exact ⟨k + 1, by omega, rfl, HO.out, HP.out, HROW.out, HBE.out⟩
              case measure => simp [intOf]; omega
        · have hd7 : decide (((8 : Nat) : Int) < 8) = false := by decide
          go_wp2_with fail
          go_ret
          have hmin : min s (4 * 8) = s := by omega
          have hown := HO.out
          rw [hmin] at hown
          refine ⟨_, rfl, ?_, by rw [← HG.out]; exact HBE.out⟩
          rw [HFIN.out, ← HHF.out]
          exact SB_of_own (by rw [outF_length]; exact hown) (by rw [outF_length]; omega)
    · have hd6 : decide ((m : Int) < 64) = true := by simp; omega
      go_wp2_with (at_builtin; refine wpList_append_off rfl (.tmp 32) (.tmp 33) rfl rfl g _ (r1 ++ List.replicate j 0) rfl (HO.out.below (below_alloc1 wr _)) (by have := blk_lt HROW.out; simp; omega) 0 wr.heap.size 1 rfl ((cell_of_row _ _ 0 _ _ _ (World.alloc_heap_new wr _)).trans rfl) (by rw [HEL.out]; omega) ?_; intro v4 w10 hown4 hg4; have HO4 := Lib.hid hown4; have HG4 := Lib.hid hg4; clear hown4 hg4)
      go_roundw
      case rel =>
        have hoa : OffRow (wr.alloc (.cells #[.int .u8 0] 5)) g (.slice Ae m ce) (r1 ++ List.replicate j 0) := HO.out.below (below_alloc1 wr _)
        refine ⟨j + 1, by have := HM.out; omega, by rw [zeros_more]; exact HO4.out, hoa.keep HG4.out (blk_alloc HROW.out _) (by decide), ?_⟩
        exact (HBE.out.alloc (by have := blk_lt HROW.out; omega) _).grown HG4.out (by have := blk_lt HROW.out; simp; omega) (fun q e => hoa.ge q e)
      case measure =>
        have := HO4.out.len
        rw [this, List.length_append, HEL.out]
        simp [lenS]
        omega
end Go.Proofs.Ytnemclbeofiakaa
