/-
  digest.mix.
-/
import Derived.RangeFuncNested
import Derived.RangeFuncBound
import Derived.RangeFuncCalls
import Derived.RangeFuncLeaves
import Derived.RangeFuncBox
import Derived.Shelf.Abstract
import Derived.Shelf.RegionOpen
import Derived.WalkKit
import Derived.OwnWalkIn
import Derived.TacticsInMore
import Derived.LoopNIn
import Derived.LoopIn
import Derived.BigRegionIn
import Derived.BigGuardIn
import Derived.Test.YtnemclbeofiakaaWi2
namespace Go.Proofs.Ytnemclbeofiakaa
open Go.RowKit Go.Shelf Bl
attribute [local go_sem] Oper.semAt_some
set_option maxRecDepth 4000 in
set_option maxHeartbeats 1000000 in
theorem mix_any (h : List Nat) (hh : Wds 8 h) (v : Value) (bs : List UInt8) (n : Nat) (hn : n < 18446744073709551616) (last : Bool) (w : World) (hv : SB w v bs) (h64 : bs.length ≤ 64) :
    Calls Try.prog 18 #[.agg (wordsV h).toArray, v, .int .u64 (n : Int), .bool last] w fun e w' => e = .returned (.agg (wordsV (mixF h (wordsF bs) n last)).toArray) ∧ Below w.heap.size w w' := by
  have HH := Lib.hid hh
  have HV := Lib.hid hv
  have H64 := Lib.hid h64
  clear hh hv h64
  refine callsIn_wide.1 (?_ : CallsIn Fence.wide 3 _ _ _ _ _)
  refine callsIn_of_wp_marks Try.func18 rfl (by simp [Fence.wide]) (wpIn_wide.2 ?_) rfl
  simp only [Try.ntmps18, List.size_toArray, List.length_cons, List.length_nil, Nat.reduceAdd, Nat.reduceSub, Array.replicate_succ, Array.replicate_zero, List.push_toArray, List.append_toArray, List.nil_append, List.cons_append]
  go_wp2_with (refine wpList_alloc_row rfl 23 rfl _ (zero23 _) ?_; intro w1 hT hS hG)
  have hB1 : Below w.heap.size w w1 := ((Below.refl _ w).alloc (Nat.le_refl _) _).grown hG (by simp) (by simp)
  have hH1 : w1.heap[w.heap.size]? = some (.cells (wordsV h).toArray 23 (0, 0)) := blk_grown (World.alloc_heap_new w _) hG (by simp)
  have hs1 : w1.heap.size = w.heap.size + 2 := by rw [hS]; simp
  have hT1 : w1.heap[w.heap.size + 1]? = some (.cells (wordsV (List.replicate 8 0)).toArray 23 (0, 0)) := by
    rw [World.size_alloc] at hT; exact hT
  have HB1 := Lib.hid hB1
  have HH1 := Lib.hid hH1
  have HT1 := Lib.hid hT1
  have HS1 := Lib.hid hs1
  clear hB1 hH1 hT1 hs1 hT hG hS
  refine (first_any w1).mono ?_
  rintro e w2 ⟨rfl, hb2⟩
  have HB2 := Lib.hid hb2
  clear hb2
  go_wp2_with fail
  refine (words_any v bs w2 ((HV.out.below HB1.out).below HB2.out) H64.out).mono ?_
  rintro e w3 ⟨rfl, hb3⟩
  have HB3 := Lib.hid ((HB1.out.trans (HB2.out.mono (by have := HS1.out; omega))).trans (hb3.mono (by have := HS1.out; have := HB2.out.size; omega)))
  have HH3 := Lib.hid (blk_below (blk_below HH1.out HB2.out) hb3)
  have HT3 := Lib.hid (blk_below (blk_below HT1.out HB2.out) hb3)
  have hn3 : w.heap.size + 2 ≤ w3.heap.size := by have := HS1.out; have := HB2.out.size; have := hb3.size; omega
  have HN3 := Lib.hid hn3
  clear hb3 hn3 HH1 HT1 HB1 HB2 HS1
  obtain ⟨N, hN⟩ : ∃ N, N = w.heap.size := ⟨_, rfl⟩
  rw [← hN] at HH3 HT3 HN3 HB3 ⊢
  have HN := Lib.hid hN
  clear hN
  obtain ⟨m, hm⟩ : ∃ m, m = wordsF bs := ⟨_, rfl⟩
  rw [← hm]
  have HM := Lib.hid hm
  have HML := Lib.hid (show Wds 16 m by rw [hm]; exact wds_words bs)
  clear hm
  obtain ⟨S, hS⟩ : ∃ S, S = w3.heap.size := ⟨_, rfl⟩
  have HS := Lib.hid hS
  clear hS
  have hz23 := zero23
  have hz57 := zero57
  go_wp2_with (first
    | (refine wpList_alloc_row rfl 23 rfl _ (zero23 _) ?_; rw [← HS.out]; intro w4 hT4 hS4 hG4; have HT4 := Lib.hid hT4; have HG4 := Lib.hid hG4; clear hT4 hG4)
    | (refine wpList_alloc_row rfl 57 rfl _ (zero57 _) ?_; rw [hS4]; intro w5 hT5 hS5 hG5; have HT5 := Lib.hid hT5; have HG5 := Lib.hid hG5; clear hT5 hG5)
    | (refine wpList_store_row rfl 23 _ _ rfl S rfl 23 _ _ rfl (blk_grown HT4.out HG5.out (by simp)) rfl (by kernel_rfl) (wordsV_one _) ?_; intro w6 hT6 hS6 hG6; have HT6 := Lib.hid hT6; have HG6 := Lib.hid hG6; clear hT6 hG6)
    | (refine wpList_store_row rfl 57 _ _ rfl (S + 1) rfl 57 _ _ rfl (blk_grown HT5.out HG6.out (by simp)) (by rw [wordsV_size, HML.out.1]; rfl) (by rw [wordsV_size, HML.out.1]; kernel_rfl) (wordsV_one _) ?_; intro w7 hT7 hS7 hG7; have HT7 := Lib.hid hT7; have HG7 := Lib.hid hG7; clear hT7 hG7))
  obtain ⟨G, hG⟩ : ∃ G, G = S + 1 + 1 := ⟨_, rfl⟩
  rw [← hG]
  have hma : MixAt N S G w h m [] (List.replicate 16 0) (w7.alloc (Obj.cells (wordsV (List.replicate 16 0)).toArray 57)) := by
    have hB := HB3.out
    have hn := HN3.out
    have hs := HS.out
    have h1 := HG4.out; have h2 := HG5.out; have h3 := HG6.out; have h4 := HG7.out
    refine ⟨blk_alloc ?_ _, blk_alloc ?_ _, blk_alloc ?_ _, blk_alloc HT7.out _, ?_, ?_, by omega, hG, by simp⟩
    · exact blk_grown (blk_grown (blk_grown (blk_grown HH3.out h1 (by simp)) h2 (by simp)) h3 (fun e => by injection e with e; omega)) h4 (fun e => by injection e with e; omega)
    · exact blk_grown (blk_grown (blk_grown (blk_grown HT3.out h1 (by simp)) h2 (by simp)) h3 (fun e => by injection e with e; omega)) h4 (fun e => by injection e with e; omega)
    · exact blk_grown HT6.out h4 (fun e => by injection e with e; omega)
    · have hsz : w7.heap.size = S + 2 := by omega
      have := World.alloc_heap_new w7 (.cells (wordsV (List.replicate 16 0)).toArray 57)
      rw [hsz] at this
      rw [hG]; exact this
    · refine ((((hB.grown h1 (by omega) (by simp)).grown h2 (by omega) (by simp)).grown h3 (by omega) ?_).grown h4 (by omega) ?_).alloc (by omega) _
      · intro k e; injection e with e; omega
      · intro k e; injection e with e; omega
  have HMA := Lib.hid hma
  clear hma hG HB3 HN3 HG4 HG5 HG6 HG7 HT4 HT5 HT6 HT7 HS HH3 HT3 hS4 hS5 hS6 hS7
  change Code.wp _ _ _ _ (w7.alloc (Obj.cells (wordsV (List.replicate 16 0)).toArray 57))
  obtain ⟨w8, hw8⟩ : ∃ w8, w8 = w7.alloc (Obj.cells (wordsV (List.replicate 16 0)).toArray 57) := ⟨_, rfl⟩
  rw [← hw8] at HMA ⊢
  clear hw8
  refine region_f 2 (fun i vs W => match i with
      | 0 => vs 0 = .slice (some ⟨G, 0, none⟩) 8 16
      | 1 => vs 1 = .slice (some ⟨N, 0, none⟩) 8 8
      | _ => True) (fun _ W W' => W = W') (fun W => MixAt N S G w h m [] (List.replicate 16 0) W) (by kernel_rfl) (by kernel_rfl) (fun i k vs w w' _ _ h e => by subst e; exact h) ?h0A ?stepA ?finA
  case h0A => exact HMA.out.keep (Below.refl _ _).drew
  case stepA =>
    intro i op hi ho ac W hS hag hdep
    match i, hi, ho with
    | 0, _, rfl => exact ow_slice_arr_hi _ 22 57 8 16 rfl G (hag 11 rfl) Try.underlying57 (by omega) (by omega) tag22 ⟨_, rfl, fun vs' h _ => h (fun e => by cases e), rfl, hS⟩
    | 1, _, rfl => exact ow_slice_arr _ 22 23 8 rfl N (hag 4 rfl) Try.underlying23 (by omega) tag22 ⟨_, rfl, fun vs' h _ => h (fun e => by cases e), rfl, hS⟩
    | n + 2, hi, _ => exact absurd hi (by omega)
  case finA =>
    intro vs W hS hF
    have e0 : vs 0 = .slice (some ⟨G, 0, none⟩) 8 16 := hF 0 (by omega)
    have e1 : vs 1 = .slice (some ⟨N, 0, none⟩) 8 8 := hF 1 (by omega)
    clear hF HMA
    change wpList _ _ _ _ (Act.put (Act.put _ (some 20) (vs 0)) (some 21) (vs 1)) W
    rw [e0, e1]
    clear e0 e1
    simp only [putAll, List.drop_succ_cons, List.drop_zero, Act.put, List.setIfInBounds_toArray, List.set_cons_zero, List.set_cons_succ]
    clear vs
    obtain ⟨w9, hr9, hv9, hg9⟩ := copy_words W G 0 N (List.replicate 16 0) h 57 23 8 16 8 45 3 22 Try.underlying45 tag22 hS.v hS.hb HH.out.1.symm (by simp)
    have hv9' : RowAt w9 G (h ++ List.replicate 8 0) := hv9
    have HMA := Lib.hid (hS.to hg9 hv9')
    clear hS hv9 hg9 hv9'
    refine wpList_copy rfl _ _ 45 45 rfl _ _ rfl rfl hr9 ?_
    clear hr9
    go_wp2_with fail
    refine region_f 2 (fun i vs W => match i with
        | 0 => vs 0 = .slice (some ⟨G, 8, none⟩) 8 8
        | 1 => vs 1 = .slice (some ⟨S, 0, none⟩) 8 8
        | _ => True) (fun _ W W' => W = W') (fun W => MixAt N S G w h m [] (h ++ List.replicate 8 0) W) (by kernel_rfl) (by kernel_rfl) (fun i k vs w w' _ _ h e => by subst e; exact h) ?h0B ?stepB ?finB
    case h0B => exact HMA.out.keep (Below.refl _ _).drew
    case stepB =>
      intro i op hi ho ac W hS hag hdep
      match i, hi, ho with
      | 0, _, rfl => exact ow_slice_arr_lo _ 22 57 8 16 rfl G (hag 11 rfl) Try.underlying57 (by omega) tag22 ⟨_, rfl, fun vs' h _ => h (fun e => by cases e), rfl, hS⟩
      | 1, _, rfl => exact ow_slice_arr _ 22 23 8 rfl S (hag 9 rfl) Try.underlying23 (by omega) tag22 ⟨_, rfl, fun vs' h _ => h (fun e => by cases e), rfl, hS⟩
      | n + 2, hi, _ => exact absurd hi (by omega)
    case finB =>
      intro vs W hS hF
      have e0 : vs 0 = .slice (some ⟨G, 8, none⟩) 8 8 := hF 0 (by omega)
      have e1 : vs 1 = .slice (some ⟨S, 0, none⟩) 8 8 := hF 1 (by omega)
      clear hF HMA
      change wpList _ _ _ _ (Act.put (Act.put _ (some 23) (vs 0)) (some 24) (vs 1)) W
      rw [e0, e1]
      clear e0 e1
      simp only [putAll, List.drop_succ_cons, List.drop_zero, Act.put, List.setIfInBounds_toArray, List.set_cons_zero, List.set_cons_succ]
      clear vs
      obtain ⟨w10, hr10, hv10, hg10⟩ := copy_words W G 8 S (h ++ List.replicate 8 0) iv 57 23 8 8 8 45 3 22 Try.underlying45 tag22 hS.v hS.first rfl (by simp [HH.out.1])
      have hx : (h ++ List.replicate 8 0).take 8 ++ iv ++ (h ++ List.replicate 8 0).drop (8 + 8) = h ++ iv := by
        have := HH.out.1
        rw [List.take_append_of_le_length (by omega), List.take_of_length_le (by omega), List.drop_eq_nil_of_le (by simp; omega), List.append_nil]
      rw [hx] at hv10
      have hv10' : RowAt w10 G (h ++ iv) := hv10
      have HMA := Lib.hid (hS.to hg10 hv10')
      clear hS hv10 hg10 hv10' hx
      refine wpList_copy rfl _ _ 45 45 rfl _ _ rfl rfl hr10 ?_
      clear hr10
      obtain ⟨x, hx⟩ : ∃ x, x = h ++ iv := ⟨_, rfl⟩
      rw [← hx] at HMA
      have hxw : Wds 16 x := by
        rw [hx]
        refine ⟨by simp [HH.out.1, iv], fun y hy => ?_⟩
        rcases List.mem_append.1 hy with hy | hy
        · exact HH.out.2 y hy
        · exact wds_iv.2 y hy
      have HX := Lib.hid hx
      have HXW := Lib.hid hxw
      clear hx hxw
      have hlt := getD_lt HXW.out
      have hc12 := words_cell HMA.out.v 12 (by rw [HXW.out.1]; omega)
      have hf12 := frozen_of_row w10 G 12 _ _ HMA.out.v
      obtain ⟨a12, ha12⟩ : ∃ a, a = x.getD 12 0 := ⟨_, rfl⟩
      have ha12l : a12 < M := by rw [ha12]; exact hlt 12
      rw [← ha12] at hc12
      have hb12 := u32_xor_nat a12 (n % M) ha12l (Nat.mod_lt _ (by decide))
      rw [Int.natCast_emod] at hb12
      have hM : ((M : Nat) : Int) = 4294967296 := rfl
      rw [hM] at hb12
      have HA12 := Lib.hid ha12
      clear ha12 hlt
      go_upto_region 6 with fail
      have HMB := Lib.hid (HMA.out.set 12 (a12 ^^^ n % M))
      have HXB := Lib.hid (HXW.out.set 12 (xor_lt ha12l (Nat.mod_lt n (by decide))))
      obtain ⟨x', hx'⟩ : ∃ x', x' = x.set 12 (a12 ^^^ n % M) := ⟨_, rfl⟩
      rw [← hx'] at HMB HXB
      obtain ⟨w11, hw11⟩ : ∃ w', w' = w10.setCell ⟨G, 12, none⟩ (.int .u32 ((a12 ^^^ n % M : Nat) : Int)) := ⟨_, rfl⟩
      rw [← hw11] at HMB ⊢
      have HX' := Lib.hid hx'
      clear hx' hw11 hb12 hc12 hf12 HMA HXW ha12l
      have hc13 := words_cell HMB.out.v 13 (by rw [HXB.out.1]; omega)
      have hf13 := frozen_of_row w11 G 13 _ _ HMB.out.v
      obtain ⟨a13, ha13⟩ : ∃ a, a = x'.getD 13 0 := ⟨_, rfl⟩
      have ha13l : a13 < M := by rw [ha13]; exact getD_lt HXB.out 13
      rw [← ha13] at hc13
      have hnm : n / M < M := by unfold M; omega
      have hnq : n / M % M = n / M := Nat.mod_eq_of_lt hnm
      have hb13 := u32_xor_nat a13 (n / M) ha13l hnm
      rw [Int.natCast_ediv, hM] at hb13
      have HA13 := Lib.hid ha13
      clear ha13
      go_upto_if 39 with fail
      have HMC := Lib.hid (HMB.out.set 13 (a13 ^^^ n / M))
      have HXC := Lib.hid (HXB.out.set 13 (xor_lt ha13l hnm))
      obtain ⟨y, hy⟩ : ∃ y, y = x'.set 13 (a13 ^^^ n / M) := ⟨_, rfl⟩
      rw [← hy] at HMC HXC
      obtain ⟨w12, hw12⟩ : ∃ w', w' = w11.setCell ⟨G, 13, none⟩ (.int .u32 ((a13 ^^^ n / M : Nat) : Int)) := ⟨_, rfl⟩
      rw [← hw12] at HMC ⊢
      have hyi : init h n false = y ∧ init h n true = y.set 14 (y.getD 14 0 ^^^ 4294967295) := by
        have h8 := HH.out.1
        rw [hy, HX'.out, HA12.out, HA13.out, HX'.out, HA12.out, HX.out, ← hnq]
        exact init_sets h n h8
      have HYI := Lib.hid hyi
      clear hy hw12 hyi hb13 hc13 hf13 HMB HXB ha13l hnm hnq HA13 HA12 HX HX'
      go_cut [] from 12 (fun wc => MixAt N S G w h m [] (init h n last) wc)
      case first =>
        cases last with
        | false =>
          go_wp2_with fail
          go_meet
          case rel => rw [HYI.out.1]; exact HMC.out
        | true =>
          have hc14 := words_cell HMC.out.v 14 (by rw [HXC.out.1]; omega)
          have hf14 := frozen_of_row w12 G 14 _ _ HMC.out.v
          obtain ⟨a14, ha14⟩ : ∃ a, a = y.getD 14 0 := ⟨_, rfl⟩
          have ha14l : a14 < M := by rw [ha14]; exact getD_lt HXC.out 14
          rw [← ha14] at hc14
          have HA14 := Lib.hid ha14
          clear ha14
          go_wp2_with fail
          go_meet
          case rel =>
            rw [not32 a14 ha14l, HYI.out.2, ← HA14.out]
            exact HMC.out.set 14 _
      apply_assumption
      have HMD := Lib.hid hcut
      clear hcut HMC HYI HXC
      go_wp2_with fail
      refine (orders_any wc).mono ?_
      rintro e w13 ⟨rfl, hb13⟩
      have HME := Lib.hid (HMD.out.keep hb13)
      clear HMD hb13
      go_wp2_with fail
      obtain ⟨v0, hv0⟩ : ∃ v0, v0 = init h n last := ⟨_, rfl⟩
      rw [← hv0] at HME
      have HV0 := Lib.hid hv0
      have HV0W := Lib.hid (show Wds 16 v0 by rw [hv0]; exact HH.out.init n last)
      clear hv0
      refine wp_loop (fun a W => ∃ u12 u13 u14 u15 u16 u17 u18 u19 u20 u21 u22 u23 u24 u25 u26 u27 u28 u29 u30 u31 u32 u33 u34 u35 u36 u37 u38 u39 u40 u41 u42 u43 u46 u47 u48 u49 u50 u51 u52 u53 u54 u55 u56 u57 u58 u59 u60 u61 u62 u63 u64 u65 u66 u67 u68 u69 u70 u71 u72 u73 u74 u75 u76 u77 u78 u79 u80 u81 u82 u83 u84 u85 u86 : Value, ∃ (k : Nat) (Ds : List Nat), (k ≤ 10 ∧ Ds.Nodup ∧ MixAt N S G w h m Ds (rounds m k v0) W) ∧ a = { tmps := #[.agg (wordsV h).toArray, v, .int .u64 (n : Int), .bool last, .pointer (some ⟨N, 0, none⟩), undef, undef, undef, .pointer (some ⟨N + 1, 0, none⟩), .pointer (some ⟨S, 0, none⟩), .pointer (some ⟨S + 1, 0, none⟩), .pointer (some ⟨G, 0, none⟩), u12, u13, u14, u15, u16, u17, u18, u19, u20, u21, u22, u23, u24, u25, u26, u27, u28, u29, u30, u31, u32, u33, u34, u35, u36, u37, u38, u39, u40, u41, u42, u43, .agg ordV, .int .i64 (k : Int), u46, u47, u48, u49, u50, u51, u52, u53, u54, u55, u56, u57, u58, u59, u60, u61, u62, u63, u64, u65, u66, u67, u68, u69, u70, u71, u72, u73, u74, u75, u76, u77, u78, u79, u80, u81, u82, u83, u84, u85, u86], defers := marks Ds }) (fun a _ => 10 - (intOf (a.tmps.getD 45 undef)).toNat) ?h0 ?round
      case h0 => exact ⟨_, _, _, _, _, _, _, _, _, _, _, _, _, _, _, _, _, _, _, _, _, _, _, _, _, _, _, _, _, _, _, _, _, _, _, _, _, _, _, _, _, _, _, _, _, _, _, _, _, _, _, _, _, _, _, _, _, _, _, _, _, _, _, _, _, _, _, _, _, _, _, _, _, 0, [], ⟨by omega, .nil, HME.out⟩, rfl⟩
      case round =>
        clear HME
        rintro _ W ⟨u12, u13, u14, u15, u16, u17, u18, u19, u20, u21, u22, u23, u24, u25, u26, u27, u28, u29, u30, u31, u32, u33, u34, u35, u36, u37, u38, u39, u40, u41, u42, u43, u46, u47, u48, u49, u50, u51, u52, u53, u54, u55, u56, u57, u58, u59, u60, u61, u62, u63, u64, u65, u66, u67, u68, u69, u70, u71, u72, u73, u74, u75, u76, u77, u78, u79, u80, u81, u82, u83, u84, u85, u86, k, Ds, ⟨hk, hnd, hma⟩, rfl⟩
        have HMA := Lib.hid hma
        have HND := Lib.hid hnd
        clear hma hnd
        rcases (show k = 10 ∨ k < 10 by omega) with rfl | hk10
        · have HVV := Lib.hid (HV0W.out.rounds m 10)
          have hend := HMA.out.toEnd
          obtain ⟨vv, hvv⟩ : ∃ vv, vv = rounds m 10 v0 := ⟨_, rfl⟩
          rw [← hvv] at HVV hend
          rw [← foldTo_zero vv HH.out.1] at hend
          have HR : vv = rounds m 10 v0 := hvv
          have HRR := Lib.hid HR
          have HEND := Lib.hid hend
          clear hvv HR hend HMA
          go_wp2_with fail
          go_loopw [69] (fun i wr => ∃ j : Nat, j ≤ 8 ∧ i = .int .i64 (j : Int) ∧ EndAt N G w vv Ds (foldTo h vv j) wr) (fun i _ => 8 - (intOf i).toNat)
          case atStart => exact ⟨0, by omega, rfl, HEND.out⟩
          case round =>
            clear HEND
            obtain ⟨j, hj, rfl, he⟩ := hrel
            have HE := Lib.hid he
            clear he
            rcases (show j = 8 ∨ j < 8 by omega) with rfl | hj8
            · have he := HE.out
              rw [foldTo_eight] at he
              have HF := Lib.hid he
              clear he HE
              go_wp2_with (first
                | (refine wpList_load_row rfl 23 _ rfl N rfl 23 _ (0, 0) _ HF.out.hb Try.underlying23 rfl (by rw [wordsV_size]; kernel_rfl) ?_)
                | (refine wpList_store_row rfl 23 _ _ rfl (N + 1) rfl 23 _ _ rfl HF.out.res (by rw [wordsV_size, wordsV_size]; rfl) (by rw [wordsV_size]; kernel_rfl) (wordsV_one _) ?_; intro w9 hT9 hS9 hG9; have HT9 := Lib.hid hT9; have HG9 := Lib.hid hG9; clear hT9 hG9))
              have hne : ∀ D, D ∈ Ds → D ≠ N + 1 := by
                rintro D hD rfl
                have h1 := (HF.out.mks _ hD).2
                rw [HF.out.res] at h1
                injection h1 with h1
                cases h1
              refine (leaves_marks Try.f18 _ _ Ds _ HND.out (fun D hD => blk_grown (HF.out.mks D hD).2 HG9.out (fun e => by injection e with e; exact hne D hD e)) ?_ : LeavesInM _ _ _ _ _ _ (marks Ds) _ _)
              intro W' ht
              have hres := ht.same _ _ HT9.out (fun h => hne _ h rfl)
              refine ⟨_, results_cell_row (P := Try.prog) (p := 8) (ty := 23) rfl _ W' (N + 1) 23 _ (0, 0) _ rfl hres Try.underlying23 rfl (by rw [wordsV_size]; kernel_rfl), ?_, ?_⟩
              · unfold mixF
                rw [← HM.out, ← HV0.out, ← HRR.out]
              · rw [← HN.out]
                have hb := HF.out.below.grown HG9.out (by have := blk_lt HF.out.hb; omega) (fun k e => by injection e with e; omega)
                exact below_touch hb ht (Nat.le_of_eq HN.out) (fun k o hk => (HF.out.mks k hk).1)
            · have hd : decide ((j : Int) < 8) = true := by simp; omega
              go_wp2_with fail
              have hcN : ∀ W, EndAt N G w vv Ds (foldTo h vv j) W → W.cell? ⟨N, j, none⟩ = some (.int .u32 ((h.getD j 0 : Nat) : Int)) := by
                intro W hW
                rw [words_cell hW.hb j (by rw [foldTo_length]; omega), foldTo_getD h vv hj8]
              refine region_f 12 (fun i vs W => match i with
                | 0 => vs 0 = .int .i64 (j : Int)
                | 1 => vs 1 = .pointer (some ⟨N, 0 + j, none⟩)
                | 2 => vs 2 = .int .u32 ((h.getD j 0 : Nat) : Int)
                | 3 => vs 3 = .int .i64 (j : Int)
                | 4 => vs 4 = .pointer (some ⟨G, 0 + j, none⟩)
                | 5 => vs 5 = .int .u32 ((vv.getD j 0 : Nat) : Int)
                | 6 => vs 6 = .int .i64 (j : Int)
                | 7 => vs 7 = .int .i64 ((j + 8 : Nat) : Int)
                | 8 => vs 8 = .pointer (some ⟨G, 0 + (j + 8), none⟩)
                | 9 => vs 9 = .int .u32 ((vv.getD (j + 8) 0 : Nat) : Int)
                | 10 => vs 10 = .int .u32 ((vv.getD j 0 ^^^ vv.getD (j + 8) 0 : Nat) : Int)
                | 11 => vs 11 = .int .u32 ((h.getD j 0 ^^^ (vv.getD j 0 ^^^ vv.getD (j + 8) 0) : Nat) : Int)
                | _ => True) (fun _ _ _ => True) (fun W => EndAt N G w vv Ds (foldTo h vv j) W) (by kernel_rfl) (by kernel_rfl) (fun i k vs w w' _ _ h _ => h) ?h0 ?step ?fin
              case h0 => exact HE.out.keep (Below.refl _ _).drew
              case step =>
                intro i op hi ho ac W hS hag hdep
                match i, hi, ho with
              | 0, _, rfl => exact ow_move _ rfl (v := .int .i64 (j : Int)) (hag 16 rfl) ⟨_, rfl, fun vs' h _ => h (fun e => by cases e), trivial, hS⟩
                | 3, _, rfl => exact ow_move _ rfl (v := .int .i64 (j : Int)) (hag 16 rfl) ⟨_, rfl, fun vs' h _ => h (fun e => by cases e), trivial, hS⟩
                | 6, _, rfl => exact ow_move _ rfl (v := .int .i64 (j : Int)) (hag 16 rfl) ⟨_, rfl, fun vs' h _ => h (fun e => by cases e), trivial, hS⟩
                | 1, _, rfl =>
                  have h1 : ac.eval (.tmp 72) = .int .i64 (j : Int) := hdep 0 (by omega) (by kernel_rfl)
                  exact ow_index_arr _ _ 22 23 8 rfl N 0 j (hag 4 rfl) h1 hj8 Try.underlying23 tag22 ⟨_, rfl, fun vs' h _ => h (fun e => by cases e), trivial, hS⟩
                | 2, _, rfl =>
                  have h1 : ac.eval (.tmp 73) = .pointer (some ⟨N, 0 + j, none⟩) := hdep 1 (by omega) (by kernel_rfl)
                  rw [Nat.zero_add] at h1
                  exact ow_load_int _ 22 .u32 rfl N j h1 _ (hcN W hS) Try.underlying22 ⟨_, rfl, fun vs' h _ => h (fun e => by cases e), trivial, hS⟩
                | 4, _, rfl =>
                  have h1 : ac.eval (.tmp 75) = .int .i64 (j : Int) := hdep 3 (by omega) (by kernel_rfl)
                  exact ow_index_arr _ _ 22 57 16 rfl G 0 j (hag 11 rfl) h1 (by omega) Try.underlying57 tag22 ⟨_, rfl, fun vs' h _ => h (fun e => by cases e), trivial, hS⟩
                | 5, _, rfl =>
                  have h1 : ac.eval (.tmp 76) = .pointer (some ⟨G, 0 + j, none⟩) := hdep 4 (by omega) (by kernel_rfl)
                  rw [Nat.zero_add] at h1
                  exact ow_load_int _ 22 .u32 rfl G j h1 _ (words_cell hS.v _ (by rw [HVV.out.1]; omega)) Try.underlying22 ⟨_, rfl, fun vs' h _ => h (fun e => by cases e), trivial, hS⟩
                | 7, _, rfl =>
                  have h1 : ac.eval (.tmp 78) = .int .i64 (j : Int) := hdep 6 (by omega) (by kernel_rfl)
                  exact ow_add_nat _ _ 3 3 j 8 rfl h1 rfl Try.underlying3 (by omega) ⟨_, rfl, fun vs' h _ => h (fun e => by cases e), trivial, hS⟩
                | 8, _, rfl =>
                  have h1 : ac.eval (.tmp 79) = .int .i64 ((j + 8 : Nat) : Int) := hdep 7 (by omega) (by kernel_rfl)
                  exact ow_index_arr _ _ 22 57 16 rfl G 0 (j + 8) (hag 11 rfl) h1 (by omega) Try.underlying57 tag22 ⟨_, rfl, fun vs' h _ => h (fun e => by cases e), trivial, hS⟩
                | 9, _, rfl =>
                  have h1 : ac.eval (.tmp 80) = .pointer (some ⟨G, 0 + (j + 8), none⟩) := hdep 8 (by omega) (by kernel_rfl)
                  rw [Nat.zero_add] at h1
                  exact ow_load_int _ 22 .u32 rfl G (j + 8) h1 _ (words_cell hS.v _ (by rw [HVV.out.1]; omega)) Try.underlying22 ⟨_, rfl, fun vs' h _ => h (fun e => by cases e), trivial, hS⟩
                | 10, _, rfl =>
                  have h1 : ac.eval (.tmp 77) = .int .u32 ((vv.getD j 0 : Nat) : Int) := hdep 5 (by omega) (by kernel_rfl)
                  have h2 : ac.eval (.tmp 81) = .int .u32 ((vv.getD (j + 8) 0 : Nat) : Int) := hdep 9 (by omega) (by kernel_rfl)
                  exact ow_xor32 _ _ 22 22 _ _ rfl h1 h2 (getD_lt HVV.out _) (getD_lt HVV.out _) Try.underlying22 ⟨_, rfl, fun vs' h _ => h (fun e => by cases e), trivial, hS⟩
                | 11, _, rfl =>
                  have h1 : ac.eval (.tmp 74) = .int .u32 ((h.getD j 0 : Nat) : Int) := hdep 2 (by omega) (by kernel_rfl)
                  have h2 : ac.eval (.tmp 82) = .int .u32 ((vv.getD j 0 ^^^ vv.getD (j + 8) 0 : Nat) : Int) := hdep 10 (by omega) (by kernel_rfl)
                  exact ow_xor32 _ _ 22 22 _ _ rfl h1 h2 (getD_lt HH.out _) (xor_lt (getD_lt HVV.out _) (getD_lt HVV.out _)) Try.underlying22 ⟨_, rfl, fun vs' h _ => h (fun e => by cases e), trivial, hS⟩
              | n + 12, hi, _ => exact absurd hi (by omega)
              case fin =>
                intro vs W hS hF
                have e0 : vs 0 = .int .i64 (j : Int) := hF 0 (by omega)
                have e11 : vs 11 = .int .u32 ((h.getD j 0 ^^^ (vv.getD j 0 ^^^ vv.getD (j + 8) 0) : Nat) : Int) := hF 11 (by omega)
                clear hF HE
                change wpList _ _ _ _ (Act.put (Act.put (Act.put (Act.put (Act.put (Act.put (Act.put (Act.put (Act.put (Act.put (Act.put (Act.put _ (some 72) (vs 0)) (some 73) (vs 1)) (some 74) (vs 2)) (some 75) (vs 3)) (some 76) (vs 4)) (some 77) (vs 5)) (some 78) (vs 6)) (some 79) (vs 7)) (some 80) (vs 8)) (some 81) (vs 9)) (some 82) (vs 10)) (some 83) (vs 11)) W
                rw [e0, e11]
                clear e0 e11
                generalize vs 1 = z1
                generalize vs 2 = z2
                generalize vs 3 = z3
                generalize vs 4 = z4
                generalize vs 5 = z5
                generalize vs 6 = z6
                generalize vs 7 = z7
                generalize vs 8 = z8
                generalize vs 9 = z9
                generalize vs 10 = z10
                simp only [putAll, List.drop_succ_cons, List.drop_zero, Act.put, List.setIfInBounds_toArray, List.set_cons_zero, List.set_cons_succ]
                clear vs
                have hcc := hcN W hS
                have hff := frozen_of_row W N j _ _ hS.hb
                have hset := hS.set j (h.getD j 0 ^^^ (vv.getD j 0 ^^^ vv.getD (j + 8) 0))
                rw [← foldTo_succ h vv hj8] at hset
                have HSET := Lib.hid hset
                obtain ⟨Y, hY⟩ : ∃ Y, Y = h.getD j 0 ^^^ (vv.getD j 0 ^^^ vv.getD (j + 8) 0) := ⟨_, rfl⟩
                rw [← hY] at HSET ⊢
                clear hset hY hS hcN
                go_wp2_with fail
                go_roundw
                case rel => exact ⟨j + 1, by omega, rfl, HSET.out⟩
                case measure => simp [intOf]; omega
        · have hd : decide ((k : Int) < 10) = true := by simp; omega
          have hidx := idx_ord k hk10
          obtain ⟨str, hstr⟩ : ∃ s : ByteArray, s = ⟨((ordS k).map UInt8.ofNat).toArray⟩ := ⟨_, rfl⟩
          rw [← hstr] at hidx
          have HSTR := Lib.hid hstr
          clear hstr
          go_wp2_with fail
          refine (quads_any _).mono ?_
          rintro e w2 ⟨rfl, rfl⟩
          go_wp2_with fail
          have hnN : N ≤ w.heap.size := Nat.le_of_eq HN.out
          have hmaW := HMA.out.keep (below_alloc1 W (.cells #[.string str] 9))
          have hO : (W.alloc (.cells #[.string str] 9)).heap[W.heap.size]? = some (.cells #[.string str] 9 (0, 0)) := World.alloc_heap_new _ _
          have hgW : ∀ D, (D = G ∨ D ∈ Ds) → D < W.heap.size := by
            rintro D (rfl | hD)
            · exact blk_lt HMA.out.v
            · exact blk_lt (HMA.out.mks D hD).2
          have hsz1 : (W.alloc (.cells #[.string str] 9)).heap.size = W.heap.size + 1 := World.size_alloc _ _
          obtain ⟨O, hOe⟩ : ∃ O, O = W.heap.size := ⟨_, rfl⟩
          rw [← hOe] at hO hgW hsz1 ⊢
          obtain ⟨W1, hW1⟩ : ∃ W1, W1 = W.alloc (.cells #[.string str] 9) := ⟨_, rfl⟩
          rw [← hW1] at hmaW hO hsz1 ⊢
          clear hOe hW1 HMA hidx hd
          refine (wpIn_wide (n := 3)).1 ?_
          refine wp_range_all (n := 3) (gf := 33) (lb := #[]) rfl (enters_of Try.func33 (by kernel_rfl) rfl) (quads1_iterates W1) (fun _ => rfl)
            (fun k o h => h.elim) (fun _ _ _ _ _ => trivial) (fun _ _ _ => trivial)
            (fun pre A => MixAt N S G w h m Ds (steps m k pre.length (rounds m k v0)) A ∧ A.heap[O]? = some (.cells #[.string str] 9 (0, 0))) ?hI ⟨hmaW, hO⟩
            (fun x a' A => ∃ Bx, W1.heap.size + 2 ≤ Bx ∧ A.heap[Bx]? = some (.cells #[.int .i64 ((qd x 0 : Nat) : Int), .int .i64 ((qd x 1 : Nat) : Int), .int .i64 ((qd x 2 : Nat) : Int), .int .i64 ((qd x 3 : Nat) : Int)] 65 (0, 0)) ∧ a' = { tmps := #[.agg (wordsV h).toArray, v, .int .u64 (n : Int), .bool last, .pointer (some ⟨N, 0, none⟩), undef, undef, undef, .pointer (some ⟨N + 1, 0, none⟩), .pointer (some ⟨S, 0, none⟩), .pointer (some ⟨S + 1, 0, none⟩), .pointer (some ⟨G, 0, none⟩), u12, .pointer (some ⟨O, 0, none⟩), .int .i64 (x : Int), .pointer (some ⟨Bx, 0, none⟩), u16, u17, u18, u19, u20, u21, u22, u23, u24, u25, u26, u27, u28, u29, u30, u31, u32, u33, u34, u35, u36, u37, u38, u39, u40, u41, u42, u43, .agg ordV, .int .i64 (k : Int), .bool true, .string str, .func (.func 33) #[] #[], .int .i64 (x : Int), .agg #[.int .i64 ((qd x 0 : Nat) : Int), .int .i64 ((qd x 1 : Nat) : Int), .int .i64 ((qd x 2 : Nat) : Int), .int .i64 ((qd x 3 : Nat) : Int)], u51, u52, u53, u54, u55, u56, u57, u58, u59, u60, u61, u62, u63, u64, u65, u66, u67, u68, u69, u70, u71, u72, u73, u74, u75, u76, u77, u78, u79, u80, u81, u82, u83, u84, u85, u86], defers := [] })
            ?hAx ?assign ?body ?done
          case hI =>
            rintro pre A B ⟨h1, h2⟩ ht
            refine ⟨h1.touch (B0 := O + 1) ht ?_ (by have := hgW G (.inl rfl); omega) (fun D hD => by have := hgW D (.inr hD); omega) hnN, ht.same _ _ h2 ?_⟩
            · rintro k o (h | h | h)
              · exact h.elim
              · omega
              · omega
            · rintro (h | h | h)
              · exact h
              · omega
              · omega
          case hAx =>
            rintro x a' A B ⟨Bx, h1, h2, h3⟩ ht
            exact ⟨Bx, h1, ht.same _ _ h2 (by omega), h3⟩
          case assign =>
            intro l x W K hW hK
            simp only [qenc]
            gi_wp2
            exact hK _ _ (touch_alloc W _) ⟨W.heap.size, hW, World.alloc_heap_new _ _, rfl⟩
          case body =>
            rintro l pre x a' A ⟨hma, ho⟩ ⟨kk, hkk, hgood⟩ hszA hlim ⟨Bx, hBx, hbx, rfl⟩
            obtain ⟨hx, hx8⟩ := range_snoc hgood hkk
            have HXX := Lib.hid hx
            clear hx
            have hmb := hma.mb
            gi_wp2
            refine region_ev_p_in 16 (fun i y _ => match i with
                | 0 => y = .agg #[.int .i64 ((qd x 0 : Nat) : Int), .int .i64 ((qd x 1 : Nat) : Int), .int .i64 ((qd x 2 : Nat) : Int), .int .i64 ((qd x 3 : Nat) : Int)]
                | 1 => y = .string str
                | 2 => y = .int .i64 (x : Int)
                | 3 => y = .int .i64 ((2 * x : Nat) : Int)
                | 4 => y = .int .u8 (((ordS k).getD (2 * x) 0 : Nat) : Int)
                | 5 => y = .int .i64 ((sg k (2 * x) : Nat) : Int)
                | 6 => y = .pointer (some ⟨S + 1, 0 + sg k (2 * x), none⟩)
                | 7 => y = .int .u32 ((m.getD (sg k (2 * x)) 0 : Nat) : Int)
                | 8 => y = .string str
                | 9 => y = .int .i64 (x : Int)
                | 10 => y = .int .i64 ((2 * x : Nat) : Int)
                | 11 => y = .int .i64 ((2 * x + 1 : Nat) : Int)
                | 12 => y = .int .u8 (((ordS k).getD (2 * x + 1) 0 : Nat) : Int)
                | 13 => y = .int .i64 ((sg k (2 * x + 1) : Nat) : Int)
                | 14 => y = .pointer (some ⟨S + 1, 0 + sg k (2 * x + 1), none⟩)
                | 15 => y = .int .u32 ((m.getD (sg k (2 * x + 1)) 0 : Nat) : Int)
                | _ => True) (fun _ _ _ => True) (fun W => Below A.heap.size A W) (fun _ _ _ => True) ?hq (by kernel_rfl) (by kernel_rfl) (by kernel_rfl) ?hst ?h0 ?hp0 ?step ?fin
            case hq => exact fun a w h => absurd h.1 (by simp)
            case hst => exact fun i k y w w' _ _ h _ => h
            case h0 => exact (Below.refl _ _).drew
            case hp0 => exact fun _ _ => trivial
            case step =>
              intro i op hi ho' ac W hS _ hag hdep
              match i, hi, ho' with
                | 0, _, rfl => exact ow_load_row 65 _ rfl Bx (hag 15 rfl) 65 _ (0, 0) _ (blk_below hbx hS) Try.underlying65 rfl (by kernel_rfl) ⟨_, rfl, ⟨rfl, fun h => by cases h⟩, trivial, hS, fun _ _ _ _ _ => trivial⟩
                | 1, _, rfl => exact ow_load_str _ 9 rfl O 0 (hag 13 rfl) str (cell_of_row _ _ _ _ _ _ (blk_below ho hS)) Try.underlying9 ⟨_, rfl, ⟨rfl, fun h => by cases h⟩, trivial, hS, fun _ _ _ _ _ => trivial⟩
                | 2, _, rfl => exact ow_move _ rfl (v := .int .i64 (x : Int)) (hag 14 rfl) ⟨_, rfl, ⟨rfl, fun h => by cases h⟩, trivial, hS, fun _ _ _ _ _ => trivial⟩
                | 3, _, rfl =>
                  have h1 : ac.eval (.tmp 53) = .int .i64 (x : Int) := hdep 2 (by omega) (by kernel_rfl)
                  exact ow_mul_nat _ _ 3 3 2 x rfl rfl h1 Try.underlying3 (by omega) ⟨_, rfl, ⟨rfl, fun h => by cases h⟩, trivial, hS, fun _ _ _ _ _ => trivial⟩
                | 4, _, rfl =>
                  have h1 : ac.eval (.tmp 52) = .string str := hdep 1 (by omega) (by kernel_rfl)
                  have h2 : ac.eval (.tmp 54) = .int .i64 ((2 * x : Nat) : Int) := hdep 3 (by omega) (by kernel_rfl)
                  exact ow_index_run _ _ 9 rfl h1 h2 (by rw [HSTR.out]; exact idx_str k (2 * x) hk10 (by omega) W) ⟨_, rfl, ⟨rfl, fun h => by cases h⟩, trivial, hS, fun _ _ _ _ _ => trivial⟩
                | 5, _, rfl =>
                  have h1 : ac.eval (.tmp 55) = .int .u8 (((ordS k).getD (2 * x) 0 : Nat) : Int) := hdep 4 (by omega) (by kernel_rfl)
                  obtain ⟨_, q1, q2, q3, q4⟩ := ord_ok k hk10 (2 * x) (by omega)
                  refine ow_call Try.func30 (by kernel_rfl) rfl _ _ rfl (vs := #[.int .u8 (((ordS k).getD (2 * x) 0 : Nat) : Int)]) (by simp only [List.map_toArray, List.map_cons, List.map_nil, h1]) ?_
                  refine (number_any _ q1 q2 W).mono ?_
                  rintro e w' ⟨rfl, rfl⟩
                  rw [q3]
                  exact ⟨_, rfl, ⟨_, rfl, ⟨rfl, fun h => by cases h⟩, trivial, hS, fun _ _ _ _ _ => trivial⟩⟩
                | 6, _, rfl =>
                  have h1 : ac.eval (.tmp 56) = .int .i64 ((sg k (2 * x) : Nat) : Int) := hdep 5 (by omega) (by kernel_rfl)
                  obtain ⟨_, q1, q2, q3, q4⟩ := ord_ok k hk10 (2 * x) (by omega)
                  exact ow_index_arr _ _ 22 57 16 rfl (S + 1) 0 _ (hag 10 rfl) h1 q4 Try.underlying57 tag22 ⟨_, rfl, ⟨rfl, fun h => by cases h⟩, trivial, hS, fun _ _ _ _ _ => trivial⟩
                | 7, _, rfl =>
                  have h1 : ac.eval (.tmp 57) = .pointer (some ⟨S + 1, 0 + sg k (2 * x), none⟩) := hdep 6 (by omega) (by kernel_rfl)
                  obtain ⟨_, q1, q2, q3, q4⟩ := ord_ok k hk10 (2 * x) (by omega)
                  rw [Nat.zero_add] at h1
                  exact ow_load_int _ 22 .u32 rfl (S + 1) _ h1 _ (words_cell (blk_below hmb hS) _ (by rw [HML.out.1]; exact q4)) Try.underlying22 ⟨_, rfl, ⟨rfl, fun h => by cases h⟩, trivial, hS, fun _ _ _ _ _ => trivial⟩
                | 8, _, rfl => exact ow_load_str _ 9 rfl O 0 (hag 13 rfl) str (cell_of_row _ _ _ _ _ _ (blk_below ho hS)) Try.underlying9 ⟨_, rfl, ⟨rfl, fun h => by cases h⟩, trivial, hS, fun _ _ _ _ _ => trivial⟩
                | 9, _, rfl => exact ow_move _ rfl (v := .int .i64 (x : Int)) (hag 14 rfl) ⟨_, rfl, ⟨rfl, fun h => by cases h⟩, trivial, hS, fun _ _ _ _ _ => trivial⟩
                | 10, _, rfl =>
                  have h1 : ac.eval (.tmp 60) = .int .i64 (x : Int) := hdep 9 (by omega) (by kernel_rfl)
                  exact ow_mul_nat _ _ 3 3 2 x rfl rfl h1 Try.underlying3 (by omega) ⟨_, rfl, ⟨rfl, fun h => by cases h⟩, trivial, hS, fun _ _ _ _ _ => trivial⟩
                | 11, _, rfl =>
                  have h1 : ac.eval (.tmp 61) = .int .i64 ((2 * x : Nat) : Int) := hdep 10 (by omega) (by kernel_rfl)
                  exact ow_add_nat _ _ 3 3 (2 * x) 1 rfl h1 rfl Try.underlying3 (by omega) ⟨_, rfl, ⟨rfl, fun h => by cases h⟩, trivial, hS, fun _ _ _ _ _ => trivial⟩
                | 12, _, rfl =>
                  have h1 : ac.eval (.tmp 59) = .string str := hdep 8 (by omega) (by kernel_rfl)
                  have h2 : ac.eval (.tmp 62) = .int .i64 ((2 * x + 1 : Nat) : Int) := hdep 11 (by omega) (by kernel_rfl)
                  exact ow_index_run _ _ 9 rfl h1 h2 (by rw [HSTR.out]; exact idx_str k (2 * x + 1) hk10 (by omega) W) ⟨_, rfl, ⟨rfl, fun h => by cases h⟩, trivial, hS, fun _ _ _ _ _ => trivial⟩
                | 13, _, rfl =>
                  have h1 : ac.eval (.tmp 63) = .int .u8 (((ordS k).getD (2 * x + 1) 0 : Nat) : Int) := hdep 12 (by omega) (by kernel_rfl)
                  obtain ⟨_, q1, q2, q3, q4⟩ := ord_ok k hk10 (2 * x + 1) (by omega)
                  refine ow_call Try.func30 (by kernel_rfl) rfl _ _ rfl (vs := #[.int .u8 (((ordS k).getD (2 * x + 1) 0 : Nat) : Int)]) (by simp only [List.map_toArray, List.map_cons, List.map_nil, h1]) ?_
                  refine (number_any _ q1 q2 W).mono ?_
                  rintro e w' ⟨rfl, rfl⟩
                  rw [q3]
                  exact ⟨_, rfl, ⟨_, rfl, ⟨rfl, fun h => by cases h⟩, trivial, hS, fun _ _ _ _ _ => trivial⟩⟩
                | 14, _, rfl =>
                  have h1 : ac.eval (.tmp 64) = .int .i64 ((sg k (2 * x + 1) : Nat) : Int) := hdep 13 (by omega) (by kernel_rfl)
                  obtain ⟨_, q1, q2, q3, q4⟩ := ord_ok k hk10 (2 * x + 1) (by omega)
                  exact ow_index_arr _ _ 22 57 16 rfl (S + 1) 0 _ (hag 10 rfl) h1 q4 Try.underlying57 tag22 ⟨_, rfl, ⟨rfl, fun h => by cases h⟩, trivial, hS, fun _ _ _ _ _ => trivial⟩
                | 15, _, rfl =>
                  have h1 : ac.eval (.tmp 65) = .pointer (some ⟨S + 1, 0 + sg k (2 * x + 1), none⟩) := hdep 14 (by omega) (by kernel_rfl)
                  obtain ⟨_, q1, q2, q3, q4⟩ := ord_ok k hk10 (2 * x + 1) (by omega)
                  rw [Nat.zero_add] at h1
                  exact ow_load_int _ 22 .u32 rfl (S + 1) _ h1 _ (words_cell (blk_below hmb hS) _ (by rw [HML.out.1]; exact q4)) Try.underlying22 ⟨_, rfl, ⟨rfl, fun h => by cases h⟩, trivial, hS, fun _ _ _ _ _ => trivial⟩
                | n + 16, hi, _ => exact absurd hi (by omega)
            case fin =>
              intro ac W hS hsz hdf hag hf
              have h0 : ac.eval (.tmp 51) = .agg #[.int .i64 ((qd x 0 : Nat) : Int), .int .i64 ((qd x 1 : Nat) : Int), .int .i64 ((qd x 2 : Nat) : Int), .int .i64 ((qd x 3 : Nat) : Int)] := hf 0 (by omega)
              have h7 : ac.eval (.tmp 58) = .int .u32 ((m.getD (sg k (2 * x)) 0 : Nat) : Int) := hf 7 (by omega)
              have h15 : ac.eval (.tmp 66) = .int .u32 ((m.getD (sg k (2 * x + 1)) 0 : Nat) : Int) := hf 15 (by omega)
              have h11 : ac.eval (.tmp 11) = .pointer (some ⟨G, 0, none⟩) := hag 11 rfl
              have hmW := hma.keep hS
              simp only [List.drop_succ_cons, List.drop_zero]
              refine wpList_plain rfl fun K hK => ow_call Try.func29 (by kernel_rfl) rfl _ _ rfl (vs := #[.pointer (some ⟨G, 0, none⟩), .agg #[.int .i64 ((qd x 0 : Nat) : Int), .int .i64 ((qd x 1 : Nat) : Int), .int .i64 ((qd x 2 : Nat) : Int), .int .i64 ((qd x 3 : Nat) : Int)], .int .u32 ((m.getD (sg k (2 * x)) 0 : Nat) : Int), .int .u32 ((m.getD (sg k (2 * x + 1)) 0 : Nat) : Int)]) (by simp only [List.map_toArray, List.map_cons, List.map_nil, h0, h7, h15, h11]) ?_
              refine (stir_any G _ _ _ _ _ _ (steps m k pre.length (rounds m k v0)) ((HV0W.out.rounds m k).steps m k _) (qd_lt (by omega)) (qd_lt (by omega)) (qd_lt (by omega)) (qd_lt (by omega)) (getD_lt HML.out _) (getD_lt HML.out _) W hmW.v).mono ?_
              rintro e w' ⟨rfl, hr, hg⟩
              refine ⟨_, rfl, hK _ _ ?_⟩
              have hGO := hgW G (.inl rfl)
              have hl1 : (pre ++ [x]).length = pre.length + 1 := by simp
              refine ⟨rfl, ⟨?_, ?_⟩, trivial, ?_⟩
              · rw [hl1]
                show MixAt N S G w h m Ds (Bl.step m k pre.length (steps m k pre.length (rounds m k v0))) w'
                unfold Bl.step
                rw [← HXX.out]
                rw [← HXX.out] at hr hmW
                exact hmW.to hg hr
              · exact blk_grown (blk_below ho hS) hg (fun e => by injection e with e; omega)
              · intro q o hq h0 _
                exact blk_grown (blk_below h0 hS) hg (fun e => by injection e with e; omega)
          case done =>
            rintro xs B rfl ⟨hma, ho⟩ hK hsz2
            have hma' : MixAt N S G w h m (W1.heap.size :: Ds) (rounds m (k + 1) v0) B := by
              refine { hma with mks := ?_ }
              intro D hD
              rcases List.mem_cons.1 hD with rfl | hD
              · exact ⟨by have := hma.lt; have := hma.eq; have := hgW G (.inl rfl); omega, hK⟩
              · exact hma.mks D hD
            have hnd' : (W1.heap.size :: Ds).Nodup := List.nodup_cons.2 ⟨fun h => by have := hgW _ (.inr h); omega, HND.out⟩
            change _
            go_wp2_with fail
            refine ⟨⟨_, _, _, _, _, _, _, _, _, _, _, _, _, _, _, _, _, _, _, _, _, _, _, _, _, _, _, _, _, _, _, _, _, _, _, _, _, _, _, _, _, _, _, _, _, _, _, _, _, _, _, _, _, _, _, _, _, _, _, _, _, _, _, _, _, _, _, _, _, _, _, _, _, k + 1, W1.heap.size :: Ds, ⟨by omega, hnd', hma'⟩, rfl⟩, by simp [intOf]; omega⟩
end Go.Proofs.Ytnemclbeofiakaa
