/-
  digest.words.
-/
import Derived.Test.YtnemclbeofiakaaWd
namespace Go.Proofs.Ytnemclbeofiakaa
open Go.RowKit Bl

set_option maxHeartbeats 800000 in
theorem words_any (v : Value) (bs : List UInt8) (w : World) (hv : SB w v bs) (h64 : bs.length ≤ 64) :
    Calls Try.prog 26 #[v] w fun e w' => e = .returned (.agg (wordsV (wordsF bs)).toArray) ∧ Below w.heap.size w w' := by
  obtain ⟨A, c, rfl, hv, -⟩ := hv.shape
  have HV := Lib.hid hv
  clear hv
  go_enter Try.func26, Try.ntmps26
  go_wp2_with (refine wpList_alloc_row rfl 57 rfl _ (zero57 _) ?_; intro w1 hT hS hG)
  have hB1 : Below w.heap.size w w1 := (Below.refl _ _).grown hG (Nat.le_refl _) (by simp)
  have h0 : wordsF (bs.take 0) = List.replicate 16 0 := by rw [List.take_zero]; decide +kernel
  clear hS hG
  go_loopw [7] (fun i wr => ∃ k : Nat, k ≤ bs.length ∧ i = .int .i64 (k : Int) ∧ wr.heap[w.heap.size]? = some (.cells (wordsV (wordsF (bs.take k))).toArray 57 (0, 0)) ∧ Below w.heap.size w wr) (fun i _ => bs.length - (intOf i).toNat)
  case atStart => exact ⟨0, by omega, rfl, by rw [h0]; exact hT, hB1⟩
  case round =>
    clear hT hB1 h0
    obtain ⟨k, hk, rfl, hT, hB⟩ := hrel
    have HT := Lib.hid hT
    have HB := Lib.hid hB
    clear hT hB
    by_cases hlt : k < bs.length
    · obtain ⟨b, o, rfl, hcell⟩ := HV.out.at_ k hlt
      have hcell2 := cell_below HB.out hcell
      have hch := (bs[k]).toNat_lt
      have HST := Lib.hid (words_step bs k hlt (by omega))
      obtain ⟨ch, hch'⟩ : ∃ ch : UInt8, ch = bs[k]'hlt := ⟨_, rfl⟩
      rw [← hch'] at hcell2 hch HST
      have hwd := wds_words (bs.take k)
      obtain ⟨V, hV⟩ : ∃ V, V = wordsF (bs.take k) := ⟨_, rfl⟩
      rw [← hV] at HT HST hwd
      have HWD := Lib.hid hwd
      have hk64 : k < 64 := by omega
      clear hcell hch' hV hwd
      go_wp2_with fail
      refine region_f 11 (fun i vs W => match i with
          | 0 => vs 0 = .int .i64 (k : Int)
          | 1 => vs 1 = .int .i64 ((k / 4 : Nat) : Int)
          | 2 => vs 2 = .pointer (some ⟨w.heap.size, 0 + k / 4, none⟩)
          | 3 => vs 3 = .int .u32 ((V.getD (k / 4) 0 : Nat) : Int)
          | 4 => vs 4 = .int .u8 (ch.toNat : Int)
          | 5 => vs 5 = .int .u32 (ch.toNat : Int)
          | 6 => vs 6 = .int .i64 (k : Int)
          | 7 => vs 7 = .int .i64 ((k % 4 : Nat) : Int)
          | 8 => vs 8 = .int .i64 ((8 * (k % 4) : Nat) : Int)
          | 9 => vs 9 = .int .u32 ((ch.toNat * 2 ^ (8 * (k % 4)) % M : Nat) : Int)
          | 10 => vs 10 = .int .u32 ((V.getD (k / 4) 0 ||| ch.toNat * 2 ^ (8 * (k % 4)) % M : Nat) : Int)
          | _ => True) (fun _ W W' => Below W.heap.size W W') (fun W => Below wr.heap.size wr W) (by kernel_rfl) (by kernel_rfl) (fun i k vs w w' _ _ h _ => h) ?h0 ?step ?fin
      case h0 => exact (Below.refl _ _).drew
      case step =>
        intro i op hi ho a W hS hag hdep
        have hbr : Below W.heap.size W W := Below.refl _ _
        match i, hi, ho with
        | 0, _, rfl =>
          exact ow_move _ rfl (hag 3 rfl) ⟨_, rfl, fun vs' h _ => h (fun e => by cases e), hbr, hS⟩
        | 1, _, rfl =>
          have h1 : a.eval (.tmp 12) = .int .i64 (k : Int) := hdep 0 (by omega) (by kernel_rfl)
          exact ow_quo_nat _ _ 3 3 rfl k 4 h1 rfl (by decide) (by omega) Try.underlying3 ⟨_, rfl, fun vs' h _ => h (fun e => by cases e), hbr, hS⟩
        | 2, _, rfl =>
          have h1 : a.eval (.tmp 13) = .int .i64 ((k / 4 : Nat) : Int) := hdep 1 (by omega) (by kernel_rfl)
          exact ow_index_arr _ _ 22 57 16 rfl w.heap.size 0 (k / 4) (hag 2 rfl) h1 (by omega) Try.underlying57 (by kernel_rfl) ⟨_, rfl, fun vs' h _ => h (fun e => by cases e), hbr, hS⟩
        | 3, _, rfl =>
          have h1 : a.eval (.tmp 14) = .pointer (some ⟨w.heap.size, 0 + k / 4, none⟩) := hdep 2 (by omega) (by kernel_rfl)
          exact ow_load_int _ 22 .u32 rfl w.heap.size (0 + k / 4) h1 _ (by rw [Nat.zero_add]; exact words_cell (blk_below HT.out hS) _ (by rw [HWD.out.1]; omega)) Try.underlying22 ⟨_, rfl, fun vs' h _ => h (fun e => by cases e), hbr, hS⟩
        | 4, _, rfl =>
          exact ow_move _ rfl (hag 4 rfl) ⟨_, rfl, fun vs' h _ => h (fun e => by cases e), hbr, hS⟩
        | 5, _, rfl =>
          have h1 : a.eval (.tmp 16) = .int .u8 (ch.toNat : Int) := hdep 4 (by omega) (by kernel_rfl)
          exact ow_conv8 _ _ rfl h1 (by unfold M; omega) ⟨_, rfl, fun vs' h _ => h (fun e => by cases e), hbr, hS⟩
        | 6, _, rfl =>
          exact ow_move _ rfl (hag 3 rfl) ⟨_, rfl, fun vs' h _ => h (fun e => by cases e), hbr, hS⟩
        | 7, _, rfl =>
          have h1 : a.eval (.tmp 18) = .int .i64 (k : Int) := hdep 6 (by omega) (by kernel_rfl)
          exact ow_rem_nat _ _ 3 3 rfl k 4 h1 rfl (by decide) Try.underlying3 ⟨_, rfl, fun vs' h _ => h (fun e => by cases e), hbr, hS⟩
        | 8, _, rfl =>
          have h1 : a.eval (.tmp 19) = .int .i64 ((k % 4 : Nat) : Int) := hdep 7 (by omega) (by kernel_rfl)
          exact ow_mul_nat _ _ 3 3 8 (k % 4) rfl rfl h1 Try.underlying3 (by omega) ⟨_, rfl, fun vs' h _ => h (fun e => by cases e), hbr, hS⟩
        | 9, _, rfl =>
          have h1 : a.eval (.tmp 17) = .int .u32 (ch.toNat : Int) := hdep 5 (by omega) (by kernel_rfl)
          have h2 : a.eval (.tmp 20) = .int .i64 ((8 * (k % 4) : Nat) : Int) := hdep 8 (by omega) (by kernel_rfl)
          exact ow_shl32 _ _ _ _ rfl h1 h2 (by omega) ⟨_, rfl, fun vs' h _ => h (fun e => by cases e), hbr, hS⟩
        | 10, _, rfl =>
          have h1 : a.eval (.tmp 15) = .int .u32 ((V.getD (k / 4) 0 : Nat) : Int) := hdep 3 (by omega) (by kernel_rfl)
          have h2 : a.eval (.tmp 21) = .int .u32 ((ch.toNat * 2 ^ (8 * (k % 4)) % M : Nat) : Int) := hdep 9 (by omega) (by kernel_rfl)
          exact ow_or32 _ _ 22 22 _ _ rfl h1 h2 (getD_lt HWD.out _) (Nat.mod_lt _ (by decide)) ⟨_, rfl, fun vs' h _ => h (fun e => by cases e), hbr, hS⟩
        | n + 11, hi, _ => exact absurd hi (by omega)
      case fin =>
        intro vs W hS hF
        have e0 : vs 0 = .int .i64 (k : Int) := hF 0 (by omega)
        have e1 : vs 1 = .int .i64 ((k / 4 : Nat) : Int) := hF 1 (by omega)
        have e2 : vs 2 = .pointer (some ⟨w.heap.size, 0 + k / 4, none⟩) := hF 2 (by omega)
        have e3 : vs 3 = .int .u32 ((V.getD (k / 4) 0 : Nat) : Int) := hF 3 (by omega)
        have e4 : vs 4 = .int .u8 (ch.toNat : Int) := hF 4 (by omega)
        have e5 : vs 5 = .int .u32 (ch.toNat : Int) := hF 5 (by omega)
        have e6 : vs 6 = .int .i64 (k : Int) := hF 6 (by omega)
        have e7 : vs 7 = .int .i64 ((k % 4 : Nat) : Int) := hF 7 (by omega)
        have e8 : vs 8 = .int .i64 ((8 * (k % 4) : Nat) : Int) := hF 8 (by omega)
        have e9 : vs 9 = .int .u32 ((ch.toNat * 2 ^ (8 * (k % 4)) % M : Nat) : Int) := hF 9 (by omega)
        have e10 : vs 10 = .int .u32 ((V.getD (k / 4) 0 ||| ch.toNat * 2 ^ (8 * (k % 4)) % M : Nat) : Int) := hF 10 (by omega)
        clear hF
        change wpList _ _ _ _ (Act.put (Act.put (Act.put (Act.put (Act.put (Act.put (Act.put (Act.put (Act.put (Act.put (Act.put _ (some 12) (vs 0)) (some 13) (vs 1)) (some 14) (vs 2)) (some 15) (vs 3)) (some 16) (vs 4)) (some 17) (vs 5)) (some 18) (vs 6)) (some 19) (vs 7)) (some 20) (vs 8)) (some 21) (vs 9)) (some 22) (vs 10)) W
        rw [e0, e1, e2, e3, e4, e5, e6, e7, e8, e9, e10]
        clear e0 e1 e2 e3 e4 e5 e6 e7 e8 e9 e10
        simp only [putAll, List.drop_succ_cons, List.drop_zero, Act.put, List.setIfInBounds_toArray, List.set_cons_zero, List.set_cons_succ]
        clear vs
        have hcv := words_cell (blk_below HT.out hS) (k / 4) (by rw [HWD.out.1]; omega)
        have hfz : W.frozen? ⟨w.heap.size, k / 4, none⟩ = false := frozen_of_row W w.heap.size _ _ _ (blk_below HT.out hS)
        obtain ⟨X, hX⟩ : ∃ X, X = (V.getD (k / 4) 0 ||| ch.toNat * 2 ^ (8 * (k % 4)) % M) := ⟨_, rfl⟩
        rw [← hX] at HST ⊢
        obtain ⟨J, hJ⟩ : ∃ J, J = k / 4 := ⟨_, rfl⟩
        rw [← hJ] at HST hcv hfz ⊢
        have hJ16 : J < 16 := by omega
        have HS := Lib.hid hS
        clear hX hJ hS
        go_wp2_with fail
        go_roundw
        case rel =>
          refine ⟨k + 1, by omega, by go_num, ?_, ((HB.out.trans (HS.out.mono HB.out.size))).setCell (p := ⟨w.heap.size, J, none⟩) (Nat.le_refl _) _⟩
          rw [HST.out, ← wordsV_set]
          exact blk_setCell (blk_below HT.out HS.out) _
        case measure => simp [intOf]; omega
    · have hkl : k = bs.length := by omega
      have hfin : wordsF (bs.take k) = wordsF bs := by rw [hkl, List.take_length]
      have HF := Lib.hid hfin
      clear hkl hfin
      have hone := wordsV_one (wordsF (bs.take k))
      have hsz : (wordsV (wordsF (bs.take k))).toArray.size = 16 := by rw [wordsV_size, (wds_words _).1]
      have HONE := Lib.hid hone
      have HSZ := Lib.hid hsz
      clear hone hsz
      go_wp2_with (first | (refine wpList_load_row rfl 57 _ rfl w.heap.size rfl 57 _ (0, 0) _ HT.out Try.underlying57 rfl (by rw [HSZ.out]; exact info57) ?_) | (refine wpList_store_row rfl 57 _ _ rfl w.heap.size rfl 57 _ _ rfl HT.out rfl (by rw [HSZ.out]; exact info57) HONE.out ?_; intro w2 hT2 hS2 hG2))
      refine bodyPost_ret (v := .agg (wordsV (wordsF bs)).toArray) ?_ rfl ⟨rfl, HB.out.grown hG2 HB.out.size (fun j e => by injection e with e; omega)⟩
      rw [← HF.out]
      exact results_cell_row (P := Try.prog) (p := 2) (ty := 57) rfl _ w2 w.heap.size 57 _ (0, 0) _ rfl hT2 Try.underlying57 rfl (by rw [HSZ.out]; exact info57)
end Go.Proofs.Ytnemclbeofiakaa
