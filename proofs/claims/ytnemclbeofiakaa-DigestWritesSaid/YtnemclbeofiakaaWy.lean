/-
  The document's Mix.
-/
import Derived.Test.YtnemclbeofiakaaWx
namespace Go.Proofs.Ytnemclbeofiakaa
open Go.RowKit Bl

/-- the document's Mix, in its loops: the state, what is handed back, the block's words -/
structure RMx (w : World) (th tr gm : Nat) (h m : List Nat) (W : World) : Prop where
  bel : Below w.heap.size w W
  rh : W.heap[th]? = some (.cells (wordsV h).toArray 23 (0, 0))
  rr : W.heap[tr]? = some (.cells (wordsV (List.replicate 8 0)).toArray 23 (0, 0))
  rm : RowS W gm m
theorem RMx.keep {w : World} {th tr gm : Nat} {h m : List Nat} {W W' : World} (H : RMx w th tr gm h m W) (hb : Below W.heap.size W W') : RMx w th tr gm h m W' :=
  ⟨H.bel.trans (hb.mono H.bel.size), blk_below H.rh hb, blk_below H.rr hb, H.rm.below hb⟩
theorem RMx.other {w : World} {th tr gm g : Nat} {h m : List Nat} {W W' : World} (H : RMx w th tr gm h m W) (hg : W.grownBy W' (some g)) (h1 : th ≠ g) (h2 : tr ≠ g) (h3 : gm ≠ g) (h4 : w.heap.size ≤ g) : RMx w th tr gm h m W' :=
  ⟨H.bel.grown hg H.bel.size (fun k e => by injection e with e; omega), blk_grown H.rh hg (fun e => by injection e with e; exact h1 e), blk_grown H.rr hg (fun e => by injection e with e; exact h2 e), blk_grown H.rm hg (fun e => by injection e with e; exact h3 e)⟩

set_option maxHeartbeats 4000000 in
set_option maxRecDepth 4000 in
theorem MixR_any (h : List Nat) (hh : Wds 8 h) (v : Value) (bs : List UInt8) (n : Nat) (hn : n < 18446744073709551616) (last : Bool) (w : World) (hv : SB w v bs) (h64 : bs.length = 64) :
    Calls Try.prog 10 #[.agg (wordsV h).toArray, v, .int .u64 (n : Int), .bool last] w fun e w' => e = .returned (.agg (wordsV (mixF h (wordsF bs) n last)).toArray) ∧ Below w.heap.size w w' := by
  obtain ⟨A, c, rfl, hv, -⟩ := hv.shape
  obtain ⟨bb, oo, rfl, hcell⟩ := SB.where hv (by omega)
  rw [h64] at hcell ⊢
  have HC := Lib.hid hcell
  have HH := Lib.hid hh
  clear hv hcell hh
  obtain ⟨th, hth⟩ : ∃ g, g = w.heap.size := ⟨_, rfl⟩
  have HTH := Lib.hid hth
  clear hth
  go_enter Try.func10, Try.ntmps10
  go_upto_region 2 with (first
    | (refine wpList_alloc_row rfl 23 rfl _ (zero23 _) ?_; intro w1 hT hS hG; rw [World.size_alloc] at hT hS ⊢; rw [← HTH.out] at hT hS ⊢; have HT1 := Lib.hid hT; have HG1 := Lib.hid (below_of_grown hG); have HS1 := Lib.hid hS; clear hT hG hS)
    | (refine wpList_make45 rfl _ _ rfl rfl rfl ?_; rw [HS1.out]; intro w2 hT hS hG; have HT2 := Lib.hid hT; have HG2 : Hid (Below w1.heap.size w1 w2) := Lib.hid (by rw [HS1.out]; exact hG); have HS2 := Lib.hid hS; clear hT hG hS))
  have HX2 := Lib.hid (show RMx w th (th + 1) (th + 1 + 1) h (List.replicate 16 0) w2 from by
    have h0 := (World.alloc_heap_new w (.cells (wordsV h).toArray 23))
    rw [← HTH.out] at h0
    exact ⟨((below_alloc1 w _).trans (HG1.out.mono (by simp))).trans (HG2.out.mono (by have := HS1.out; have := HTH.out; omega)), blk_below (blk_below h0 HG1.out) HG2.out, blk_below HT1.out HG2.out, HT2.out⟩)
  clear HG1 HG2 HT1 HT2 HS1
  obtain ⟨tr, htr⟩ : ∃ tr, tr = th + 1 := ⟨_, rfl⟩
  rw [← htr] at HX2 ⊢
  obtain ⟨gm, hgm⟩ : ∃ gm, gm = tr + 1 := ⟨_, rfl⟩
  rw [← hgm] at HX2 ⊢
  have HTR := Lib.hid htr
  have HGM := Lib.hid hgm
  have h1lt : th < tr := by omega
  have h2lt : tr < gm := by omega
  have h0le : w.heap.size ≤ th := by rw [HTH.out]; exact Nat.le_refl _
  clear htr hgm
  go_wp2_with fail
  go_loopw [10] (fun i wr => ∃ k : Nat, k ≤ 16 ∧ i = .int .i64 (k : Int) ∧ RMx w th tr gm h (mTo bs k) wr) (fun i _ => 16 - (intOf i).toNat)
  case atStart => exact ⟨0, by omega, rfl, HX2.out⟩
  case round =>
    clear HX2
    obtain ⟨k, hk, rfl, hx⟩ := hrel
    have HX := Lib.hid hx
    clear hx
    rcases (show k < 16 ∨ k = 16 by omega) with hlt | rfl
    · have hd : decide ((k : Int) < 16) = true := by simp; omega
      go_upto_region 5 with fail
      refine region_f 35 (fun i vs W => match i with
          | 0 => vs 0 = .slice (some ⟨gm, 0, none⟩) 16 16
          | 1 => vs 1 = .int .i64 (k : Int)
          | 2 => vs 2 = .slice (some ⟨bb, oo, none⟩) 64 c
          | 3 => vs 3 = .int .i64 (k : Int)
          | 4 => vs 4 = .int .i64 ((4 * k : Nat) : Int)
          | 5 => vs 5 = .pointer (some ⟨bb, oo + (4 * k), none⟩)
          | 6 => vs 6 = .int .u8 (((bs.getD (4 * k) 0).toNat : Nat) : Int)
          | 7 => vs 7 = .int .u32 (((bs.getD (4 * k) 0).toNat : Nat) : Int)
          | 8 => vs 8 = .slice (some ⟨bb, oo, none⟩) 64 c
          | 9 => vs 9 = .int .i64 (k : Int)
          | 10 => vs 10 = .int .i64 ((4 * k : Nat) : Int)
          | 11 => vs 11 = .int .i64 ((4 * k + 1 : Nat) : Int)
          | 12 => vs 12 = .pointer (some ⟨bb, oo + (4 * k + 1), none⟩)
          | 13 => vs 13 = .int .u8 (((bs.getD (4 * k + 1) 0).toNat : Nat) : Int)
          | 14 => vs 14 = .int .u32 (((bs.getD (4 * k + 1) 0).toNat : Nat) : Int)
          | 15 => vs 15 = .int .u32 ((256 * (bs.getD (4 * k + 1) 0).toNat % M : Nat) : Int)
          | 16 => vs 16 = .int .u32 ((((bs.getD (4 * k) 0).toNat + 256 * (bs.getD (4 * k + 1) 0).toNat % M) % M : Nat) : Int)
          | 17 => vs 17 = .slice (some ⟨bb, oo, none⟩) 64 c
          | 18 => vs 18 = .int .i64 (k : Int)
          | 19 => vs 19 = .int .i64 ((4 * k : Nat) : Int)
          | 20 => vs 20 = .int .i64 ((4 * k + 2 : Nat) : Int)
          | 21 => vs 21 = .pointer (some ⟨bb, oo + (4 * k + 2), none⟩)
          | 22 => vs 22 = .int .u8 (((bs.getD (4 * k + 2) 0).toNat : Nat) : Int)
          | 23 => vs 23 = .int .u32 (((bs.getD (4 * k + 2) 0).toNat : Nat) : Int)
          | 24 => vs 24 = .int .u32 ((65536 * (bs.getD (4 * k + 2) 0).toNat % M : Nat) : Int)
          | 25 => vs 25 = .int .u32 (((((bs.getD (4 * k) 0).toNat + 256 * (bs.getD (4 * k + 1) 0).toNat % M) % M + 65536 * (bs.getD (4 * k + 2) 0).toNat % M) % M : Nat) : Int)
          | 26 => vs 26 = .slice (some ⟨bb, oo, none⟩) 64 c
          | 27 => vs 27 = .int .i64 (k : Int)
          | 28 => vs 28 = .int .i64 ((4 * k : Nat) : Int)
          | 29 => vs 29 = .int .i64 ((4 * k + 3 : Nat) : Int)
          | 30 => vs 30 = .pointer (some ⟨bb, oo + (4 * k + 3), none⟩)
          | 31 => vs 31 = .int .u8 (((bs.getD (4 * k + 3) 0).toNat : Nat) : Int)
          | 32 => vs 32 = .int .u32 (((bs.getD (4 * k + 3) 0).toNat : Nat) : Int)
          | 33 => vs 33 = .int .u32 ((16777216 * (bs.getD (4 * k + 3) 0).toNat % M : Nat) : Int)
          | 34 => vs 34 = .int .u32 ((((((bs.getD (4 * k) 0).toNat + 256 * (bs.getD (4 * k + 1) 0).toNat % M) % M + 65536 * (bs.getD (4 * k + 2) 0).toNat % M) % M + 16777216 * (bs.getD (4 * k + 3) 0).toNat % M) % M : Nat) : Int)
          | _ => True) (fun _ W W' => Below W.heap.size W W') (fun W => Below wr.heap.size wr W) (by kernel_rfl) (by kernel_rfl) ?hst5 ?h05 ?step5 ?fin5
      case hst5 =>
        intro i k vs W W' _ _ h hG
        match i, h with
        | 0, h => exact h
        | 1, h => exact h
        | 2, h => exact h
        | 3, h => exact h
        | 4, h => exact h
        | 5, h => exact h
        | 6, h => exact h
        | 7, h => exact h
        | 8, h => exact h
        | 9, h => exact h
        | 10, h => exact h
        | 11, h => exact h
        | 12, h => exact h
        | 13, h => exact h
        | 14, h => exact h
        | 15, h => exact h
        | 16, h => exact h
        | 17, h => exact h
        | 18, h => exact h
        | 19, h => exact h
        | 20, h => exact h
        | 21, h => exact h
        | 22, h => exact h
        | 23, h => exact h
        | 24, h => exact h
        | 25, h => exact h
        | 26, h => exact h
        | 27, h => exact h
        | 28, h => exact h
        | 29, h => exact h
        | 30, h => exact h
        | 31, h => exact h
        | 32, h => exact h
        | 33, h => exact h
        | 34, h => exact h
        | n + 35, _ => trivial
      case h05 => exact (Below.refl _ _).drew
      case step5 =>
        intro i op hi ho ac W hS hag hdep
        have hbr : Below W.heap.size W W := Below.refl _ _
        match i, hi, ho with
        | 0, _, rfl =>
          exact ow_move _ rfl (hag 9 rfl) ⟨_, rfl, fun vs' h _ => h (fun e => by cases e), hbr, hS⟩
        | 1, _, rfl =>
          exact ow_move _ rfl (hag 10 rfl) ⟨_, rfl, fun vs' h _ => h (fun e => by cases e), hbr, hS⟩
        | 2, _, rfl =>
          exact ow_move _ rfl (hag 1 rfl) ⟨_, rfl, fun vs' h _ => h (fun e => by cases e), hbr, hS⟩
        | 3, _, rfl =>
          exact ow_move _ rfl (hag 10 rfl) ⟨_, rfl, fun vs' h _ => h (fun e => by cases e), hbr, hS⟩
        | 4, _, rfl =>
          have h1 : ac.eval (.tmp 25) = .int .i64 (k : Int) := hdep 3 (by omega) (by kernel_rfl)
          exact ow_mul_nat _ _ 3 3 4 k rfl rfl h1 Try.underlying3 (by omega) ⟨_, rfl, fun vs' h _ => h (fun e => by cases e), hbr, hS⟩
        | 5, _, rfl =>
          have h1 : ac.eval (.tmp 24) = .slice (some ⟨bb, oo, none⟩) 64 c := hdep 2 (by omega) (by kernel_rfl)
          have h2 : ac.eval (.tmp 26) = .int .i64 ((4 * k : Nat) : Int) := hdep 4 (by omega) (by kernel_rfl)
          exact ow_index _ _ 5 24 rfl bb oo 64 c (4 * k) h1 h2 (by omega) Try.underlying24 tag5 ⟨_, rfl, fun vs' h _ => h (fun e => by cases e), hbr, hS⟩
        | 6, _, rfl =>
          have h1 : ac.eval (.tmp 27) = .pointer (some ⟨bb, oo + (4 * k), none⟩) := hdep 5 (by omega) (by kernel_rfl)
          exact ow_load_int _ 5 .u8 rfl bb (oo + (4 * k)) h1 _ (cell_below (HX.out.bel.trans (hS.mono HX.out.bel.size)) (HC.out (4 * k) (by omega))) Try.underlying5 ⟨_, rfl, fun vs' h _ => h (fun e => by cases e), hbr, hS⟩
        | 7, _, rfl =>
          have h1 : ac.eval (.tmp 28) = .int .u8 (((bs.getD (4 * k) 0).toNat : Nat) : Int) := hdep 6 (by omega) (by kernel_rfl)
          exact ow_conv8 _ _ rfl h1 (by have := (bs.getD (4 * k) 0).toNat_lt; unfold M; omega) ⟨_, rfl, fun vs' h _ => h (fun e => by cases e), hbr, hS⟩
        | 8, _, rfl =>
          exact ow_move _ rfl (hag 1 rfl) ⟨_, rfl, fun vs' h _ => h (fun e => by cases e), hbr, hS⟩
        | 9, _, rfl =>
          exact ow_move _ rfl (hag 10 rfl) ⟨_, rfl, fun vs' h _ => h (fun e => by cases e), hbr, hS⟩
        | 10, _, rfl =>
          have h1 : ac.eval (.tmp 31) = .int .i64 (k : Int) := hdep 9 (by omega) (by kernel_rfl)
          exact ow_mul_nat _ _ 3 3 4 k rfl rfl h1 Try.underlying3 (by omega) ⟨_, rfl, fun vs' h _ => h (fun e => by cases e), hbr, hS⟩
        | 11, _, rfl =>
          have h1 : ac.eval (.tmp 32) = .int .i64 ((4 * k : Nat) : Int) := hdep 10 (by omega) (by kernel_rfl)
          exact ow_add_nat _ _ 3 3 (4 * k) 1 rfl h1 rfl Try.underlying3 (by omega) ⟨_, rfl, fun vs' h _ => h (fun e => by cases e), hbr, hS⟩
        | 12, _, rfl =>
          have h1 : ac.eval (.tmp 30) = .slice (some ⟨bb, oo, none⟩) 64 c := hdep 8 (by omega) (by kernel_rfl)
          have h2 : ac.eval (.tmp 33) = .int .i64 ((4 * k + 1 : Nat) : Int) := hdep 11 (by omega) (by kernel_rfl)
          exact ow_index _ _ 5 24 rfl bb oo 64 c (4 * k + 1) h1 h2 (by omega) Try.underlying24 tag5 ⟨_, rfl, fun vs' h _ => h (fun e => by cases e), hbr, hS⟩
        | 13, _, rfl =>
          have h1 : ac.eval (.tmp 34) = .pointer (some ⟨bb, oo + (4 * k + 1), none⟩) := hdep 12 (by omega) (by kernel_rfl)
          exact ow_load_int _ 5 .u8 rfl bb (oo + (4 * k + 1)) h1 _ (cell_below (HX.out.bel.trans (hS.mono HX.out.bel.size)) (HC.out (4 * k + 1) (by omega))) Try.underlying5 ⟨_, rfl, fun vs' h _ => h (fun e => by cases e), hbr, hS⟩
        | 14, _, rfl =>
          have h1 : ac.eval (.tmp 35) = .int .u8 (((bs.getD (4 * k + 1) 0).toNat : Nat) : Int) := hdep 13 (by omega) (by kernel_rfl)
          exact ow_conv8 _ _ rfl h1 (by have := (bs.getD (4 * k + 1) 0).toNat_lt; unfold M; omega) ⟨_, rfl, fun vs' h _ => h (fun e => by cases e), hbr, hS⟩
        | 15, _, rfl =>
          have h1 : ac.eval (.tmp 36) = .int .u32 (((bs.getD (4 * k + 1) 0).toNat : Nat) : Int) := hdep 14 (by omega) (by kernel_rfl)
          exact ow_mul32 _ _ 22 22 256 _ rfl rfl h1 Try.underlying22 ⟨_, rfl, fun vs' h _ => h (fun e => by cases e), hbr, hS⟩
        | 16, _, rfl =>
          have h1 : ac.eval (.tmp 29) = .int .u32 (((bs.getD (4 * k) 0).toNat : Nat) : Int) := hdep 7 (by omega) (by kernel_rfl)
          have h2 : ac.eval (.tmp 37) = .int .u32 ((256 * (bs.getD (4 * k + 1) 0).toNat % M : Nat) : Int) := hdep 15 (by omega) (by kernel_rfl)
          exact ow_add32 _ _ 22 22 _ _ rfl h1 h2 Try.underlying22 ⟨_, rfl, fun vs' h _ => h (fun e => by cases e), hbr, hS⟩
        | 17, _, rfl =>
          exact ow_move _ rfl (hag 1 rfl) ⟨_, rfl, fun vs' h _ => h (fun e => by cases e), hbr, hS⟩
        | 18, _, rfl =>
          exact ow_move _ rfl (hag 10 rfl) ⟨_, rfl, fun vs' h _ => h (fun e => by cases e), hbr, hS⟩
        | 19, _, rfl =>
          have h1 : ac.eval (.tmp 40) = .int .i64 (k : Int) := hdep 18 (by omega) (by kernel_rfl)
          exact ow_mul_nat _ _ 3 3 4 k rfl rfl h1 Try.underlying3 (by omega) ⟨_, rfl, fun vs' h _ => h (fun e => by cases e), hbr, hS⟩
        | 20, _, rfl =>
          have h1 : ac.eval (.tmp 41) = .int .i64 ((4 * k : Nat) : Int) := hdep 19 (by omega) (by kernel_rfl)
          exact ow_add_nat _ _ 3 3 (4 * k) 2 rfl h1 rfl Try.underlying3 (by omega) ⟨_, rfl, fun vs' h _ => h (fun e => by cases e), hbr, hS⟩
        | 21, _, rfl =>
          have h1 : ac.eval (.tmp 39) = .slice (some ⟨bb, oo, none⟩) 64 c := hdep 17 (by omega) (by kernel_rfl)
          have h2 : ac.eval (.tmp 42) = .int .i64 ((4 * k + 2 : Nat) : Int) := hdep 20 (by omega) (by kernel_rfl)
          exact ow_index _ _ 5 24 rfl bb oo 64 c (4 * k + 2) h1 h2 (by omega) Try.underlying24 tag5 ⟨_, rfl, fun vs' h _ => h (fun e => by cases e), hbr, hS⟩
        | 22, _, rfl =>
          have h1 : ac.eval (.tmp 43) = .pointer (some ⟨bb, oo + (4 * k + 2), none⟩) := hdep 21 (by omega) (by kernel_rfl)
          exact ow_load_int _ 5 .u8 rfl bb (oo + (4 * k + 2)) h1 _ (cell_below (HX.out.bel.trans (hS.mono HX.out.bel.size)) (HC.out (4 * k + 2) (by omega))) Try.underlying5 ⟨_, rfl, fun vs' h _ => h (fun e => by cases e), hbr, hS⟩
        | 23, _, rfl =>
          have h1 : ac.eval (.tmp 44) = .int .u8 (((bs.getD (4 * k + 2) 0).toNat : Nat) : Int) := hdep 22 (by omega) (by kernel_rfl)
          exact ow_conv8 _ _ rfl h1 (by have := (bs.getD (4 * k + 2) 0).toNat_lt; unfold M; omega) ⟨_, rfl, fun vs' h _ => h (fun e => by cases e), hbr, hS⟩
        | 24, _, rfl =>
          have h1 : ac.eval (.tmp 45) = .int .u32 (((bs.getD (4 * k + 2) 0).toNat : Nat) : Int) := hdep 23 (by omega) (by kernel_rfl)
          exact ow_mul32 _ _ 22 22 65536 _ rfl rfl h1 Try.underlying22 ⟨_, rfl, fun vs' h _ => h (fun e => by cases e), hbr, hS⟩
        | 25, _, rfl =>
          have h1 : ac.eval (.tmp 38) = .int .u32 ((((bs.getD (4 * k) 0).toNat + 256 * (bs.getD (4 * k + 1) 0).toNat % M) % M : Nat) : Int) := hdep 16 (by omega) (by kernel_rfl)
          have h2 : ac.eval (.tmp 46) = .int .u32 ((65536 * (bs.getD (4 * k + 2) 0).toNat % M : Nat) : Int) := hdep 24 (by omega) (by kernel_rfl)
          exact ow_add32 _ _ 22 22 _ _ rfl h1 h2 Try.underlying22 ⟨_, rfl, fun vs' h _ => h (fun e => by cases e), hbr, hS⟩
        | 26, _, rfl =>
          exact ow_move _ rfl (hag 1 rfl) ⟨_, rfl, fun vs' h _ => h (fun e => by cases e), hbr, hS⟩
        | 27, _, rfl =>
          exact ow_move _ rfl (hag 10 rfl) ⟨_, rfl, fun vs' h _ => h (fun e => by cases e), hbr, hS⟩
        | 28, _, rfl =>
          have h1 : ac.eval (.tmp 49) = .int .i64 (k : Int) := hdep 27 (by omega) (by kernel_rfl)
          exact ow_mul_nat _ _ 3 3 4 k rfl rfl h1 Try.underlying3 (by omega) ⟨_, rfl, fun vs' h _ => h (fun e => by cases e), hbr, hS⟩
        | 29, _, rfl =>
          have h1 : ac.eval (.tmp 50) = .int .i64 ((4 * k : Nat) : Int) := hdep 28 (by omega) (by kernel_rfl)
          exact ow_add_nat _ _ 3 3 (4 * k) 3 rfl h1 rfl Try.underlying3 (by omega) ⟨_, rfl, fun vs' h _ => h (fun e => by cases e), hbr, hS⟩
        | 30, _, rfl =>
          have h1 : ac.eval (.tmp 48) = .slice (some ⟨bb, oo, none⟩) 64 c := hdep 26 (by omega) (by kernel_rfl)
          have h2 : ac.eval (.tmp 51) = .int .i64 ((4 * k + 3 : Nat) : Int) := hdep 29 (by omega) (by kernel_rfl)
          exact ow_index _ _ 5 24 rfl bb oo 64 c (4 * k + 3) h1 h2 (by omega) Try.underlying24 tag5 ⟨_, rfl, fun vs' h _ => h (fun e => by cases e), hbr, hS⟩
        | 31, _, rfl =>
          have h1 : ac.eval (.tmp 52) = .pointer (some ⟨bb, oo + (4 * k + 3), none⟩) := hdep 30 (by omega) (by kernel_rfl)
          exact ow_load_int _ 5 .u8 rfl bb (oo + (4 * k + 3)) h1 _ (cell_below (HX.out.bel.trans (hS.mono HX.out.bel.size)) (HC.out (4 * k + 3) (by omega))) Try.underlying5 ⟨_, rfl, fun vs' h _ => h (fun e => by cases e), hbr, hS⟩
        | 32, _, rfl =>
          have h1 : ac.eval (.tmp 53) = .int .u8 (((bs.getD (4 * k + 3) 0).toNat : Nat) : Int) := hdep 31 (by omega) (by kernel_rfl)
          exact ow_conv8 _ _ rfl h1 (by have := (bs.getD (4 * k + 3) 0).toNat_lt; unfold M; omega) ⟨_, rfl, fun vs' h _ => h (fun e => by cases e), hbr, hS⟩
        | 33, _, rfl =>
          have h1 : ac.eval (.tmp 54) = .int .u32 (((bs.getD (4 * k + 3) 0).toNat : Nat) : Int) := hdep 32 (by omega) (by kernel_rfl)
          exact ow_mul32 _ _ 22 22 16777216 _ rfl rfl h1 Try.underlying22 ⟨_, rfl, fun vs' h _ => h (fun e => by cases e), hbr, hS⟩
        | 34, _, rfl =>
          have h1 : ac.eval (.tmp 47) = .int .u32 (((((bs.getD (4 * k) 0).toNat + 256 * (bs.getD (4 * k + 1) 0).toNat % M) % M + 65536 * (bs.getD (4 * k + 2) 0).toNat % M) % M : Nat) : Int) := hdep 25 (by omega) (by kernel_rfl)
          have h2 : ac.eval (.tmp 55) = .int .u32 ((16777216 * (bs.getD (4 * k + 3) 0).toNat % M : Nat) : Int) := hdep 33 (by omega) (by kernel_rfl)
          exact ow_add32 _ _ 22 22 _ _ rfl h1 h2 Try.underlying22 ⟨_, rfl, fun vs' h _ => h (fun e => by cases e), hbr, hS⟩
        | n + 35, hi, _ => exact absurd hi (by omega)
      case fin5 =>
        intro vs W hS hF
        have e0 : vs 0 = .slice (some ⟨gm, 0, none⟩) 16 16 := hF 0 (by omega)
        have e1 : vs 1 = .int .i64 (k : Int) := hF 1 (by omega)
        have e34 : vs 34 = .int .u32 ((((((bs.getD (4 * k) 0).toNat + 256 * (bs.getD (4 * k + 1) 0).toNat % M) % M + 65536 * (bs.getD (4 * k + 2) 0).toNat % M) % M + 16777216 * (bs.getD (4 * k + 3) 0).toNat % M) % M : Nat) : Int) := hF 34 (by omega)
        clear hF
        change wpList _ _ _ _ (Act.put (Act.put (Act.put (Act.put (Act.put (Act.put (Act.put (Act.put (Act.put (Act.put (Act.put (Act.put (Act.put (Act.put (Act.put (Act.put (Act.put (Act.put (Act.put (Act.put (Act.put (Act.put (Act.put (Act.put (Act.put (Act.put (Act.put (Act.put (Act.put (Act.put (Act.put (Act.put (Act.put (Act.put (Act.put _ (some 22) (vs 0)) (some 23) (vs 1)) (some 24) (vs 2)) (some 25) (vs 3)) (some 26) (vs 4)) (some 27) (vs 5)) (some 28) (vs 6)) (some 29) (vs 7)) (some 30) (vs 8)) (some 31) (vs 9)) (some 32) (vs 10)) (some 33) (vs 11)) (some 34) (vs 12)) (some 35) (vs 13)) (some 36) (vs 14)) (some 37) (vs 15)) (some 38) (vs 16)) (some 39) (vs 17)) (some 40) (vs 18)) (some 41) (vs 19)) (some 42) (vs 20)) (some 43) (vs 21)) (some 44) (vs 22)) (some 45) (vs 23)) (some 46) (vs 24)) (some 47) (vs 25)) (some 48) (vs 26)) (some 49) (vs 27)) (some 50) (vs 28)) (some 51) (vs 29)) (some 52) (vs 30)) (some 53) (vs 31)) (some 54) (vs 32)) (some 55) (vs 33)) (some 56) (vs 34)) W
        rw [e0, e1, e34]
        clear e0 e1 e34
        generalize vs 2 = z2
        generalize vs 3 = z3
        generalize vs 4 = z4
        generalize vs 5 = z5
        generalize vs 6 = z6
        generalize vs 7 = z7
        generalize vs 8 = z8
        generalize vs 9 = z9
        generalize vs 10 = z10
        generalize vs 11 = z11
        generalize vs 12 = z12
        generalize vs 13 = z13
        generalize vs 14 = z14
        generalize vs 15 = z15
        generalize vs 16 = z16
        generalize vs 17 = z17
        generalize vs 18 = z18
        generalize vs 19 = z19
        generalize vs 20 = z20
        generalize vs 21 = z21
        generalize vs 22 = z22
        generalize vs 23 = z23
        generalize vs 24 = z24
        generalize vs 25 = z25
        generalize vs 26 = z26
        generalize vs 27 = z27
        generalize vs 28 = z28
        generalize vs 29 = z29
        generalize vs 30 = z30
        generalize vs 31 = z31
        generalize vs 32 = z32
        generalize vs 33 = z33
        simp only [putAll, List.drop_succ_cons, List.drop_zero, Act.put, List.setIfInBounds_toArray, List.set_cons_zero, List.set_cons_succ]
        clear vs
        rw [word_sum]
        have hcv := words_cell ((HX.out.rm).below hS) k (by simp [mTo]; omega)
        have hfz : W.frozen? ⟨gm, k, none⟩ = false := frozen_of_row W gm _ _ _ ((HX.out.rm).below hS)
        have HXW := Lib.hid (HX.out.keep hS)
        clear hS HX
        obtain ⟨X, hX⟩ : ∃ X : Nat, X = word bs k := ⟨_, rfl⟩
        rw [← hX]
        have HXX := Lib.hid hX
        clear hX
        go_wp2_with fail
        go_roundw
        case rel =>
          have hgr : W.grownBy (W.setCell ⟨gm, k, none⟩ (.int .u32 (X : Int))) (some gm) := grown_setCell (grown_refl _ _) _ _
          refine ⟨k + 1, by omega, rfl, ⟨HXW.out.bel.grown hgr HXW.out.bel.size (fun q e => by injection e with e; omega), blk_grown HXW.out.rh hgr (fun e => by injection e with e; omega), blk_grown HXW.out.rr hgr (fun e => by injection e with e; omega), ?_⟩⟩
          rw [← mTo_succ, ← HXX.out]
          exact HXW.out.rm.set k X
        case measure => simp [intOf]; omega
    have hd : decide (((16 : Nat) : Int) < 16) = false := by decide
    rw [mTo_all] at HX
    have hs16 := HX.out.bel.size
    obtain ⟨gv, hgv⟩ : ∃ gv, gv = wr.heap.size := ⟨_, rfl⟩
    have h3lt : gm < gv := by have := blk_lt HX.out.rm; omega
    have HGV := Lib.hid hgv
    clear hgv hs16
    go_upto_region 7 with (refine wpList_make45 rfl _ _ rfl rfl rfl ?_; rw [← HGV.out]; intro w5 hT hS hG; have HT5 := Lib.hid hT; have HG5 : Hid (Below wr.heap.size wr w5) := Lib.hid (by rw [← HGV.out]; exact hG); clear hT hS hG)
    have HX5 := Lib.hid (HX.out.keep HG5.out)
    clear HX HG5
    go_wp2_with fail
    go_loopw [12] (fun i wr => ∃ k : Nat, k ≤ 8 ∧ i = .int .i64 (k : Int) ∧ RMx w th tr gm h (wordsF bs) wr ∧ RowS wr gv (vTo h k)) (fun i _ => 8 - (intOf i).toNat)
    case atStart => exact ⟨0, by omega, rfl, HX5.out, HT5.out⟩
    case round =>
      clear HX5 HT5
      obtain ⟨k, hk, rfl, hx, hv⟩ := hrel
      have HX := Lib.hid hx
      have HV := Lib.hid hv
      clear hx hv
      rcases (show k < 8 ∨ k = 8 by omega) with hlt | rfl
      · have hd : decide ((k : Int) < 8) = true := by simp; omega
        have hch := words_cell HX.out.rh k (by rw [HH.out.1]; exact hlt)
        have hcv := words_cell HV.out k (by simp [vTo]; omega)
        have hfz : wr.frozen? ⟨gv, k, none⟩ = false := frozen_of_row wr gv _ _ _ HV.out
        have hk16 : k < 16 := by omega
        obtain ⟨X, hX⟩ : ∃ X, X = h.getD k 0 := ⟨_, rfl⟩
        rw [← hX] at hch
        have HXX := Lib.hid hX
        clear hX
        go_upto_region 11 with fail
        have hgr : wr.grownBy (wr.setCell ⟨gv, k, none⟩ (.int .u32 (X : Int))) (some gv) := grown_setCell (grown_refl _ _) _ _
        have hV2 := HV.out.set k X
        have hX2 := HX.out.other hgr (by omega) (by omega) (by omega) (by omega)
        obtain ⟨w6, hw6⟩ : ∃ w6, w6 = wr.setCell ⟨gv, k, none⟩ (.int .u32 (X : Int)) := ⟨_, rfl⟩
        rw [← hw6] at hV2 hX2 ⊢
        have HX6 := Lib.hid hX2
        have HV6 := Lib.hid hV2
        clear hw6 hX2 hV2 hgr hcv hch hfz HX HV
        go_wp2_with fail
        refine (iv_any k hlt w6).mono ?_
        rintro e w7 ⟨rfl, hb7⟩
        have HX7 := Lib.hid (HX6.out.keep hb7)
        have HV7 := Lib.hid (HV6.out.below hb7)
        clear hb7 HX6 HV6
        have hcv := words_cell HV7.out (k + 8) (by simp [vTo]; omega)
        have hfz : w7.frozen? ⟨gv, k + 8, none⟩ = false := frozen_of_row w7 gv _ _ _ HV7.out
        obtain ⟨Y, hY⟩ : ∃ Y, Y = iv.getD k 0 := ⟨_, rfl⟩
        rw [← hY]
        have HYY := Lib.hid hY
        have hk16' : k + 8 < 16 := by omega
        clear hY
        go_wp2_with fail
        go_roundw
        case rel =>
          have hgr : w7.grownBy (w7.setCell ⟨gv, k + 8, none⟩ (.int .u32 (Y : Int))) (some gv) := grown_setCell (grown_refl _ _) _ _
          refine ⟨k + 1, by omega, rfl, HX7.out.other hgr (by omega) (by omega) (by omega) (by omega), ?_⟩
          rw [← vTo_succ h k hlt, ← HXX.out, ← HYY.out]
          exact HV7.out.set (k + 8) Y
        case measure => simp [intOf]; omega
      · have hd : decide (((8 : Nat) : Int) < 8) = false := by decide
        rw [vTo_all h HH.out.1] at HV
        have hmm : n % M % M = n % M := Nat.mod_mod _ _
        have hcv := words_cell HV.out 12 (by simp [iv, HH.out.1])
        rw [(hiv_at h HH.out.1).1] at hcv
        have hfz : wr.frozen? ⟨gv, 12, none⟩ = false := frozen_of_row wr gv _ _ _ HV.out
        obtain ⟨X, hX⟩ : ∃ X, X = 1359893119 ^^^ n % M := ⟨_, rfl⟩
        have HXX := Lib.hid hX
        clear hX
        have HMM := Lib.hid hmm
        clear hmm
        go_upto_region 13 with (first
          | (refine wpList_rem64 rfl _ _ _ _ n rfl rfl rfl ?_)
          | (refine wpList_conv32 rfl _ _ rfl rfl ?_; rw [HMM.out])
          | (refine wpList_xor32 rfl _ _ _ _ 1359893119 _ rfl rfl rfl (by decide) (Nat.mod_lt _ (by decide)) Try.underlying22 ?_; rw [← HXX.out]))
        have hgr : wr.grownBy (wr.setCell ⟨gv, 12, none⟩ (.int .u32 (X : Int))) (some gv) := grown_setCell (grown_refl _ _) _ _
        have hV2 := HV.out.set 12 X
        have hX2 := HX.out.other hgr (by omega) (by omega) (by omega) (by omega)
        obtain ⟨w6, hw6⟩ : ∃ w6, w6 = wr.setCell ⟨gv, 12, none⟩ (.int .u32 (X : Int)) := ⟨_, rfl⟩
        rw [← hw6] at hV2 hX2 ⊢
        have HX6 := Lib.hid hX2
        have HV6 := Lib.hid hV2
        clear hw6 hX2 hV2 hgr hcv hfz HX HV
        have hcv := words_cell HV6.out 13 (by simp [iv, HH.out.1])
        rw [((hiv_at h HH.out.1).2 X).1] at hcv
        have hfz : w6.frozen? ⟨gv, 13, none⟩ = false := frozen_of_row w6 gv _ _ _ HV6.out
        obtain ⟨Y, hY⟩ : ∃ Y, Y = 2600822924 ^^^ n / M % M := ⟨_, rfl⟩
        have HYY := Lib.hid hY
        clear hY
        go_upto_if 93 with (first
          | (refine wpList_quo64 rfl _ _ _ _ n rfl rfl rfl hn ?_)
          | (refine wpList_conv32 rfl _ _ rfl rfl ?_)
          | (refine wpList_xor32 rfl _ _ _ _ 2600822924 _ rfl rfl rfl (by decide) (Nat.mod_lt _ (by decide)) Try.underlying22 ?_; rw [← HYY.out]))
        have hgr : w6.grownBy (w6.setCell ⟨gv, 13, none⟩ (.int .u32 (Y : Int))) (some gv) := grown_setCell (grown_refl _ _) _ _
        have hV2 := HV6.out.set 13 Y
        have hX2 := HX6.out.other hgr (by omega) (by omega) (by omega) (by omega)
        obtain ⟨w7, hw7⟩ : ∃ w7, w7 = w6.setCell ⟨gv, 13, none⟩ (.int .u32 (Y : Int)) := ⟨_, rfl⟩
        rw [← hw7] at hV2 hX2 ⊢
        have HX7 := Lib.hid hX2
        have HV7 := Lib.hid hV2
        clear hw7 hX2 hV2 hgr hcv hfz HX6 HV6
        go_cut [] from 94 (fun wc => RMx w th tr gm h (wordsF bs) wc ∧ RowS wc gv (init h n last))
        case first =>
          cases last with
          | false =>
            go_wp2_with fail
            go_meet
            case rel =>
              refine ⟨HX7.out, ?_⟩
              rw [← init_set' h HH.out.1 n, show (1359893119 ^^^ n % M : Nat) = X from HXX.out.symm, show (2600822924 ^^^ n / M % M : Nat) = Y from HYY.out.symm]
              exact HV7.out
          | true =>
            have hcv := words_cell HV7.out 14 (by simp [iv, HH.out.1])
            rw [((hiv_at h HH.out.1).2 X).2 Y] at hcv
            have hfz : w7.frozen? ⟨gv, 14, none⟩ = false := frozen_of_row w7 gv _ _ _ HV7.out
            go_wp2_with (refine wpList_xor32 rfl _ _ _ _ 528734635 4294967295 rfl rfl rfl (by decide) (by decide) Try.underlying22 ?_)
            go_meet
            case rel =>
              have hgr : w7.grownBy (w7.setCell ⟨gv, 14, none⟩ (.int .u32 ((528734635 ^^^ 4294967295 : Nat) : Int))) (some gv) := grown_setCell (grown_refl _ _) _ _
              refine ⟨HX7.out.other hgr (by omega) (by omega) (by omega) (by omega), ?_⟩
              have hset := HV7.out.set 14 (528734635 ^^^ 4294967295)
              rw [← init_set h HH.out.1 n true, show (1359893119 ^^^ n % M : Nat) = X from HXX.out.symm, show (2600822924 ^^^ n / M % M : Nat) = Y from HYY.out.symm]
              exact hset
        apply_assumption
        obtain ⟨hxc, hvc⟩ := hcut
        have HXC := Lib.hid hxc
        have HVC := Lib.hid hvc
        clear hxc hvc HX7 HV7
        obtain ⟨vi, hvi⟩ : ∃ vi, vi = init h n last := ⟨_, rfl⟩
        rw [← hvi] at HVC
        have HVI := Lib.hid hvi
        have HWI := Lib.hid (show Wds 16 vi by rw [hvi]; exact HH.out.init n last)
        clear hvi
        obtain ⟨m, hm⟩ : ∃ m, m = wordsF bs := ⟨_, rfl⟩
        rw [← hm] at HXC
        have HM := Lib.hid hm
        have HMW := Lib.hid (show Wds 16 m by rw [hm]; exact wds_words bs)
        clear hm
        go_wp2_with fail
        refine (ordersR_any wc).mono ?_
        rintro e w8 ⟨G, rfl, hO, hb8⟩
        obtain ⟨B, hB⟩ : ∃ B, B = wc.heap.size := ⟨_, rfl⟩
        rw [← hB] at hO
        have h4lt : gv < B := by have := blk_lt HVC.out; omega
        have HA8 := Lib.hid hO
        have HX8 := Lib.hid (HXC.out.keep hb8)
        have HV8 := Lib.hid (HVC.out.below hb8)
        clear hO hb8 HXC HVC hB
        go_wp2_with fail
        go_loopw [14] (fun i wr => ∃ r : Nat, r ≤ 10 ∧ i = .int .i64 (r : Int) ∧ RMx w th tr gm h m wr ∧ RowS wr gv (rounds m r vi) ∧ OrdAt B G wr) (fun i _ => 10 - (intOf i).toNat)
        case atStart => exact ⟨0, by omega, rfl, HX8.out, HV8.out, HA8.out⟩
        case round =>
          clear HX8 HV8 HA8
          obtain ⟨r, hr, rfl, hx, hv, hA⟩ := hrel
          rcases (show r < 10 ∨ r = 10 by omega) with hlt | rfl
          · have hd : decide ((r : Int) < 10) = true := by simp; omega
            obtain ⟨gr, hgr1, hco, hgr2⟩ := hA.2 r hlt
            obtain ⟨v0, hv0⟩ : ∃ v0, v0 = rounds m r vi := ⟨_, rfl⟩
            rw [← hv0] at hv
            have HW0 := Lib.hid (show Wds 16 v0 by rw [hv0]; exact HWI.out.rounds m r)
            have HVN0 := Lib.hid hv0
            have HX0 := Lib.hid hx
            have HV0 := Lib.hid hv
            have HA0 := Lib.hid hA
            have HO0 := Lib.hid hgr2
            clear hv0 hx hv hA hgr2
            go_upto_region 21 with fail
            clear hco
            refine region_f 13 (fun i vs W => match i with
                | 0 => vs 0 = .slice (some ⟨gv, 0, none⟩) 16 16
                | 1 => vs 1 = .slice (some ⟨gm, 0, none⟩) 16 16
                | 2 => vs 2 = .slice (some ⟨gr, 0, none⟩) 16 16
                | 3 => vs 3 = .pointer (some ⟨gr, 0 + 0, none⟩)
                | 4 => vs 4 = .int .i64 ((sg r 0 : Nat) : Int)
                | 5 => vs 5 = .pointer (some ⟨gm, 0 + sg r 0, none⟩)
                | 6 => vs 6 = .int .u32 ((m.getD (sg r 0) 0 : Nat) : Int)
                | 7 => vs 7 = .slice (some ⟨gm, 0, none⟩) 16 16
                | 8 => vs 8 = .slice (some ⟨gr, 0, none⟩) 16 16
                | 9 => vs 9 = .pointer (some ⟨gr, 0 + 1, none⟩)
                | 10 => vs 10 = .int .i64 ((sg r 1 : Nat) : Int)
                | 11 => vs 11 = .pointer (some ⟨gm, 0 + sg r 1, none⟩)
                | 12 => vs 12 = .int .u32 ((m.getD (sg r 1) 0 : Nat) : Int)
                | _ => True) (fun _ W W' => Below W.heap.size W W') (fun W => Below wr.heap.size wr W) (by kernel_rfl) (by kernel_rfl) ?hst21 ?h021 ?step21 ?fin21
            case hst21 =>
              intro i k vs W W' _ _ h hG
              match i, h with
              | 0, h => exact h
              | 1, h => exact h
              | 2, h => exact h
              | 3, h => exact h
              | 4, h => exact h
              | 5, h => exact h
              | 6, h => exact h
              | 7, h => exact h
              | 8, h => exact h
              | 9, h => exact h
              | 10, h => exact h
              | 11, h => exact h
              | 12, h => exact h
              | n + 13, _ => trivial
            case h021 => exact (Below.refl _ _).drew
            case step21 =>
              intro i op hi ho ac W hS hag hdep
              have hbr : Below W.heap.size W W := Below.refl _ _
              match i, hi, ho with
              | 0, _, rfl =>
                exact ow_move _ rfl (hag 11 rfl) ⟨_, rfl, fun vs' h _ => h (fun e => by cases e), hbr, hS⟩
              | 1, _, rfl =>
                exact ow_move _ rfl (hag 9 rfl) ⟨_, rfl, fun vs' h _ => h (fun e => by cases e), hbr, hS⟩
              | 2, _, rfl =>
                exact ow_move _ rfl (hag 15 rfl) ⟨_, rfl, fun vs' h _ => h (fun e => by cases e), hbr, hS⟩
              | 3, _, rfl =>
                have h1 : ac.eval (.tmp 111) = .slice (some ⟨gr, 0, none⟩) 16 16 := hdep 2 (by omega) (by kernel_rfl)
                exact ow_index _ _ 3 49 rfl gr 0 16 16 0 h1 rfl (by decide) Try.underlying49 (by kernel_rfl) ⟨_, rfl, fun vs' h _ => h (fun e => by cases e), hbr, hS⟩
              | 4, _, rfl =>
                have h1 : ac.eval (.tmp 112) = .pointer (some ⟨gr, 0 + 0, none⟩) := hdep 3 (by omega) (by kernel_rfl)
                exact ow_load_int _ 3 .i64 rfl gr (0 + 0) h1 _ ((cell_of_row _ _ (0 + 0) _ _ _ (blk_below HO0.out hS)).trans (ordW_get r 0 (by decide))) Try.underlying3 ⟨_, rfl, fun vs' h _ => h (fun e => by cases e), hbr, hS⟩
              | 5, _, rfl =>
                have h1 : ac.eval (.tmp 110) = .slice (some ⟨gm, 0, none⟩) 16 16 := hdep 1 (by omega) (by kernel_rfl)
                have h2 : ac.eval (.tmp 113) = .int .i64 ((sg r 0 : Nat) : Int) := hdep 4 (by omega) (by kernel_rfl)
                exact ow_index _ _ 22 45 rfl gm 0 16 16 (sg r 0) h1 h2 (sg_lt r hlt 0 (by decide)) Try.underlying45 tag22 ⟨_, rfl, fun vs' h _ => h (fun e => by cases e), hbr, hS⟩
              | 6, _, rfl =>
                have h1 : ac.eval (.tmp 114) = .pointer (some ⟨gm, 0 + sg r 0, none⟩) := hdep 5 (by omega) (by kernel_rfl)
                exact ow_load_int _ 22 .u32 rfl gm (0 + sg r 0) h1 _ (by rw [Nat.zero_add]; exact words_cell (HX0.out.rm.below hS) (sg r 0) (by rw [HMW.out.1]; exact sg_lt r hlt 0 (by decide))) Try.underlying22 ⟨_, rfl, fun vs' h _ => h (fun e => by cases e), hbr, hS⟩
              | 7, _, rfl =>
                exact ow_move _ rfl (hag 9 rfl) ⟨_, rfl, fun vs' h _ => h (fun e => by cases e), hbr, hS⟩
              | 8, _, rfl =>
                exact ow_move _ rfl (hag 15 rfl) ⟨_, rfl, fun vs' h _ => h (fun e => by cases e), hbr, hS⟩
              | 9, _, rfl =>
                have h1 : ac.eval (.tmp 117) = .slice (some ⟨gr, 0, none⟩) 16 16 := hdep 8 (by omega) (by kernel_rfl)
                exact ow_index _ _ 3 49 rfl gr 0 16 16 1 h1 rfl (by decide) Try.underlying49 (by kernel_rfl) ⟨_, rfl, fun vs' h _ => h (fun e => by cases e), hbr, hS⟩
              | 10, _, rfl =>
                have h1 : ac.eval (.tmp 118) = .pointer (some ⟨gr, 0 + 1, none⟩) := hdep 9 (by omega) (by kernel_rfl)
                exact ow_load_int _ 3 .i64 rfl gr (0 + 1) h1 _ ((cell_of_row _ _ (0 + 1) _ _ _ (blk_below HO0.out hS)).trans (ordW_get r 1 (by decide))) Try.underlying3 ⟨_, rfl, fun vs' h _ => h (fun e => by cases e), hbr, hS⟩
              | 11, _, rfl =>
                have h1 : ac.eval (.tmp 116) = .slice (some ⟨gm, 0, none⟩) 16 16 := hdep 7 (by omega) (by kernel_rfl)
                have h2 : ac.eval (.tmp 119) = .int .i64 ((sg r 1 : Nat) : Int) := hdep 10 (by omega) (by kernel_rfl)
                exact ow_index _ _ 22 45 rfl gm 0 16 16 (sg r 1) h1 h2 (sg_lt r hlt 1 (by decide)) Try.underlying45 tag22 ⟨_, rfl, fun vs' h _ => h (fun e => by cases e), hbr, hS⟩
              | 12, _, rfl =>
                have h1 : ac.eval (.tmp 120) = .pointer (some ⟨gm, 0 + sg r 1, none⟩) := hdep 11 (by omega) (by kernel_rfl)
                exact ow_load_int _ 22 .u32 rfl gm (0 + sg r 1) h1 _ (by rw [Nat.zero_add]; exact words_cell (HX0.out.rm.below hS) (sg r 1) (by rw [HMW.out.1]; exact sg_lt r hlt 1 (by decide))) Try.underlying22 ⟨_, rfl, fun vs' h _ => h (fun e => by cases e), hbr, hS⟩
              | n + 13, hi, _ => exact absurd hi (by omega)
            case fin21 =>
              intro vs W hS hF
              have e0 : vs 0 = .slice (some ⟨gv, 0, none⟩) 16 16 := hF 0 (by omega)
              have e1 : vs 1 = .slice (some ⟨gm, 0, none⟩) 16 16 := hF 1 (by omega)
              have e2 : vs 2 = .slice (some ⟨gr, 0, none⟩) 16 16 := hF 2 (by omega)
              have e3 : vs 3 = .pointer (some ⟨gr, 0 + 0, none⟩) := hF 3 (by omega)
              have e4 : vs 4 = .int .i64 ((sg r 0 : Nat) : Int) := hF 4 (by omega)
              have e5 : vs 5 = .pointer (some ⟨gm, 0 + sg r 0, none⟩) := hF 5 (by omega)
              have e6 : vs 6 = .int .u32 ((m.getD (sg r 0) 0 : Nat) : Int) := hF 6 (by omega)
              have e7 : vs 7 = .slice (some ⟨gm, 0, none⟩) 16 16 := hF 7 (by omega)
              have e8 : vs 8 = .slice (some ⟨gr, 0, none⟩) 16 16 := hF 8 (by omega)
              have e9 : vs 9 = .pointer (some ⟨gr, 0 + 1, none⟩) := hF 9 (by omega)
              have e10 : vs 10 = .int .i64 ((sg r 1 : Nat) : Int) := hF 10 (by omega)
              have e11 : vs 11 = .pointer (some ⟨gm, 0 + sg r 1, none⟩) := hF 11 (by omega)
              have e12 : vs 12 = .int .u32 ((m.getD (sg r 1) 0 : Nat) : Int) := hF 12 (by omega)
              clear hF
              change wpList _ _ _ _ (Act.put (Act.put (Act.put (Act.put (Act.put (Act.put (Act.put (Act.put (Act.put (Act.put (Act.put (Act.put (Act.put _ (some 109) (vs 0)) (some 110) (vs 1)) (some 111) (vs 2)) (some 112) (vs 3)) (some 113) (vs 4)) (some 114) (vs 5)) (some 115) (vs 6)) (some 116) (vs 7)) (some 117) (vs 8)) (some 118) (vs 9)) (some 119) (vs 10)) (some 120) (vs 11)) (some 121) (vs 12)) W
              rw [e0, e1, e2, e3, e4, e5, e6, e7, e8, e9, e10, e11, e12]
              clear e0 e1 e2 e3 e4 e5 e6 e7 e8 e9 e10 e11 e12
              simp only [putAll, List.drop_succ_cons, List.drop_zero, Act.put, List.setIfInBounds_toArray, List.set_cons_zero, List.set_cons_succ]
              clear vs
              have HXW := Lib.hid (HX0.out.keep hS)
              have HVW := Lib.hid (HV0.out.below hS)
              have HOW := Lib.hid (blk_below HO0.out hS)
              have HAW := Lib.hid (HA0.out.below hS)
              clear hS HX0 HV0 HO0 HA0
              go_wp2_with fail
              refine (stirR_any gv 0 4 8 12 (m.getD (sg r 0) 0) (m.getD (sg r 1) 0) v0 HW0.out (by decide) (by decide) (by decide) (by decide) W HVW.out).mono ?_
              rintro e w10 ⟨rfl, hrow, hgr⟩
              obtain ⟨v1, hv1⟩ : ∃ v1, v1 = stirF v0 0 4 8 12 (m.getD (sg r 0) 0) (m.getD (sg r 1) 0) := ⟨_, rfl⟩
              rw [← hv1] at hrow
              have HW1 := Lib.hid (show Wds 16 v1 by rw [hv1]; exact HW0.out.stirF _ _ _ _ _ _)
              have HV1 := Lib.hid hrow
              have HX1 := Lib.hid (HXW.out.other hgr (by omega) (by omega) (by omega) (by omega))
              have HO1 := Lib.hid (blk_grown HOW.out hgr (fun e => by injection e with e; omega))
              have HA1 := Lib.hid (HAW.out.grown hgr (by omega))
              have HVN1 := Lib.hid hv1
              clear hrow hgr hv1 HXW HVW HOW HAW
              go_upto_region 22 with fail
              refine region_f 13 (fun i vs W => match i with
                  | 0 => vs 0 = .slice (some ⟨gv, 0, none⟩) 16 16
                  | 1 => vs 1 = .slice (some ⟨gm, 0, none⟩) 16 16
                  | 2 => vs 2 = .slice (some ⟨gr, 0, none⟩) 16 16
                  | 3 => vs 3 = .pointer (some ⟨gr, 0 + 2, none⟩)
                  | 4 => vs 4 = .int .i64 ((sg r 2 : Nat) : Int)
                  | 5 => vs 5 = .pointer (some ⟨gm, 0 + sg r 2, none⟩)
                  | 6 => vs 6 = .int .u32 ((m.getD (sg r 2) 0 : Nat) : Int)
                  | 7 => vs 7 = .slice (some ⟨gm, 0, none⟩) 16 16
                  | 8 => vs 8 = .slice (some ⟨gr, 0, none⟩) 16 16
                  | 9 => vs 9 = .pointer (some ⟨gr, 0 + 3, none⟩)
                  | 10 => vs 10 = .int .i64 ((sg r 3 : Nat) : Int)
                  | 11 => vs 11 = .pointer (some ⟨gm, 0 + sg r 3, none⟩)
                  | 12 => vs 12 = .int .u32 ((m.getD (sg r 3) 0 : Nat) : Int)
                  | _ => True) (fun _ W W' => Below W.heap.size W W') (fun W => Below w10.heap.size w10 W) (by kernel_rfl) (by kernel_rfl) ?hst22 ?h022 ?step22 ?fin22
              case hst22 =>
                intro i k vs W W' _ _ h hG
                match i, h with
                | 0, h => exact h
                | 1, h => exact h
                | 2, h => exact h
                | 3, h => exact h
                | 4, h => exact h
                | 5, h => exact h
                | 6, h => exact h
                | 7, h => exact h
                | 8, h => exact h
                | 9, h => exact h
                | 10, h => exact h
                | 11, h => exact h
                | 12, h => exact h
                | n + 13, _ => trivial
              case h022 => exact (Below.refl _ _).drew
              case step22 =>
                intro i op hi ho ac W hS hag hdep
                have hbr : Below W.heap.size W W := Below.refl _ _
                match i, hi, ho with
                | 0, _, rfl =>
                  exact ow_move _ rfl (hag 11 rfl) ⟨_, rfl, fun vs' h _ => h (fun e => by cases e), hbr, hS⟩
                | 1, _, rfl =>
                  exact ow_move _ rfl (hag 9 rfl) ⟨_, rfl, fun vs' h _ => h (fun e => by cases e), hbr, hS⟩
                | 2, _, rfl =>
                  exact ow_move _ rfl (hag 15 rfl) ⟨_, rfl, fun vs' h _ => h (fun e => by cases e), hbr, hS⟩
                | 3, _, rfl =>
                  have h1 : ac.eval (.tmp 125) = .slice (some ⟨gr, 0, none⟩) 16 16 := hdep 2 (by omega) (by kernel_rfl)
                  exact ow_index _ _ 3 49 rfl gr 0 16 16 2 h1 rfl (by decide) Try.underlying49 (by kernel_rfl) ⟨_, rfl, fun vs' h _ => h (fun e => by cases e), hbr, hS⟩
                | 4, _, rfl =>
                  have h1 : ac.eval (.tmp 126) = .pointer (some ⟨gr, 0 + 2, none⟩) := hdep 3 (by omega) (by kernel_rfl)
                  exact ow_load_int _ 3 .i64 rfl gr (0 + 2) h1 _ ((cell_of_row _ _ (0 + 2) _ _ _ (blk_below HO1.out hS)).trans (ordW_get r 2 (by decide))) Try.underlying3 ⟨_, rfl, fun vs' h _ => h (fun e => by cases e), hbr, hS⟩
                | 5, _, rfl =>
                  have h1 : ac.eval (.tmp 124) = .slice (some ⟨gm, 0, none⟩) 16 16 := hdep 1 (by omega) (by kernel_rfl)
                  have h2 : ac.eval (.tmp 127) = .int .i64 ((sg r 2 : Nat) : Int) := hdep 4 (by omega) (by kernel_rfl)
                  exact ow_index _ _ 22 45 rfl gm 0 16 16 (sg r 2) h1 h2 (sg_lt r hlt 2 (by decide)) Try.underlying45 tag22 ⟨_, rfl, fun vs' h _ => h (fun e => by cases e), hbr, hS⟩
                | 6, _, rfl =>
                  have h1 : ac.eval (.tmp 128) = .pointer (some ⟨gm, 0 + sg r 2, none⟩) := hdep 5 (by omega) (by kernel_rfl)
                  exact ow_load_int _ 22 .u32 rfl gm (0 + sg r 2) h1 _ (by rw [Nat.zero_add]; exact words_cell (HX1.out.rm.below hS) (sg r 2) (by rw [HMW.out.1]; exact sg_lt r hlt 2 (by decide))) Try.underlying22 ⟨_, rfl, fun vs' h _ => h (fun e => by cases e), hbr, hS⟩
                | 7, _, rfl =>
                  exact ow_move _ rfl (hag 9 rfl) ⟨_, rfl, fun vs' h _ => h (fun e => by cases e), hbr, hS⟩
                | 8, _, rfl =>
                  exact ow_move _ rfl (hag 15 rfl) ⟨_, rfl, fun vs' h _ => h (fun e => by cases e), hbr, hS⟩
                | 9, _, rfl =>
                  have h1 : ac.eval (.tmp 131) = .slice (some ⟨gr, 0, none⟩) 16 16 := hdep 8 (by omega) (by kernel_rfl)
                  exact ow_index _ _ 3 49 rfl gr 0 16 16 3 h1 rfl (by decide) Try.underlying49 (by kernel_rfl) ⟨_, rfl, fun vs' h _ => h (fun e => by cases e), hbr, hS⟩
                | 10, _, rfl =>
                  have h1 : ac.eval (.tmp 132) = .pointer (some ⟨gr, 0 + 3, none⟩) := hdep 9 (by omega) (by kernel_rfl)
                  exact ow_load_int _ 3 .i64 rfl gr (0 + 3) h1 _ ((cell_of_row _ _ (0 + 3) _ _ _ (blk_below HO1.out hS)).trans (ordW_get r 3 (by decide))) Try.underlying3 ⟨_, rfl, fun vs' h _ => h (fun e => by cases e), hbr, hS⟩
                | 11, _, rfl =>
                  have h1 : ac.eval (.tmp 130) = .slice (some ⟨gm, 0, none⟩) 16 16 := hdep 7 (by omega) (by kernel_rfl)
                  have h2 : ac.eval (.tmp 133) = .int .i64 ((sg r 3 : Nat) : Int) := hdep 10 (by omega) (by kernel_rfl)
                  exact ow_index _ _ 22 45 rfl gm 0 16 16 (sg r 3) h1 h2 (sg_lt r hlt 3 (by decide)) Try.underlying45 tag22 ⟨_, rfl, fun vs' h _ => h (fun e => by cases e), hbr, hS⟩
                | 12, _, rfl =>
                  have h1 : ac.eval (.tmp 134) = .pointer (some ⟨gm, 0 + sg r 3, none⟩) := hdep 11 (by omega) (by kernel_rfl)
                  exact ow_load_int _ 22 .u32 rfl gm (0 + sg r 3) h1 _ (by rw [Nat.zero_add]; exact words_cell (HX1.out.rm.below hS) (sg r 3) (by rw [HMW.out.1]; exact sg_lt r hlt 3 (by decide))) Try.underlying22 ⟨_, rfl, fun vs' h _ => h (fun e => by cases e), hbr, hS⟩
                | n + 13, hi, _ => exact absurd hi (by omega)
              case fin22 =>
                intro vs W hS hF
                have e0 : vs 0 = .slice (some ⟨gv, 0, none⟩) 16 16 := hF 0 (by omega)
                have e1 : vs 1 = .slice (some ⟨gm, 0, none⟩) 16 16 := hF 1 (by omega)
                have e2 : vs 2 = .slice (some ⟨gr, 0, none⟩) 16 16 := hF 2 (by omega)
                have e3 : vs 3 = .pointer (some ⟨gr, 0 + 2, none⟩) := hF 3 (by omega)
                have e4 : vs 4 = .int .i64 ((sg r 2 : Nat) : Int) := hF 4 (by omega)
                have e5 : vs 5 = .pointer (some ⟨gm, 0 + sg r 2, none⟩) := hF 5 (by omega)
                have e6 : vs 6 = .int .u32 ((m.getD (sg r 2) 0 : Nat) : Int) := hF 6 (by omega)
                have e7 : vs 7 = .slice (some ⟨gm, 0, none⟩) 16 16 := hF 7 (by omega)
                have e8 : vs 8 = .slice (some ⟨gr, 0, none⟩) 16 16 := hF 8 (by omega)
                have e9 : vs 9 = .pointer (some ⟨gr, 0 + 3, none⟩) := hF 9 (by omega)
                have e10 : vs 10 = .int .i64 ((sg r 3 : Nat) : Int) := hF 10 (by omega)
                have e11 : vs 11 = .pointer (some ⟨gm, 0 + sg r 3, none⟩) := hF 11 (by omega)
                have e12 : vs 12 = .int .u32 ((m.getD (sg r 3) 0 : Nat) : Int) := hF 12 (by omega)
                clear hF
                change wpList _ _ _ _ (Act.put (Act.put (Act.put (Act.put (Act.put (Act.put (Act.put (Act.put (Act.put (Act.put (Act.put (Act.put (Act.put _ (some 123) (vs 0)) (some 124) (vs 1)) (some 125) (vs 2)) (some 126) (vs 3)) (some 127) (vs 4)) (some 128) (vs 5)) (some 129) (vs 6)) (some 130) (vs 7)) (some 131) (vs 8)) (some 132) (vs 9)) (some 133) (vs 10)) (some 134) (vs 11)) (some 135) (vs 12)) W
                rw [e0, e1, e2, e3, e4, e5, e6, e7, e8, e9, e10, e11, e12]
                clear e0 e1 e2 e3 e4 e5 e6 e7 e8 e9 e10 e11 e12
                simp only [putAll, List.drop_succ_cons, List.drop_zero, Act.put, List.setIfInBounds_toArray, List.set_cons_zero, List.set_cons_succ]
                clear vs
                have HXW := Lib.hid (HX1.out.keep hS)
                have HVW := Lib.hid (HV1.out.below hS)
                have HOW := Lib.hid (blk_below HO1.out hS)
                have HAW := Lib.hid (HA1.out.below hS)
                clear hS HX1 HV1 HO1 HA1
                go_wp2_with fail
                refine (stirR_any gv 1 5 9 13 (m.getD (sg r 2) 0) (m.getD (sg r 3) 0) v1 HW1.out (by decide) (by decide) (by decide) (by decide) W HVW.out).mono ?_
                rintro e w20 ⟨rfl, hrow, hgr⟩
                obtain ⟨v2, hv2⟩ : ∃ v2, v2 = stirF v1 1 5 9 13 (m.getD (sg r 2) 0) (m.getD (sg r 3) 0) := ⟨_, rfl⟩
                rw [← hv2] at hrow
                have HW2 := Lib.hid (show Wds 16 v2 by rw [hv2]; exact HW1.out.stirF _ _ _ _ _ _)
                have HV2 := Lib.hid hrow
                have HX2 := Lib.hid (HXW.out.other hgr (by omega) (by omega) (by omega) (by omega))
                have HO2 := Lib.hid (blk_grown HOW.out hgr (fun e => by injection e with e; omega))
                have HA2 := Lib.hid (HAW.out.grown hgr (by omega))
                have HVN2 := Lib.hid hv2
                clear hrow hgr hv2 HXW HVW HOW HAW
                go_upto_region 23 with fail
                refine region_f 13 (fun i vs W => match i with
                    | 0 => vs 0 = .slice (some ⟨gv, 0, none⟩) 16 16
                    | 1 => vs 1 = .slice (some ⟨gm, 0, none⟩) 16 16
                    | 2 => vs 2 = .slice (some ⟨gr, 0, none⟩) 16 16
                    | 3 => vs 3 = .pointer (some ⟨gr, 0 + 4, none⟩)
                    | 4 => vs 4 = .int .i64 ((sg r 4 : Nat) : Int)
                    | 5 => vs 5 = .pointer (some ⟨gm, 0 + sg r 4, none⟩)
                    | 6 => vs 6 = .int .u32 ((m.getD (sg r 4) 0 : Nat) : Int)
                    | 7 => vs 7 = .slice (some ⟨gm, 0, none⟩) 16 16
                    | 8 => vs 8 = .slice (some ⟨gr, 0, none⟩) 16 16
                    | 9 => vs 9 = .pointer (some ⟨gr, 0 + 5, none⟩)
                    | 10 => vs 10 = .int .i64 ((sg r 5 : Nat) : Int)
                    | 11 => vs 11 = .pointer (some ⟨gm, 0 + sg r 5, none⟩)
                    | 12 => vs 12 = .int .u32 ((m.getD (sg r 5) 0 : Nat) : Int)
                    | _ => True) (fun _ W W' => Below W.heap.size W W') (fun W => Below w20.heap.size w20 W) (by kernel_rfl) (by kernel_rfl) ?hst23 ?h023 ?step23 ?fin23
                case hst23 =>
                  intro i k vs W W' _ _ h hG
                  match i, h with
                  | 0, h => exact h
                  | 1, h => exact h
                  | 2, h => exact h
                  | 3, h => exact h
                  | 4, h => exact h
                  | 5, h => exact h
                  | 6, h => exact h
                  | 7, h => exact h
                  | 8, h => exact h
                  | 9, h => exact h
                  | 10, h => exact h
                  | 11, h => exact h
                  | 12, h => exact h
                  | n + 13, _ => trivial
                case h023 => exact (Below.refl _ _).drew
                case step23 =>
                  intro i op hi ho ac W hS hag hdep
                  have hbr : Below W.heap.size W W := Below.refl _ _
                  match i, hi, ho with
                  | 0, _, rfl =>
                    exact ow_move _ rfl (hag 11 rfl) ⟨_, rfl, fun vs' h _ => h (fun e => by cases e), hbr, hS⟩
                  | 1, _, rfl =>
                    exact ow_move _ rfl (hag 9 rfl) ⟨_, rfl, fun vs' h _ => h (fun e => by cases e), hbr, hS⟩
                  | 2, _, rfl =>
                    exact ow_move _ rfl (hag 15 rfl) ⟨_, rfl, fun vs' h _ => h (fun e => by cases e), hbr, hS⟩
                  | 3, _, rfl =>
                    have h1 : ac.eval (.tmp 139) = .slice (some ⟨gr, 0, none⟩) 16 16 := hdep 2 (by omega) (by kernel_rfl)
                    exact ow_index _ _ 3 49 rfl gr 0 16 16 4 h1 rfl (by decide) Try.underlying49 (by kernel_rfl) ⟨_, rfl, fun vs' h _ => h (fun e => by cases e), hbr, hS⟩
                  | 4, _, rfl =>
                    have h1 : ac.eval (.tmp 140) = .pointer (some ⟨gr, 0 + 4, none⟩) := hdep 3 (by omega) (by kernel_rfl)
                    exact ow_load_int _ 3 .i64 rfl gr (0 + 4) h1 _ ((cell_of_row _ _ (0 + 4) _ _ _ (blk_below HO2.out hS)).trans (ordW_get r 4 (by decide))) Try.underlying3 ⟨_, rfl, fun vs' h _ => h (fun e => by cases e), hbr, hS⟩
                  | 5, _, rfl =>
                    have h1 : ac.eval (.tmp 138) = .slice (some ⟨gm, 0, none⟩) 16 16 := hdep 1 (by omega) (by kernel_rfl)
                    have h2 : ac.eval (.tmp 141) = .int .i64 ((sg r 4 : Nat) : Int) := hdep 4 (by omega) (by kernel_rfl)
                    exact ow_index _ _ 22 45 rfl gm 0 16 16 (sg r 4) h1 h2 (sg_lt r hlt 4 (by decide)) Try.underlying45 tag22 ⟨_, rfl, fun vs' h _ => h (fun e => by cases e), hbr, hS⟩
                  | 6, _, rfl =>
                    have h1 : ac.eval (.tmp 142) = .pointer (some ⟨gm, 0 + sg r 4, none⟩) := hdep 5 (by omega) (by kernel_rfl)
                    exact ow_load_int _ 22 .u32 rfl gm (0 + sg r 4) h1 _ (by rw [Nat.zero_add]; exact words_cell (HX2.out.rm.below hS) (sg r 4) (by rw [HMW.out.1]; exact sg_lt r hlt 4 (by decide))) Try.underlying22 ⟨_, rfl, fun vs' h _ => h (fun e => by cases e), hbr, hS⟩
                  | 7, _, rfl =>
                    exact ow_move _ rfl (hag 9 rfl) ⟨_, rfl, fun vs' h _ => h (fun e => by cases e), hbr, hS⟩
                  | 8, _, rfl =>
                    exact ow_move _ rfl (hag 15 rfl) ⟨_, rfl, fun vs' h _ => h (fun e => by cases e), hbr, hS⟩
                  | 9, _, rfl =>
                    have h1 : ac.eval (.tmp 145) = .slice (some ⟨gr, 0, none⟩) 16 16 := hdep 8 (by omega) (by kernel_rfl)
                    exact ow_index _ _ 3 49 rfl gr 0 16 16 5 h1 rfl (by decide) Try.underlying49 (by kernel_rfl) ⟨_, rfl, fun vs' h _ => h (fun e => by cases e), hbr, hS⟩
                  | 10, _, rfl =>
                    have h1 : ac.eval (.tmp 146) = .pointer (some ⟨gr, 0 + 5, none⟩) := hdep 9 (by omega) (by kernel_rfl)
                    exact ow_load_int _ 3 .i64 rfl gr (0 + 5) h1 _ ((cell_of_row _ _ (0 + 5) _ _ _ (blk_below HO2.out hS)).trans (ordW_get r 5 (by decide))) Try.underlying3 ⟨_, rfl, fun vs' h _ => h (fun e => by cases e), hbr, hS⟩
                  | 11, _, rfl =>
                    have h1 : ac.eval (.tmp 144) = .slice (some ⟨gm, 0, none⟩) 16 16 := hdep 7 (by omega) (by kernel_rfl)
                    have h2 : ac.eval (.tmp 147) = .int .i64 ((sg r 5 : Nat) : Int) := hdep 10 (by omega) (by kernel_rfl)
                    exact ow_index _ _ 22 45 rfl gm 0 16 16 (sg r 5) h1 h2 (sg_lt r hlt 5 (by decide)) Try.underlying45 tag22 ⟨_, rfl, fun vs' h _ => h (fun e => by cases e), hbr, hS⟩
                  | 12, _, rfl =>
                    have h1 : ac.eval (.tmp 148) = .pointer (some ⟨gm, 0 + sg r 5, none⟩) := hdep 11 (by omega) (by kernel_rfl)
                    exact ow_load_int _ 22 .u32 rfl gm (0 + sg r 5) h1 _ (by rw [Nat.zero_add]; exact words_cell (HX2.out.rm.below hS) (sg r 5) (by rw [HMW.out.1]; exact sg_lt r hlt 5 (by decide))) Try.underlying22 ⟨_, rfl, fun vs' h _ => h (fun e => by cases e), hbr, hS⟩
                  | n + 13, hi, _ => exact absurd hi (by omega)
                case fin23 =>
                  intro vs W hS hF
                  have e0 : vs 0 = .slice (some ⟨gv, 0, none⟩) 16 16 := hF 0 (by omega)
                  have e1 : vs 1 = .slice (some ⟨gm, 0, none⟩) 16 16 := hF 1 (by omega)
                  have e2 : vs 2 = .slice (some ⟨gr, 0, none⟩) 16 16 := hF 2 (by omega)
                  have e3 : vs 3 = .pointer (some ⟨gr, 0 + 4, none⟩) := hF 3 (by omega)
                  have e4 : vs 4 = .int .i64 ((sg r 4 : Nat) : Int) := hF 4 (by omega)
                  have e5 : vs 5 = .pointer (some ⟨gm, 0 + sg r 4, none⟩) := hF 5 (by omega)
                  have e6 : vs 6 = .int .u32 ((m.getD (sg r 4) 0 : Nat) : Int) := hF 6 (by omega)
                  have e7 : vs 7 = .slice (some ⟨gm, 0, none⟩) 16 16 := hF 7 (by omega)
                  have e8 : vs 8 = .slice (some ⟨gr, 0, none⟩) 16 16 := hF 8 (by omega)
                  have e9 : vs 9 = .pointer (some ⟨gr, 0 + 5, none⟩) := hF 9 (by omega)
                  have e10 : vs 10 = .int .i64 ((sg r 5 : Nat) : Int) := hF 10 (by omega)
                  have e11 : vs 11 = .pointer (some ⟨gm, 0 + sg r 5, none⟩) := hF 11 (by omega)
                  have e12 : vs 12 = .int .u32 ((m.getD (sg r 5) 0 : Nat) : Int) := hF 12 (by omega)
                  clear hF
                  change wpList _ _ _ _ (Act.put (Act.put (Act.put (Act.put (Act.put (Act.put (Act.put (Act.put (Act.put (Act.put (Act.put (Act.put (Act.put _ (some 137) (vs 0)) (some 138) (vs 1)) (some 139) (vs 2)) (some 140) (vs 3)) (some 141) (vs 4)) (some 142) (vs 5)) (some 143) (vs 6)) (some 144) (vs 7)) (some 145) (vs 8)) (some 146) (vs 9)) (some 147) (vs 10)) (some 148) (vs 11)) (some 149) (vs 12)) W
                  rw [e0, e1, e2, e3, e4, e5, e6, e7, e8, e9, e10, e11, e12]
                  clear e0 e1 e2 e3 e4 e5 e6 e7 e8 e9 e10 e11 e12
                  simp only [putAll, List.drop_succ_cons, List.drop_zero, Act.put, List.setIfInBounds_toArray, List.set_cons_zero, List.set_cons_succ]
                  clear vs
                  have HXW := Lib.hid (HX2.out.keep hS)
                  have HVW := Lib.hid (HV2.out.below hS)
                  have HOW := Lib.hid (blk_below HO2.out hS)
                  have HAW := Lib.hid (HA2.out.below hS)
                  clear hS HX2 HV2 HO2 HA2
                  go_wp2_with fail
                  refine (stirR_any gv 2 6 10 14 (m.getD (sg r 4) 0) (m.getD (sg r 5) 0) v2 HW2.out (by decide) (by decide) (by decide) (by decide) W HVW.out).mono ?_
                  rintro e w30 ⟨rfl, hrow, hgr⟩
                  obtain ⟨v3, hv3⟩ : ∃ v3, v3 = stirF v2 2 6 10 14 (m.getD (sg r 4) 0) (m.getD (sg r 5) 0) := ⟨_, rfl⟩
                  rw [← hv3] at hrow
                  have HW3 := Lib.hid (show Wds 16 v3 by rw [hv3]; exact HW2.out.stirF _ _ _ _ _ _)
                  have HV3 := Lib.hid hrow
                  have HX3 := Lib.hid (HXW.out.other hgr (by omega) (by omega) (by omega) (by omega))
                  have HO3 := Lib.hid (blk_grown HOW.out hgr (fun e => by injection e with e; omega))
                  have HA3 := Lib.hid (HAW.out.grown hgr (by omega))
                  have HVN3 := Lib.hid hv3
                  clear hrow hgr hv3 HXW HVW HOW HAW
                  go_upto_region 24 with fail
                  refine region_f 13 (fun i vs W => match i with
                      | 0 => vs 0 = .slice (some ⟨gv, 0, none⟩) 16 16
                      | 1 => vs 1 = .slice (some ⟨gm, 0, none⟩) 16 16
                      | 2 => vs 2 = .slice (some ⟨gr, 0, none⟩) 16 16
                      | 3 => vs 3 = .pointer (some ⟨gr, 0 + 6, none⟩)
                      | 4 => vs 4 = .int .i64 ((sg r 6 : Nat) : Int)
                      | 5 => vs 5 = .pointer (some ⟨gm, 0 + sg r 6, none⟩)
                      | 6 => vs 6 = .int .u32 ((m.getD (sg r 6) 0 : Nat) : Int)
                      | 7 => vs 7 = .slice (some ⟨gm, 0, none⟩) 16 16
                      | 8 => vs 8 = .slice (some ⟨gr, 0, none⟩) 16 16
                      | 9 => vs 9 = .pointer (some ⟨gr, 0 + 7, none⟩)
                      | 10 => vs 10 = .int .i64 ((sg r 7 : Nat) : Int)
                      | 11 => vs 11 = .pointer (some ⟨gm, 0 + sg r 7, none⟩)
                      | 12 => vs 12 = .int .u32 ((m.getD (sg r 7) 0 : Nat) : Int)
                      | _ => True) (fun _ W W' => Below W.heap.size W W') (fun W => Below w30.heap.size w30 W) (by kernel_rfl) (by kernel_rfl) ?hst24 ?h024 ?step24 ?fin24
                  case hst24 =>
                    intro i k vs W W' _ _ h hG
                    match i, h with
                    | 0, h => exact h
                    | 1, h => exact h
                    | 2, h => exact h
                    | 3, h => exact h
                    | 4, h => exact h
                    | 5, h => exact h
                    | 6, h => exact h
                    | 7, h => exact h
                    | 8, h => exact h
                    | 9, h => exact h
                    | 10, h => exact h
                    | 11, h => exact h
                    | 12, h => exact h
                    | n + 13, _ => trivial
                  case h024 => exact (Below.refl _ _).drew
                  case step24 =>
                    intro i op hi ho ac W hS hag hdep
                    have hbr : Below W.heap.size W W := Below.refl _ _
                    match i, hi, ho with
                    | 0, _, rfl =>
                      exact ow_move _ rfl (hag 11 rfl) ⟨_, rfl, fun vs' h _ => h (fun e => by cases e), hbr, hS⟩
                    | 1, _, rfl =>
                      exact ow_move _ rfl (hag 9 rfl) ⟨_, rfl, fun vs' h _ => h (fun e => by cases e), hbr, hS⟩
                    | 2, _, rfl =>
                      exact ow_move _ rfl (hag 15 rfl) ⟨_, rfl, fun vs' h _ => h (fun e => by cases e), hbr, hS⟩
                    | 3, _, rfl =>
                      have h1 : ac.eval (.tmp 153) = .slice (some ⟨gr, 0, none⟩) 16 16 := hdep 2 (by omega) (by kernel_rfl)
                      exact ow_index _ _ 3 49 rfl gr 0 16 16 6 h1 rfl (by decide) Try.underlying49 (by kernel_rfl) ⟨_, rfl, fun vs' h _ => h (fun e => by cases e), hbr, hS⟩
                    | 4, _, rfl =>
                      have h1 : ac.eval (.tmp 154) = .pointer (some ⟨gr, 0 + 6, none⟩) := hdep 3 (by omega) (by kernel_rfl)
                      exact ow_load_int _ 3 .i64 rfl gr (0 + 6) h1 _ ((cell_of_row _ _ (0 + 6) _ _ _ (blk_below HO3.out hS)).trans (ordW_get r 6 (by decide))) Try.underlying3 ⟨_, rfl, fun vs' h _ => h (fun e => by cases e), hbr, hS⟩
                    | 5, _, rfl =>
                      have h1 : ac.eval (.tmp 152) = .slice (some ⟨gm, 0, none⟩) 16 16 := hdep 1 (by omega) (by kernel_rfl)
                      have h2 : ac.eval (.tmp 155) = .int .i64 ((sg r 6 : Nat) : Int) := hdep 4 (by omega) (by kernel_rfl)
                      exact ow_index _ _ 22 45 rfl gm 0 16 16 (sg r 6) h1 h2 (sg_lt r hlt 6 (by decide)) Try.underlying45 tag22 ⟨_, rfl, fun vs' h _ => h (fun e => by cases e), hbr, hS⟩
                    | 6, _, rfl =>
                      have h1 : ac.eval (.tmp 156) = .pointer (some ⟨gm, 0 + sg r 6, none⟩) := hdep 5 (by omega) (by kernel_rfl)
                      exact ow_load_int _ 22 .u32 rfl gm (0 + sg r 6) h1 _ (by rw [Nat.zero_add]; exact words_cell (HX3.out.rm.below hS) (sg r 6) (by rw [HMW.out.1]; exact sg_lt r hlt 6 (by decide))) Try.underlying22 ⟨_, rfl, fun vs' h _ => h (fun e => by cases e), hbr, hS⟩
                    | 7, _, rfl =>
                      exact ow_move _ rfl (hag 9 rfl) ⟨_, rfl, fun vs' h _ => h (fun e => by cases e), hbr, hS⟩
                    | 8, _, rfl =>
                      exact ow_move _ rfl (hag 15 rfl) ⟨_, rfl, fun vs' h _ => h (fun e => by cases e), hbr, hS⟩
                    | 9, _, rfl =>
                      have h1 : ac.eval (.tmp 159) = .slice (some ⟨gr, 0, none⟩) 16 16 := hdep 8 (by omega) (by kernel_rfl)
                      exact ow_index _ _ 3 49 rfl gr 0 16 16 7 h1 rfl (by decide) Try.underlying49 (by kernel_rfl) ⟨_, rfl, fun vs' h _ => h (fun e => by cases e), hbr, hS⟩
                    | 10, _, rfl =>
                      have h1 : ac.eval (.tmp 160) = .pointer (some ⟨gr, 0 + 7, none⟩) := hdep 9 (by omega) (by kernel_rfl)
                      exact ow_load_int _ 3 .i64 rfl gr (0 + 7) h1 _ ((cell_of_row _ _ (0 + 7) _ _ _ (blk_below HO3.out hS)).trans (ordW_get r 7 (by decide))) Try.underlying3 ⟨_, rfl, fun vs' h _ => h (fun e => by cases e), hbr, hS⟩
                    | 11, _, rfl =>
                      have h1 : ac.eval (.tmp 158) = .slice (some ⟨gm, 0, none⟩) 16 16 := hdep 7 (by omega) (by kernel_rfl)
                      have h2 : ac.eval (.tmp 161) = .int .i64 ((sg r 7 : Nat) : Int) := hdep 10 (by omega) (by kernel_rfl)
                      exact ow_index _ _ 22 45 rfl gm 0 16 16 (sg r 7) h1 h2 (sg_lt r hlt 7 (by decide)) Try.underlying45 tag22 ⟨_, rfl, fun vs' h _ => h (fun e => by cases e), hbr, hS⟩
                    | 12, _, rfl =>
                      have h1 : ac.eval (.tmp 162) = .pointer (some ⟨gm, 0 + sg r 7, none⟩) := hdep 11 (by omega) (by kernel_rfl)
                      exact ow_load_int _ 22 .u32 rfl gm (0 + sg r 7) h1 _ (by rw [Nat.zero_add]; exact words_cell (HX3.out.rm.below hS) (sg r 7) (by rw [HMW.out.1]; exact sg_lt r hlt 7 (by decide))) Try.underlying22 ⟨_, rfl, fun vs' h _ => h (fun e => by cases e), hbr, hS⟩
                    | n + 13, hi, _ => exact absurd hi (by omega)
                  case fin24 =>
                    intro vs W hS hF
                    have e0 : vs 0 = .slice (some ⟨gv, 0, none⟩) 16 16 := hF 0 (by omega)
                    have e1 : vs 1 = .slice (some ⟨gm, 0, none⟩) 16 16 := hF 1 (by omega)
                    have e2 : vs 2 = .slice (some ⟨gr, 0, none⟩) 16 16 := hF 2 (by omega)
                    have e3 : vs 3 = .pointer (some ⟨gr, 0 + 6, none⟩) := hF 3 (by omega)
                    have e4 : vs 4 = .int .i64 ((sg r 6 : Nat) : Int) := hF 4 (by omega)
                    have e5 : vs 5 = .pointer (some ⟨gm, 0 + sg r 6, none⟩) := hF 5 (by omega)
                    have e6 : vs 6 = .int .u32 ((m.getD (sg r 6) 0 : Nat) : Int) := hF 6 (by omega)
                    have e7 : vs 7 = .slice (some ⟨gm, 0, none⟩) 16 16 := hF 7 (by omega)
                    have e8 : vs 8 = .slice (some ⟨gr, 0, none⟩) 16 16 := hF 8 (by omega)
                    have e9 : vs 9 = .pointer (some ⟨gr, 0 + 7, none⟩) := hF 9 (by omega)
                    have e10 : vs 10 = .int .i64 ((sg r 7 : Nat) : Int) := hF 10 (by omega)
                    have e11 : vs 11 = .pointer (some ⟨gm, 0 + sg r 7, none⟩) := hF 11 (by omega)
                    have e12 : vs 12 = .int .u32 ((m.getD (sg r 7) 0 : Nat) : Int) := hF 12 (by omega)
                    clear hF
                    change wpList _ _ _ _ (Act.put (Act.put (Act.put (Act.put (Act.put (Act.put (Act.put (Act.put (Act.put (Act.put (Act.put (Act.put (Act.put _ (some 151) (vs 0)) (some 152) (vs 1)) (some 153) (vs 2)) (some 154) (vs 3)) (some 155) (vs 4)) (some 156) (vs 5)) (some 157) (vs 6)) (some 158) (vs 7)) (some 159) (vs 8)) (some 160) (vs 9)) (some 161) (vs 10)) (some 162) (vs 11)) (some 163) (vs 12)) W
                    rw [e0, e1, e2, e3, e4, e5, e6, e7, e8, e9, e10, e11, e12]
                    clear e0 e1 e2 e3 e4 e5 e6 e7 e8 e9 e10 e11 e12
                    simp only [putAll, List.drop_succ_cons, List.drop_zero, Act.put, List.setIfInBounds_toArray, List.set_cons_zero, List.set_cons_succ]
                    clear vs
                    have HXW := Lib.hid (HX3.out.keep hS)
                    have HVW := Lib.hid (HV3.out.below hS)
                    have HOW := Lib.hid (blk_below HO3.out hS)
                    have HAW := Lib.hid (HA3.out.below hS)
                    clear hS HX3 HV3 HO3 HA3
                    go_wp2_with fail
                    refine (stirR_any gv 3 7 11 15 (m.getD (sg r 6) 0) (m.getD (sg r 7) 0) v3 HW3.out (by decide) (by decide) (by decide) (by decide) W HVW.out).mono ?_
                    rintro e w40 ⟨rfl, hrow, hgr⟩
                    obtain ⟨v4, hv4⟩ : ∃ v4, v4 = stirF v3 3 7 11 15 (m.getD (sg r 6) 0) (m.getD (sg r 7) 0) := ⟨_, rfl⟩
                    rw [← hv4] at hrow
                    have HW4 := Lib.hid (show Wds 16 v4 by rw [hv4]; exact HW3.out.stirF _ _ _ _ _ _)
                    have HV4 := Lib.hid hrow
                    have HX4 := Lib.hid (HXW.out.other hgr (by omega) (by omega) (by omega) (by omega))
                    have HO4 := Lib.hid (blk_grown HOW.out hgr (fun e => by injection e with e; omega))
                    have HA4 := Lib.hid (HAW.out.grown hgr (by omega))
                    have HVN4 := Lib.hid hv4
                    clear hrow hgr hv4 HXW HVW HOW HAW
                    go_upto_region 25 with fail
                    refine region_f 13 (fun i vs W => match i with
                        | 0 => vs 0 = .slice (some ⟨gv, 0, none⟩) 16 16
                        | 1 => vs 1 = .slice (some ⟨gm, 0, none⟩) 16 16
                        | 2 => vs 2 = .slice (some ⟨gr, 0, none⟩) 16 16
                        | 3 => vs 3 = .pointer (some ⟨gr, 0 + 8, none⟩)
                        | 4 => vs 4 = .int .i64 ((sg r 8 : Nat) : Int)
                        | 5 => vs 5 = .pointer (some ⟨gm, 0 + sg r 8, none⟩)
                        | 6 => vs 6 = .int .u32 ((m.getD (sg r 8) 0 : Nat) : Int)
                        | 7 => vs 7 = .slice (some ⟨gm, 0, none⟩) 16 16
                        | 8 => vs 8 = .slice (some ⟨gr, 0, none⟩) 16 16
                        | 9 => vs 9 = .pointer (some ⟨gr, 0 + 9, none⟩)
                        | 10 => vs 10 = .int .i64 ((sg r 9 : Nat) : Int)
                        | 11 => vs 11 = .pointer (some ⟨gm, 0 + sg r 9, none⟩)
                        | 12 => vs 12 = .int .u32 ((m.getD (sg r 9) 0 : Nat) : Int)
                        | _ => True) (fun _ W W' => Below W.heap.size W W') (fun W => Below w40.heap.size w40 W) (by kernel_rfl) (by kernel_rfl) ?hst25 ?h025 ?step25 ?fin25
                    case hst25 =>
                      intro i k vs W W' _ _ h hG
                      match i, h with
                      | 0, h => exact h
                      | 1, h => exact h
                      | 2, h => exact h
                      | 3, h => exact h
                      | 4, h => exact h
                      | 5, h => exact h
                      | 6, h => exact h
                      | 7, h => exact h
                      | 8, h => exact h
                      | 9, h => exact h
                      | 10, h => exact h
                      | 11, h => exact h
                      | 12, h => exact h
                      | n + 13, _ => trivial
                    case h025 => exact (Below.refl _ _).drew
                    case step25 =>
                      intro i op hi ho ac W hS hag hdep
                      have hbr : Below W.heap.size W W := Below.refl _ _
                      match i, hi, ho with
                      | 0, _, rfl =>
                        exact ow_move _ rfl (hag 11 rfl) ⟨_, rfl, fun vs' h _ => h (fun e => by cases e), hbr, hS⟩
                      | 1, _, rfl =>
                        exact ow_move _ rfl (hag 9 rfl) ⟨_, rfl, fun vs' h _ => h (fun e => by cases e), hbr, hS⟩
                      | 2, _, rfl =>
                        exact ow_move _ rfl (hag 15 rfl) ⟨_, rfl, fun vs' h _ => h (fun e => by cases e), hbr, hS⟩
                      | 3, _, rfl =>
                        have h1 : ac.eval (.tmp 167) = .slice (some ⟨gr, 0, none⟩) 16 16 := hdep 2 (by omega) (by kernel_rfl)
                        exact ow_index _ _ 3 49 rfl gr 0 16 16 8 h1 rfl (by decide) Try.underlying49 (by kernel_rfl) ⟨_, rfl, fun vs' h _ => h (fun e => by cases e), hbr, hS⟩
                      | 4, _, rfl =>
                        have h1 : ac.eval (.tmp 168) = .pointer (some ⟨gr, 0 + 8, none⟩) := hdep 3 (by omega) (by kernel_rfl)
                        exact ow_load_int _ 3 .i64 rfl gr (0 + 8) h1 _ ((cell_of_row _ _ (0 + 8) _ _ _ (blk_below HO4.out hS)).trans (ordW_get r 8 (by decide))) Try.underlying3 ⟨_, rfl, fun vs' h _ => h (fun e => by cases e), hbr, hS⟩
                      | 5, _, rfl =>
                        have h1 : ac.eval (.tmp 166) = .slice (some ⟨gm, 0, none⟩) 16 16 := hdep 1 (by omega) (by kernel_rfl)
                        have h2 : ac.eval (.tmp 169) = .int .i64 ((sg r 8 : Nat) : Int) := hdep 4 (by omega) (by kernel_rfl)
                        exact ow_index _ _ 22 45 rfl gm 0 16 16 (sg r 8) h1 h2 (sg_lt r hlt 8 (by decide)) Try.underlying45 tag22 ⟨_, rfl, fun vs' h _ => h (fun e => by cases e), hbr, hS⟩
                      | 6, _, rfl =>
                        have h1 : ac.eval (.tmp 170) = .pointer (some ⟨gm, 0 + sg r 8, none⟩) := hdep 5 (by omega) (by kernel_rfl)
                        exact ow_load_int _ 22 .u32 rfl gm (0 + sg r 8) h1 _ (by rw [Nat.zero_add]; exact words_cell (HX4.out.rm.below hS) (sg r 8) (by rw [HMW.out.1]; exact sg_lt r hlt 8 (by decide))) Try.underlying22 ⟨_, rfl, fun vs' h _ => h (fun e => by cases e), hbr, hS⟩
                      | 7, _, rfl =>
                        exact ow_move _ rfl (hag 9 rfl) ⟨_, rfl, fun vs' h _ => h (fun e => by cases e), hbr, hS⟩
                      | 8, _, rfl =>
                        exact ow_move _ rfl (hag 15 rfl) ⟨_, rfl, fun vs' h _ => h (fun e => by cases e), hbr, hS⟩
                      | 9, _, rfl =>
                        have h1 : ac.eval (.tmp 173) = .slice (some ⟨gr, 0, none⟩) 16 16 := hdep 8 (by omega) (by kernel_rfl)
                        exact ow_index _ _ 3 49 rfl gr 0 16 16 9 h1 rfl (by decide) Try.underlying49 (by kernel_rfl) ⟨_, rfl, fun vs' h _ => h (fun e => by cases e), hbr, hS⟩
                      | 10, _, rfl =>
                        have h1 : ac.eval (.tmp 174) = .pointer (some ⟨gr, 0 + 9, none⟩) := hdep 9 (by omega) (by kernel_rfl)
                        exact ow_load_int _ 3 .i64 rfl gr (0 + 9) h1 _ ((cell_of_row _ _ (0 + 9) _ _ _ (blk_below HO4.out hS)).trans (ordW_get r 9 (by decide))) Try.underlying3 ⟨_, rfl, fun vs' h _ => h (fun e => by cases e), hbr, hS⟩
                      | 11, _, rfl =>
                        have h1 : ac.eval (.tmp 172) = .slice (some ⟨gm, 0, none⟩) 16 16 := hdep 7 (by omega) (by kernel_rfl)
                        have h2 : ac.eval (.tmp 175) = .int .i64 ((sg r 9 : Nat) : Int) := hdep 10 (by omega) (by kernel_rfl)
                        exact ow_index _ _ 22 45 rfl gm 0 16 16 (sg r 9) h1 h2 (sg_lt r hlt 9 (by decide)) Try.underlying45 tag22 ⟨_, rfl, fun vs' h _ => h (fun e => by cases e), hbr, hS⟩
                      | 12, _, rfl =>
                        have h1 : ac.eval (.tmp 176) = .pointer (some ⟨gm, 0 + sg r 9, none⟩) := hdep 11 (by omega) (by kernel_rfl)
                        exact ow_load_int _ 22 .u32 rfl gm (0 + sg r 9) h1 _ (by rw [Nat.zero_add]; exact words_cell (HX4.out.rm.below hS) (sg r 9) (by rw [HMW.out.1]; exact sg_lt r hlt 9 (by decide))) Try.underlying22 ⟨_, rfl, fun vs' h _ => h (fun e => by cases e), hbr, hS⟩
                      | n + 13, hi, _ => exact absurd hi (by omega)
                    case fin25 =>
                      intro vs W hS hF
                      have e0 : vs 0 = .slice (some ⟨gv, 0, none⟩) 16 16 := hF 0 (by omega)
                      have e1 : vs 1 = .slice (some ⟨gm, 0, none⟩) 16 16 := hF 1 (by omega)
                      have e2 : vs 2 = .slice (some ⟨gr, 0, none⟩) 16 16 := hF 2 (by omega)
                      have e3 : vs 3 = .pointer (some ⟨gr, 0 + 8, none⟩) := hF 3 (by omega)
                      have e4 : vs 4 = .int .i64 ((sg r 8 : Nat) : Int) := hF 4 (by omega)
                      have e5 : vs 5 = .pointer (some ⟨gm, 0 + sg r 8, none⟩) := hF 5 (by omega)
                      have e6 : vs 6 = .int .u32 ((m.getD (sg r 8) 0 : Nat) : Int) := hF 6 (by omega)
                      have e7 : vs 7 = .slice (some ⟨gm, 0, none⟩) 16 16 := hF 7 (by omega)
                      have e8 : vs 8 = .slice (some ⟨gr, 0, none⟩) 16 16 := hF 8 (by omega)
                      have e9 : vs 9 = .pointer (some ⟨gr, 0 + 9, none⟩) := hF 9 (by omega)
                      have e10 : vs 10 = .int .i64 ((sg r 9 : Nat) : Int) := hF 10 (by omega)
                      have e11 : vs 11 = .pointer (some ⟨gm, 0 + sg r 9, none⟩) := hF 11 (by omega)
                      have e12 : vs 12 = .int .u32 ((m.getD (sg r 9) 0 : Nat) : Int) := hF 12 (by omega)
                      clear hF
                      change wpList _ _ _ _ (Act.put (Act.put (Act.put (Act.put (Act.put (Act.put (Act.put (Act.put (Act.put (Act.put (Act.put (Act.put (Act.put _ (some 165) (vs 0)) (some 166) (vs 1)) (some 167) (vs 2)) (some 168) (vs 3)) (some 169) (vs 4)) (some 170) (vs 5)) (some 171) (vs 6)) (some 172) (vs 7)) (some 173) (vs 8)) (some 174) (vs 9)) (some 175) (vs 10)) (some 176) (vs 11)) (some 177) (vs 12)) W
                      rw [e0, e1, e2, e3, e4, e5, e6, e7, e8, e9, e10, e11, e12]
                      clear e0 e1 e2 e3 e4 e5 e6 e7 e8 e9 e10 e11 e12
                      simp only [putAll, List.drop_succ_cons, List.drop_zero, Act.put, List.setIfInBounds_toArray, List.set_cons_zero, List.set_cons_succ]
                      clear vs
                      have HXW := Lib.hid (HX4.out.keep hS)
                      have HVW := Lib.hid (HV4.out.below hS)
                      have HOW := Lib.hid (blk_below HO4.out hS)
                      have HAW := Lib.hid (HA4.out.below hS)
                      clear hS HX4 HV4 HO4 HA4
                      go_wp2_with fail
                      refine (stirR_any gv 0 5 10 15 (m.getD (sg r 8) 0) (m.getD (sg r 9) 0) v4 HW4.out (by decide) (by decide) (by decide) (by decide) W HVW.out).mono ?_
                      rintro e w50 ⟨rfl, hrow, hgr⟩
                      obtain ⟨v5, hv5⟩ : ∃ v5, v5 = stirF v4 0 5 10 15 (m.getD (sg r 8) 0) (m.getD (sg r 9) 0) := ⟨_, rfl⟩
                      rw [← hv5] at hrow
                      have HW5 := Lib.hid (show Wds 16 v5 by rw [hv5]; exact HW4.out.stirF _ _ _ _ _ _)
                      have HV5 := Lib.hid hrow
                      have HX5 := Lib.hid (HXW.out.other hgr (by omega) (by omega) (by omega) (by omega))
                      have HO5 := Lib.hid (blk_grown HOW.out hgr (fun e => by injection e with e; omega))
                      have HA5 := Lib.hid (HAW.out.grown hgr (by omega))
                      have HVN5 := Lib.hid hv5
                      clear hrow hgr hv5 HXW HVW HOW HAW
                      go_upto_region 26 with fail
                      refine region_f 13 (fun i vs W => match i with
                          | 0 => vs 0 = .slice (some ⟨gv, 0, none⟩) 16 16
                          | 1 => vs 1 = .slice (some ⟨gm, 0, none⟩) 16 16
                          | 2 => vs 2 = .slice (some ⟨gr, 0, none⟩) 16 16
                          | 3 => vs 3 = .pointer (some ⟨gr, 0 + 10, none⟩)
                          | 4 => vs 4 = .int .i64 ((sg r 10 : Nat) : Int)
                          | 5 => vs 5 = .pointer (some ⟨gm, 0 + sg r 10, none⟩)
                          | 6 => vs 6 = .int .u32 ((m.getD (sg r 10) 0 : Nat) : Int)
                          | 7 => vs 7 = .slice (some ⟨gm, 0, none⟩) 16 16
                          | 8 => vs 8 = .slice (some ⟨gr, 0, none⟩) 16 16
                          | 9 => vs 9 = .pointer (some ⟨gr, 0 + 11, none⟩)
                          | 10 => vs 10 = .int .i64 ((sg r 11 : Nat) : Int)
                          | 11 => vs 11 = .pointer (some ⟨gm, 0 + sg r 11, none⟩)
                          | 12 => vs 12 = .int .u32 ((m.getD (sg r 11) 0 : Nat) : Int)
                          | _ => True) (fun _ W W' => Below W.heap.size W W') (fun W => Below w50.heap.size w50 W) (by kernel_rfl) (by kernel_rfl) ?hst26 ?h026 ?step26 ?fin26
                      case hst26 =>
                        intro i k vs W W' _ _ h hG
                        match i, h with
                        | 0, h => exact h
                        | 1, h => exact h
                        | 2, h => exact h
                        | 3, h => exact h
                        | 4, h => exact h
                        | 5, h => exact h
                        | 6, h => exact h
                        | 7, h => exact h
                        | 8, h => exact h
                        | 9, h => exact h
                        | 10, h => exact h
                        | 11, h => exact h
                        | 12, h => exact h
                        | n + 13, _ => trivial
                      case h026 => exact (Below.refl _ _).drew
                      case step26 =>
                        intro i op hi ho ac W hS hag hdep
                        have hbr : Below W.heap.size W W := Below.refl _ _
                        match i, hi, ho with
                        | 0, _, rfl =>
                          exact ow_move _ rfl (hag 11 rfl) ⟨_, rfl, fun vs' h _ => h (fun e => by cases e), hbr, hS⟩
                        | 1, _, rfl =>
                          exact ow_move _ rfl (hag 9 rfl) ⟨_, rfl, fun vs' h _ => h (fun e => by cases e), hbr, hS⟩
                        | 2, _, rfl =>
                          exact ow_move _ rfl (hag 15 rfl) ⟨_, rfl, fun vs' h _ => h (fun e => by cases e), hbr, hS⟩
                        | 3, _, rfl =>
                          have h1 : ac.eval (.tmp 181) = .slice (some ⟨gr, 0, none⟩) 16 16 := hdep 2 (by omega) (by kernel_rfl)
                          exact ow_index _ _ 3 49 rfl gr 0 16 16 10 h1 rfl (by decide) Try.underlying49 (by kernel_rfl) ⟨_, rfl, fun vs' h _ => h (fun e => by cases e), hbr, hS⟩
                        | 4, _, rfl =>
                          have h1 : ac.eval (.tmp 182) = .pointer (some ⟨gr, 0 + 10, none⟩) := hdep 3 (by omega) (by kernel_rfl)
                          exact ow_load_int _ 3 .i64 rfl gr (0 + 10) h1 _ ((cell_of_row _ _ (0 + 10) _ _ _ (blk_below HO5.out hS)).trans (ordW_get r 10 (by decide))) Try.underlying3 ⟨_, rfl, fun vs' h _ => h (fun e => by cases e), hbr, hS⟩
                        | 5, _, rfl =>
                          have h1 : ac.eval (.tmp 180) = .slice (some ⟨gm, 0, none⟩) 16 16 := hdep 1 (by omega) (by kernel_rfl)
                          have h2 : ac.eval (.tmp 183) = .int .i64 ((sg r 10 : Nat) : Int) := hdep 4 (by omega) (by kernel_rfl)
                          exact ow_index _ _ 22 45 rfl gm 0 16 16 (sg r 10) h1 h2 (sg_lt r hlt 10 (by decide)) Try.underlying45 tag22 ⟨_, rfl, fun vs' h _ => h (fun e => by cases e), hbr, hS⟩
                        | 6, _, rfl =>
                          have h1 : ac.eval (.tmp 184) = .pointer (some ⟨gm, 0 + sg r 10, none⟩) := hdep 5 (by omega) (by kernel_rfl)
                          exact ow_load_int _ 22 .u32 rfl gm (0 + sg r 10) h1 _ (by rw [Nat.zero_add]; exact words_cell (HX5.out.rm.below hS) (sg r 10) (by rw [HMW.out.1]; exact sg_lt r hlt 10 (by decide))) Try.underlying22 ⟨_, rfl, fun vs' h _ => h (fun e => by cases e), hbr, hS⟩
                        | 7, _, rfl =>
                          exact ow_move _ rfl (hag 9 rfl) ⟨_, rfl, fun vs' h _ => h (fun e => by cases e), hbr, hS⟩
                        | 8, _, rfl =>
                          exact ow_move _ rfl (hag 15 rfl) ⟨_, rfl, fun vs' h _ => h (fun e => by cases e), hbr, hS⟩
                        | 9, _, rfl =>
                          have h1 : ac.eval (.tmp 187) = .slice (some ⟨gr, 0, none⟩) 16 16 := hdep 8 (by omega) (by kernel_rfl)
                          exact ow_index _ _ 3 49 rfl gr 0 16 16 11 h1 rfl (by decide) Try.underlying49 (by kernel_rfl) ⟨_, rfl, fun vs' h _ => h (fun e => by cases e), hbr, hS⟩
                        | 10, _, rfl =>
                          have h1 : ac.eval (.tmp 188) = .pointer (some ⟨gr, 0 + 11, none⟩) := hdep 9 (by omega) (by kernel_rfl)
                          exact ow_load_int _ 3 .i64 rfl gr (0 + 11) h1 _ ((cell_of_row _ _ (0 + 11) _ _ _ (blk_below HO5.out hS)).trans (ordW_get r 11 (by decide))) Try.underlying3 ⟨_, rfl, fun vs' h _ => h (fun e => by cases e), hbr, hS⟩
                        | 11, _, rfl =>
                          have h1 : ac.eval (.tmp 186) = .slice (some ⟨gm, 0, none⟩) 16 16 := hdep 7 (by omega) (by kernel_rfl)
                          have h2 : ac.eval (.tmp 189) = .int .i64 ((sg r 11 : Nat) : Int) := hdep 10 (by omega) (by kernel_rfl)
                          exact ow_index _ _ 22 45 rfl gm 0 16 16 (sg r 11) h1 h2 (sg_lt r hlt 11 (by decide)) Try.underlying45 tag22 ⟨_, rfl, fun vs' h _ => h (fun e => by cases e), hbr, hS⟩
                        | 12, _, rfl =>
                          have h1 : ac.eval (.tmp 190) = .pointer (some ⟨gm, 0 + sg r 11, none⟩) := hdep 11 (by omega) (by kernel_rfl)
                          exact ow_load_int _ 22 .u32 rfl gm (0 + sg r 11) h1 _ (by rw [Nat.zero_add]; exact words_cell (HX5.out.rm.below hS) (sg r 11) (by rw [HMW.out.1]; exact sg_lt r hlt 11 (by decide))) Try.underlying22 ⟨_, rfl, fun vs' h _ => h (fun e => by cases e), hbr, hS⟩
                        | n + 13, hi, _ => exact absurd hi (by omega)
                      case fin26 =>
                        intro vs W hS hF
                        have e0 : vs 0 = .slice (some ⟨gv, 0, none⟩) 16 16 := hF 0 (by omega)
                        have e1 : vs 1 = .slice (some ⟨gm, 0, none⟩) 16 16 := hF 1 (by omega)
                        have e2 : vs 2 = .slice (some ⟨gr, 0, none⟩) 16 16 := hF 2 (by omega)
                        have e3 : vs 3 = .pointer (some ⟨gr, 0 + 10, none⟩) := hF 3 (by omega)
                        have e4 : vs 4 = .int .i64 ((sg r 10 : Nat) : Int) := hF 4 (by omega)
                        have e5 : vs 5 = .pointer (some ⟨gm, 0 + sg r 10, none⟩) := hF 5 (by omega)
                        have e6 : vs 6 = .int .u32 ((m.getD (sg r 10) 0 : Nat) : Int) := hF 6 (by omega)
                        have e7 : vs 7 = .slice (some ⟨gm, 0, none⟩) 16 16 := hF 7 (by omega)
                        have e8 : vs 8 = .slice (some ⟨gr, 0, none⟩) 16 16 := hF 8 (by omega)
                        have e9 : vs 9 = .pointer (some ⟨gr, 0 + 11, none⟩) := hF 9 (by omega)
                        have e10 : vs 10 = .int .i64 ((sg r 11 : Nat) : Int) := hF 10 (by omega)
                        have e11 : vs 11 = .pointer (some ⟨gm, 0 + sg r 11, none⟩) := hF 11 (by omega)
                        have e12 : vs 12 = .int .u32 ((m.getD (sg r 11) 0 : Nat) : Int) := hF 12 (by omega)
                        clear hF
                        change wpList _ _ _ _ (Act.put (Act.put (Act.put (Act.put (Act.put (Act.put (Act.put (Act.put (Act.put (Act.put (Act.put (Act.put (Act.put _ (some 179) (vs 0)) (some 180) (vs 1)) (some 181) (vs 2)) (some 182) (vs 3)) (some 183) (vs 4)) (some 184) (vs 5)) (some 185) (vs 6)) (some 186) (vs 7)) (some 187) (vs 8)) (some 188) (vs 9)) (some 189) (vs 10)) (some 190) (vs 11)) (some 191) (vs 12)) W
                        rw [e0, e1, e2, e3, e4, e5, e6, e7, e8, e9, e10, e11, e12]
                        clear e0 e1 e2 e3 e4 e5 e6 e7 e8 e9 e10 e11 e12
                        simp only [putAll, List.drop_succ_cons, List.drop_zero, Act.put, List.setIfInBounds_toArray, List.set_cons_zero, List.set_cons_succ]
                        clear vs
                        have HXW := Lib.hid (HX5.out.keep hS)
                        have HVW := Lib.hid (HV5.out.below hS)
                        have HOW := Lib.hid (blk_below HO5.out hS)
                        have HAW := Lib.hid (HA5.out.below hS)
                        clear hS HX5 HV5 HO5 HA5
                        go_wp2_with fail
                        refine (stirR_any gv 1 6 11 12 (m.getD (sg r 10) 0) (m.getD (sg r 11) 0) v5 HW5.out (by decide) (by decide) (by decide) (by decide) W HVW.out).mono ?_
                        rintro e w60 ⟨rfl, hrow, hgr⟩
                        obtain ⟨v6, hv6⟩ : ∃ v6, v6 = stirF v5 1 6 11 12 (m.getD (sg r 10) 0) (m.getD (sg r 11) 0) := ⟨_, rfl⟩
                        rw [← hv6] at hrow
                        have HW6 := Lib.hid (show Wds 16 v6 by rw [hv6]; exact HW5.out.stirF _ _ _ _ _ _)
                        have HV6 := Lib.hid hrow
                        have HX6 := Lib.hid (HXW.out.other hgr (by omega) (by omega) (by omega) (by omega))
                        have HO6 := Lib.hid (blk_grown HOW.out hgr (fun e => by injection e with e; omega))
                        have HA6 := Lib.hid (HAW.out.grown hgr (by omega))
                        have HVN6 := Lib.hid hv6
                        clear hrow hgr hv6 HXW HVW HOW HAW
                        go_upto_region 27 with fail
                        refine region_f 13 (fun i vs W => match i with
                            | 0 => vs 0 = .slice (some ⟨gv, 0, none⟩) 16 16
                            | 1 => vs 1 = .slice (some ⟨gm, 0, none⟩) 16 16
                            | 2 => vs 2 = .slice (some ⟨gr, 0, none⟩) 16 16
                            | 3 => vs 3 = .pointer (some ⟨gr, 0 + 12, none⟩)
                            | 4 => vs 4 = .int .i64 ((sg r 12 : Nat) : Int)
                            | 5 => vs 5 = .pointer (some ⟨gm, 0 + sg r 12, none⟩)
                            | 6 => vs 6 = .int .u32 ((m.getD (sg r 12) 0 : Nat) : Int)
                            | 7 => vs 7 = .slice (some ⟨gm, 0, none⟩) 16 16
                            | 8 => vs 8 = .slice (some ⟨gr, 0, none⟩) 16 16
                            | 9 => vs 9 = .pointer (some ⟨gr, 0 + 13, none⟩)
                            | 10 => vs 10 = .int .i64 ((sg r 13 : Nat) : Int)
                            | 11 => vs 11 = .pointer (some ⟨gm, 0 + sg r 13, none⟩)
                            | 12 => vs 12 = .int .u32 ((m.getD (sg r 13) 0 : Nat) : Int)
                            | _ => True) (fun _ W W' => Below W.heap.size W W') (fun W => Below w60.heap.size w60 W) (by kernel_rfl) (by kernel_rfl) ?hst27 ?h027 ?step27 ?fin27
                        case hst27 =>
                          intro i k vs W W' _ _ h hG
                          match i, h with
                          | 0, h => exact h
                          | 1, h => exact h
                          | 2, h => exact h
                          | 3, h => exact h
                          | 4, h => exact h
                          | 5, h => exact h
                          | 6, h => exact h
                          | 7, h => exact h
                          | 8, h => exact h
                          | 9, h => exact h
                          | 10, h => exact h
                          | 11, h => exact h
                          | 12, h => exact h
                          | n + 13, _ => trivial
                        case h027 => exact (Below.refl _ _).drew
                        case step27 =>
                          intro i op hi ho ac W hS hag hdep
                          have hbr : Below W.heap.size W W := Below.refl _ _
                          match i, hi, ho with
                          | 0, _, rfl =>
                            exact ow_move _ rfl (hag 11 rfl) ⟨_, rfl, fun vs' h _ => h (fun e => by cases e), hbr, hS⟩
                          | 1, _, rfl =>
                            exact ow_move _ rfl (hag 9 rfl) ⟨_, rfl, fun vs' h _ => h (fun e => by cases e), hbr, hS⟩
                          | 2, _, rfl =>
                            exact ow_move _ rfl (hag 15 rfl) ⟨_, rfl, fun vs' h _ => h (fun e => by cases e), hbr, hS⟩
                          | 3, _, rfl =>
                            have h1 : ac.eval (.tmp 195) = .slice (some ⟨gr, 0, none⟩) 16 16 := hdep 2 (by omega) (by kernel_rfl)
                            exact ow_index _ _ 3 49 rfl gr 0 16 16 12 h1 rfl (by decide) Try.underlying49 (by kernel_rfl) ⟨_, rfl, fun vs' h _ => h (fun e => by cases e), hbr, hS⟩
                          | 4, _, rfl =>
                            have h1 : ac.eval (.tmp 196) = .pointer (some ⟨gr, 0 + 12, none⟩) := hdep 3 (by omega) (by kernel_rfl)
                            exact ow_load_int _ 3 .i64 rfl gr (0 + 12) h1 _ ((cell_of_row _ _ (0 + 12) _ _ _ (blk_below HO6.out hS)).trans (ordW_get r 12 (by decide))) Try.underlying3 ⟨_, rfl, fun vs' h _ => h (fun e => by cases e), hbr, hS⟩
                          | 5, _, rfl =>
                            have h1 : ac.eval (.tmp 194) = .slice (some ⟨gm, 0, none⟩) 16 16 := hdep 1 (by omega) (by kernel_rfl)
                            have h2 : ac.eval (.tmp 197) = .int .i64 ((sg r 12 : Nat) : Int) := hdep 4 (by omega) (by kernel_rfl)
                            exact ow_index _ _ 22 45 rfl gm 0 16 16 (sg r 12) h1 h2 (sg_lt r hlt 12 (by decide)) Try.underlying45 tag22 ⟨_, rfl, fun vs' h _ => h (fun e => by cases e), hbr, hS⟩
                          | 6, _, rfl =>
                            have h1 : ac.eval (.tmp 198) = .pointer (some ⟨gm, 0 + sg r 12, none⟩) := hdep 5 (by omega) (by kernel_rfl)
                            exact ow_load_int _ 22 .u32 rfl gm (0 + sg r 12) h1 _ (by rw [Nat.zero_add]; exact words_cell (HX6.out.rm.below hS) (sg r 12) (by rw [HMW.out.1]; exact sg_lt r hlt 12 (by decide))) Try.underlying22 ⟨_, rfl, fun vs' h _ => h (fun e => by cases e), hbr, hS⟩
                          | 7, _, rfl =>
                            exact ow_move _ rfl (hag 9 rfl) ⟨_, rfl, fun vs' h _ => h (fun e => by cases e), hbr, hS⟩
                          | 8, _, rfl =>
                            exact ow_move _ rfl (hag 15 rfl) ⟨_, rfl, fun vs' h _ => h (fun e => by cases e), hbr, hS⟩
                          | 9, _, rfl =>
                            have h1 : ac.eval (.tmp 201) = .slice (some ⟨gr, 0, none⟩) 16 16 := hdep 8 (by omega) (by kernel_rfl)
                            exact ow_index _ _ 3 49 rfl gr 0 16 16 13 h1 rfl (by decide) Try.underlying49 (by kernel_rfl) ⟨_, rfl, fun vs' h _ => h (fun e => by cases e), hbr, hS⟩
                          | 10, _, rfl =>
                            have h1 : ac.eval (.tmp 202) = .pointer (some ⟨gr, 0 + 13, none⟩) := hdep 9 (by omega) (by kernel_rfl)
                            exact ow_load_int _ 3 .i64 rfl gr (0 + 13) h1 _ ((cell_of_row _ _ (0 + 13) _ _ _ (blk_below HO6.out hS)).trans (ordW_get r 13 (by decide))) Try.underlying3 ⟨_, rfl, fun vs' h _ => h (fun e => by cases e), hbr, hS⟩
                          | 11, _, rfl =>
                            have h1 : ac.eval (.tmp 200) = .slice (some ⟨gm, 0, none⟩) 16 16 := hdep 7 (by omega) (by kernel_rfl)
                            have h2 : ac.eval (.tmp 203) = .int .i64 ((sg r 13 : Nat) : Int) := hdep 10 (by omega) (by kernel_rfl)
                            exact ow_index _ _ 22 45 rfl gm 0 16 16 (sg r 13) h1 h2 (sg_lt r hlt 13 (by decide)) Try.underlying45 tag22 ⟨_, rfl, fun vs' h _ => h (fun e => by cases e), hbr, hS⟩
                          | 12, _, rfl =>
                            have h1 : ac.eval (.tmp 204) = .pointer (some ⟨gm, 0 + sg r 13, none⟩) := hdep 11 (by omega) (by kernel_rfl)
                            exact ow_load_int _ 22 .u32 rfl gm (0 + sg r 13) h1 _ (by rw [Nat.zero_add]; exact words_cell (HX6.out.rm.below hS) (sg r 13) (by rw [HMW.out.1]; exact sg_lt r hlt 13 (by decide))) Try.underlying22 ⟨_, rfl, fun vs' h _ => h (fun e => by cases e), hbr, hS⟩
                          | n + 13, hi, _ => exact absurd hi (by omega)
                        case fin27 =>
                          intro vs W hS hF
                          have e0 : vs 0 = .slice (some ⟨gv, 0, none⟩) 16 16 := hF 0 (by omega)
                          have e1 : vs 1 = .slice (some ⟨gm, 0, none⟩) 16 16 := hF 1 (by omega)
                          have e2 : vs 2 = .slice (some ⟨gr, 0, none⟩) 16 16 := hF 2 (by omega)
                          have e3 : vs 3 = .pointer (some ⟨gr, 0 + 12, none⟩) := hF 3 (by omega)
                          have e4 : vs 4 = .int .i64 ((sg r 12 : Nat) : Int) := hF 4 (by omega)
                          have e5 : vs 5 = .pointer (some ⟨gm, 0 + sg r 12, none⟩) := hF 5 (by omega)
                          have e6 : vs 6 = .int .u32 ((m.getD (sg r 12) 0 : Nat) : Int) := hF 6 (by omega)
                          have e7 : vs 7 = .slice (some ⟨gm, 0, none⟩) 16 16 := hF 7 (by omega)
                          have e8 : vs 8 = .slice (some ⟨gr, 0, none⟩) 16 16 := hF 8 (by omega)
                          have e9 : vs 9 = .pointer (some ⟨gr, 0 + 13, none⟩) := hF 9 (by omega)
                          have e10 : vs 10 = .int .i64 ((sg r 13 : Nat) : Int) := hF 10 (by omega)
                          have e11 : vs 11 = .pointer (some ⟨gm, 0 + sg r 13, none⟩) := hF 11 (by omega)
                          have e12 : vs 12 = .int .u32 ((m.getD (sg r 13) 0 : Nat) : Int) := hF 12 (by omega)
                          clear hF
                          change wpList _ _ _ _ (Act.put (Act.put (Act.put (Act.put (Act.put (Act.put (Act.put (Act.put (Act.put (Act.put (Act.put (Act.put (Act.put _ (some 193) (vs 0)) (some 194) (vs 1)) (some 195) (vs 2)) (some 196) (vs 3)) (some 197) (vs 4)) (some 198) (vs 5)) (some 199) (vs 6)) (some 200) (vs 7)) (some 201) (vs 8)) (some 202) (vs 9)) (some 203) (vs 10)) (some 204) (vs 11)) (some 205) (vs 12)) W
                          rw [e0, e1, e2, e3, e4, e5, e6, e7, e8, e9, e10, e11, e12]
                          clear e0 e1 e2 e3 e4 e5 e6 e7 e8 e9 e10 e11 e12
                          simp only [putAll, List.drop_succ_cons, List.drop_zero, Act.put, List.setIfInBounds_toArray, List.set_cons_zero, List.set_cons_succ]
                          clear vs
                          have HXW := Lib.hid (HX6.out.keep hS)
                          have HVW := Lib.hid (HV6.out.below hS)
                          have HOW := Lib.hid (blk_below HO6.out hS)
                          have HAW := Lib.hid (HA6.out.below hS)
                          clear hS HX6 HV6 HO6 HA6
                          go_wp2_with fail
                          refine (stirR_any gv 2 7 8 13 (m.getD (sg r 12) 0) (m.getD (sg r 13) 0) v6 HW6.out (by decide) (by decide) (by decide) (by decide) W HVW.out).mono ?_
                          rintro e w70 ⟨rfl, hrow, hgr⟩
                          obtain ⟨v7, hv7⟩ : ∃ v7, v7 = stirF v6 2 7 8 13 (m.getD (sg r 12) 0) (m.getD (sg r 13) 0) := ⟨_, rfl⟩
                          rw [← hv7] at hrow
                          have HW7 := Lib.hid (show Wds 16 v7 by rw [hv7]; exact HW6.out.stirF _ _ _ _ _ _)
                          have HV7 := Lib.hid hrow
                          have HX7 := Lib.hid (HXW.out.other hgr (by omega) (by omega) (by omega) (by omega))
                          have HO7 := Lib.hid (blk_grown HOW.out hgr (fun e => by injection e with e; omega))
                          have HA7 := Lib.hid (HAW.out.grown hgr (by omega))
                          have HVN7 := Lib.hid hv7
                          clear hrow hgr hv7 HXW HVW HOW HAW
                          go_upto_region 28 with fail
                          refine region_f 13 (fun i vs W => match i with
                              | 0 => vs 0 = .slice (some ⟨gv, 0, none⟩) 16 16
                              | 1 => vs 1 = .slice (some ⟨gm, 0, none⟩) 16 16
                              | 2 => vs 2 = .slice (some ⟨gr, 0, none⟩) 16 16
                              | 3 => vs 3 = .pointer (some ⟨gr, 0 + 14, none⟩)
                              | 4 => vs 4 = .int .i64 ((sg r 14 : Nat) : Int)
                              | 5 => vs 5 = .pointer (some ⟨gm, 0 + sg r 14, none⟩)
                              | 6 => vs 6 = .int .u32 ((m.getD (sg r 14) 0 : Nat) : Int)
                              | 7 => vs 7 = .slice (some ⟨gm, 0, none⟩) 16 16
                              | 8 => vs 8 = .slice (some ⟨gr, 0, none⟩) 16 16
                              | 9 => vs 9 = .pointer (some ⟨gr, 0 + 15, none⟩)
                              | 10 => vs 10 = .int .i64 ((sg r 15 : Nat) : Int)
                              | 11 => vs 11 = .pointer (some ⟨gm, 0 + sg r 15, none⟩)
                              | 12 => vs 12 = .int .u32 ((m.getD (sg r 15) 0 : Nat) : Int)
                              | _ => True) (fun _ W W' => Below W.heap.size W W') (fun W => Below w70.heap.size w70 W) (by kernel_rfl) (by kernel_rfl) ?hst28 ?h028 ?step28 ?fin28
                          case hst28 =>
                            intro i k vs W W' _ _ h hG
                            match i, h with
                            | 0, h => exact h
                            | 1, h => exact h
                            | 2, h => exact h
                            | 3, h => exact h
                            | 4, h => exact h
                            | 5, h => exact h
                            | 6, h => exact h
                            | 7, h => exact h
                            | 8, h => exact h
                            | 9, h => exact h
                            | 10, h => exact h
                            | 11, h => exact h
                            | 12, h => exact h
                            | n + 13, _ => trivial
                          case h028 => exact (Below.refl _ _).drew
                          case step28 =>
                            intro i op hi ho ac W hS hag hdep
                            have hbr : Below W.heap.size W W := Below.refl _ _
                            match i, hi, ho with
                            | 0, _, rfl =>
                              exact ow_move _ rfl (hag 11 rfl) ⟨_, rfl, fun vs' h _ => h (fun e => by cases e), hbr, hS⟩
                            | 1, _, rfl =>
                              exact ow_move _ rfl (hag 9 rfl) ⟨_, rfl, fun vs' h _ => h (fun e => by cases e), hbr, hS⟩
                            | 2, _, rfl =>
                              exact ow_move _ rfl (hag 15 rfl) ⟨_, rfl, fun vs' h _ => h (fun e => by cases e), hbr, hS⟩
                            | 3, _, rfl =>
                              have h1 : ac.eval (.tmp 209) = .slice (some ⟨gr, 0, none⟩) 16 16 := hdep 2 (by omega) (by kernel_rfl)
                              exact ow_index _ _ 3 49 rfl gr 0 16 16 14 h1 rfl (by decide) Try.underlying49 (by kernel_rfl) ⟨_, rfl, fun vs' h _ => h (fun e => by cases e), hbr, hS⟩
                            | 4, _, rfl =>
                              have h1 : ac.eval (.tmp 210) = .pointer (some ⟨gr, 0 + 14, none⟩) := hdep 3 (by omega) (by kernel_rfl)
                              exact ow_load_int _ 3 .i64 rfl gr (0 + 14) h1 _ ((cell_of_row _ _ (0 + 14) _ _ _ (blk_below HO7.out hS)).trans (ordW_get r 14 (by decide))) Try.underlying3 ⟨_, rfl, fun vs' h _ => h (fun e => by cases e), hbr, hS⟩
                            | 5, _, rfl =>
                              have h1 : ac.eval (.tmp 208) = .slice (some ⟨gm, 0, none⟩) 16 16 := hdep 1 (by omega) (by kernel_rfl)
                              have h2 : ac.eval (.tmp 211) = .int .i64 ((sg r 14 : Nat) : Int) := hdep 4 (by omega) (by kernel_rfl)
                              exact ow_index _ _ 22 45 rfl gm 0 16 16 (sg r 14) h1 h2 (sg_lt r hlt 14 (by decide)) Try.underlying45 tag22 ⟨_, rfl, fun vs' h _ => h (fun e => by cases e), hbr, hS⟩
                            | 6, _, rfl =>
                              have h1 : ac.eval (.tmp 212) = .pointer (some ⟨gm, 0 + sg r 14, none⟩) := hdep 5 (by omega) (by kernel_rfl)
                              exact ow_load_int _ 22 .u32 rfl gm (0 + sg r 14) h1 _ (by rw [Nat.zero_add]; exact words_cell (HX7.out.rm.below hS) (sg r 14) (by rw [HMW.out.1]; exact sg_lt r hlt 14 (by decide))) Try.underlying22 ⟨_, rfl, fun vs' h _ => h (fun e => by cases e), hbr, hS⟩
                            | 7, _, rfl =>
                              exact ow_move _ rfl (hag 9 rfl) ⟨_, rfl, fun vs' h _ => h (fun e => by cases e), hbr, hS⟩
                            | 8, _, rfl =>
                              exact ow_move _ rfl (hag 15 rfl) ⟨_, rfl, fun vs' h _ => h (fun e => by cases e), hbr, hS⟩
                            | 9, _, rfl =>
                              have h1 : ac.eval (.tmp 215) = .slice (some ⟨gr, 0, none⟩) 16 16 := hdep 8 (by omega) (by kernel_rfl)
                              exact ow_index _ _ 3 49 rfl gr 0 16 16 15 h1 rfl (by decide) Try.underlying49 (by kernel_rfl) ⟨_, rfl, fun vs' h _ => h (fun e => by cases e), hbr, hS⟩
                            | 10, _, rfl =>
                              have h1 : ac.eval (.tmp 216) = .pointer (some ⟨gr, 0 + 15, none⟩) := hdep 9 (by omega) (by kernel_rfl)
                              exact ow_load_int _ 3 .i64 rfl gr (0 + 15) h1 _ ((cell_of_row _ _ (0 + 15) _ _ _ (blk_below HO7.out hS)).trans (ordW_get r 15 (by decide))) Try.underlying3 ⟨_, rfl, fun vs' h _ => h (fun e => by cases e), hbr, hS⟩
                            | 11, _, rfl =>
                              have h1 : ac.eval (.tmp 214) = .slice (some ⟨gm, 0, none⟩) 16 16 := hdep 7 (by omega) (by kernel_rfl)
                              have h2 : ac.eval (.tmp 217) = .int .i64 ((sg r 15 : Nat) : Int) := hdep 10 (by omega) (by kernel_rfl)
                              exact ow_index _ _ 22 45 rfl gm 0 16 16 (sg r 15) h1 h2 (sg_lt r hlt 15 (by decide)) Try.underlying45 tag22 ⟨_, rfl, fun vs' h _ => h (fun e => by cases e), hbr, hS⟩
                            | 12, _, rfl =>
                              have h1 : ac.eval (.tmp 218) = .pointer (some ⟨gm, 0 + sg r 15, none⟩) := hdep 11 (by omega) (by kernel_rfl)
                              exact ow_load_int _ 22 .u32 rfl gm (0 + sg r 15) h1 _ (by rw [Nat.zero_add]; exact words_cell (HX7.out.rm.below hS) (sg r 15) (by rw [HMW.out.1]; exact sg_lt r hlt 15 (by decide))) Try.underlying22 ⟨_, rfl, fun vs' h _ => h (fun e => by cases e), hbr, hS⟩
                            | n + 13, hi, _ => exact absurd hi (by omega)
                          case fin28 =>
                            intro vs W hS hF
                            have e0 : vs 0 = .slice (some ⟨gv, 0, none⟩) 16 16 := hF 0 (by omega)
                            have e1 : vs 1 = .slice (some ⟨gm, 0, none⟩) 16 16 := hF 1 (by omega)
                            have e2 : vs 2 = .slice (some ⟨gr, 0, none⟩) 16 16 := hF 2 (by omega)
                            have e3 : vs 3 = .pointer (some ⟨gr, 0 + 14, none⟩) := hF 3 (by omega)
                            have e4 : vs 4 = .int .i64 ((sg r 14 : Nat) : Int) := hF 4 (by omega)
                            have e5 : vs 5 = .pointer (some ⟨gm, 0 + sg r 14, none⟩) := hF 5 (by omega)
                            have e6 : vs 6 = .int .u32 ((m.getD (sg r 14) 0 : Nat) : Int) := hF 6 (by omega)
                            have e7 : vs 7 = .slice (some ⟨gm, 0, none⟩) 16 16 := hF 7 (by omega)
                            have e8 : vs 8 = .slice (some ⟨gr, 0, none⟩) 16 16 := hF 8 (by omega)
                            have e9 : vs 9 = .pointer (some ⟨gr, 0 + 15, none⟩) := hF 9 (by omega)
                            have e10 : vs 10 = .int .i64 ((sg r 15 : Nat) : Int) := hF 10 (by omega)
                            have e11 : vs 11 = .pointer (some ⟨gm, 0 + sg r 15, none⟩) := hF 11 (by omega)
                            have e12 : vs 12 = .int .u32 ((m.getD (sg r 15) 0 : Nat) : Int) := hF 12 (by omega)
                            clear hF
                            change wpList _ _ _ _ (Act.put (Act.put (Act.put (Act.put (Act.put (Act.put (Act.put (Act.put (Act.put (Act.put (Act.put (Act.put (Act.put _ (some 207) (vs 0)) (some 208) (vs 1)) (some 209) (vs 2)) (some 210) (vs 3)) (some 211) (vs 4)) (some 212) (vs 5)) (some 213) (vs 6)) (some 214) (vs 7)) (some 215) (vs 8)) (some 216) (vs 9)) (some 217) (vs 10)) (some 218) (vs 11)) (some 219) (vs 12)) W
                            rw [e0, e1, e2, e3, e4, e5, e6, e7, e8, e9, e10, e11, e12]
                            clear e0 e1 e2 e3 e4 e5 e6 e7 e8 e9 e10 e11 e12
                            simp only [putAll, List.drop_succ_cons, List.drop_zero, Act.put, List.setIfInBounds_toArray, List.set_cons_zero, List.set_cons_succ]
                            clear vs
                            have HXW := Lib.hid (HX7.out.keep hS)
                            have HVW := Lib.hid (HV7.out.below hS)
                            have HOW := Lib.hid (blk_below HO7.out hS)
                            have HAW := Lib.hid (HA7.out.below hS)
                            clear hS HX7 HV7 HO7 HA7
                            go_wp2_with fail
                            refine (stirR_any gv 3 4 9 14 (m.getD (sg r 14) 0) (m.getD (sg r 15) 0) v7 HW7.out (by decide) (by decide) (by decide) (by decide) W HVW.out).mono ?_
                            rintro e w80 ⟨rfl, hrow, hgr⟩
                            obtain ⟨v8, hv8⟩ : ∃ v8, v8 = stirF v7 3 4 9 14 (m.getD (sg r 14) 0) (m.getD (sg r 15) 0) := ⟨_, rfl⟩
                            rw [← hv8] at hrow
                            have HW8 := Lib.hid (show Wds 16 v8 by rw [hv8]; exact HW7.out.stirF _ _ _ _ _ _)
                            have HV8 := Lib.hid hrow
                            have HX8 := Lib.hid (HXW.out.other hgr (by omega) (by omega) (by omega) (by omega))
                            have HO8 := Lib.hid (blk_grown HOW.out hgr (fun e => by injection e with e; omega))
                            have HA8 := Lib.hid (HAW.out.grown hgr (by omega))
                            have HVN8 := Lib.hid hv8
                            clear hrow hgr hv8 HXW HVW HOW HAW
                            go_wp2_with fail
                            go_roundw
                            case rel =>
                              refine ⟨r + 1, by omega, rfl, HX8.out, ?_, HA8.out⟩
                              have e : rounds m (r + 1) vi = v8 := by
                                rw [HVN8.out, HVN7.out, HVN6.out, HVN5.out, HVN4.out, HVN3.out, HVN2.out, HVN1.out, HVN0.out]
                                exact steps_8 m r (rounds m r vi)
                              rw [e]
                              exact HV8.out
                            case measure => simp [intOf]; omega
          · have hd : decide (((10 : Nat) : Int) < 10) = false := by decide
            have HX := Lib.hid hx
            have HV := Lib.hid hv
            clear hx hv hA
            obtain ⟨vf, hvf⟩ : ∃ vf, vf = rounds m 10 vi := ⟨_, rfl⟩
            rw [← hvf] at HV
            have HWF := Lib.hid (show Wds 16 vf by rw [hvf]; exact HWI.out.rounds m 10)
            have HVF := Lib.hid hvf
            clear hvf
            go_wp2_with fail
            go_loopw [16] (fun i wr => ∃ k : Nat, k ≤ 8 ∧ i = .int .i64 (k : Int) ∧ RMx w th tr gm (hTo h vf k) m wr ∧ RowS wr gv vf) (fun i _ => 8 - (intOf i).toNat)
            case atStart => exact ⟨0, by omega, rfl, by rw [hTo_zero h vf HH.out.1]; exact HX.out, HV.out⟩
            case round =>
              clear HX HV
              obtain ⟨k, hk, rfl, hx, hv⟩ := hrel
              have HX := Lib.hid hx
              have HV := Lib.hid hv
              clear hx hv
              rcases (show k < 8 ∨ k = 8 by omega) with hlt | rfl
              · have hd : decide ((k : Int) < 8) = true := by simp; omega
                have hk16 : k + 8 < 16 := by omega
                go_upto_region 32 with fail
                refine region_f 15 (fun i vs W => match i with
                    | 0 => vs 0 = .int .i64 (k : Int)
                    | 1 => vs 1 = .int .i64 (k : Int)
                    | 2 => vs 2 = .pointer (some ⟨th, 0 + k, none⟩)
                    | 3 => vs 3 = .int .u32 ((h.getD k 0 : Nat) : Int)
                    | 4 => vs 4 = .slice (some ⟨gv, 0, none⟩) 16 16
                    | 5 => vs 5 = .int .i64 (k : Int)
                    | 6 => vs 6 = .pointer (some ⟨gv, 0 + k, none⟩)
                    | 7 => vs 7 = .int .u32 ((vf.getD k 0 : Nat) : Int)
                    | 8 => vs 8 = .int .u32 ((h.getD k 0 ^^^ vf.getD k 0 : Nat) : Int)
                    | 9 => vs 9 = .slice (some ⟨gv, 0, none⟩) 16 16
                    | 10 => vs 10 = .int .i64 (k : Int)
                    | 11 => vs 11 = .int .i64 ((k + 8 : Nat) : Int)
                    | 12 => vs 12 = .pointer (some ⟨gv, 0 + (k + 8), none⟩)
                    | 13 => vs 13 = .int .u32 ((vf.getD (k + 8) 0 : Nat) : Int)
                    | 14 => vs 14 = .int .u32 (((h.getD k 0 ^^^ vf.getD k 0) ^^^ vf.getD (k + 8) 0 : Nat) : Int)
                    | _ => True) (fun _ W W' => Below W.heap.size W W') (fun W => Below wr.heap.size wr W) (by kernel_rfl) (by kernel_rfl) ?hst32 ?h032 ?step32 ?fin32
                case hst32 =>
                  intro i k vs W W' _ _ h hG
                  match i, h with
                  | 0, h => exact h
                  | 1, h => exact h
                  | 2, h => exact h
                  | 3, h => exact h
                  | 4, h => exact h
                  | 5, h => exact h
                  | 6, h => exact h
                  | 7, h => exact h
                  | 8, h => exact h
                  | 9, h => exact h
                  | 10, h => exact h
                  | 11, h => exact h
                  | 12, h => exact h
                  | 13, h => exact h
                  | 14, h => exact h
                  | n + 15, _ => trivial
                case h032 => exact (Below.refl _ _).drew
                case step32 =>
                  intro i op hi ho ac W hS hag hdep
                  have hbr : Below W.heap.size W W := Below.refl _ _
                  match i, hi, ho with
                  | 0, _, rfl =>
                    exact ow_move _ rfl (hag 16 rfl) ⟨_, rfl, fun vs' h _ => h (fun e => by cases e), hbr, hS⟩
                  | 1, _, rfl =>
                    exact ow_move _ rfl (hag 16 rfl) ⟨_, rfl, fun vs' h _ => h (fun e => by cases e), hbr, hS⟩
                  | 2, _, rfl =>
                    have h1 : ac.eval (.tmp 226) = .int .i64 (k : Int) := hdep 1 (by omega) (by kernel_rfl)
                    exact ow_index_arr _ _ 22 23 8 rfl th 0 k (hag 4 rfl) h1 hlt Try.underlying23 tag22 ⟨_, rfl, fun vs' h _ => h (fun e => by cases e), hbr, hS⟩
                  | 3, _, rfl =>
                    have h1 : ac.eval (.tmp 227) = .pointer (some ⟨th, 0 + k, none⟩) := hdep 2 (by omega) (by kernel_rfl)
                    exact ow_load_int _ 22 .u32 rfl th (0 + k) h1 _ (by rw [Nat.zero_add, ← hTo_get h vf k hlt]; exact words_cell (blk_below HX.out.rh hS) k (by simp [hTo]; omega)) Try.underlying22 ⟨_, rfl, fun vs' h _ => h (fun e => by cases e), hbr, hS⟩
                  | 4, _, rfl =>
                    exact ow_move _ rfl (hag 11 rfl) ⟨_, rfl, fun vs' h _ => h (fun e => by cases e), hbr, hS⟩
                  | 5, _, rfl =>
                    exact ow_move _ rfl (hag 16 rfl) ⟨_, rfl, fun vs' h _ => h (fun e => by cases e), hbr, hS⟩
                  | 6, _, rfl =>
                    have h1 : ac.eval (.tmp 229) = .slice (some ⟨gv, 0, none⟩) 16 16 := hdep 4 (by omega) (by kernel_rfl)
                    have h2 : ac.eval (.tmp 230) = .int .i64 (k : Int) := hdep 5 (by omega) (by kernel_rfl)
                    exact ow_index _ _ 22 45 rfl gv 0 16 16 k h1 h2 (by omega) Try.underlying45 tag22 ⟨_, rfl, fun vs' h _ => h (fun e => by cases e), hbr, hS⟩
                  | 7, _, rfl =>
                    have h1 : ac.eval (.tmp 231) = .pointer (some ⟨gv, 0 + k, none⟩) := hdep 6 (by omega) (by kernel_rfl)
                    exact ow_load_int _ 22 .u32 rfl gv (0 + k) h1 _ (by rw [Nat.zero_add]; exact words_cell (HV.out.below hS) k (by rw [HWF.out.1]; omega)) Try.underlying22 ⟨_, rfl, fun vs' h _ => h (fun e => by cases e), hbr, hS⟩
                  | 8, _, rfl =>
                    have h1 : ac.eval (.tmp 228) = .int .u32 ((h.getD k 0 : Nat) : Int) := hdep 3 (by omega) (by kernel_rfl)
                    have h2 : ac.eval (.tmp 232) = .int .u32 ((vf.getD k 0 : Nat) : Int) := hdep 7 (by omega) (by kernel_rfl)
                    exact ow_xor32 _ _ 22 22 _ _ rfl h1 h2 (getD_lt HH.out k) (getD_lt HWF.out k) Try.underlying22 ⟨_, rfl, fun vs' h _ => h (fun e => by cases e), hbr, hS⟩
                  | 9, _, rfl =>
                    exact ow_move _ rfl (hag 11 rfl) ⟨_, rfl, fun vs' h _ => h (fun e => by cases e), hbr, hS⟩
                  | 10, _, rfl =>
                    exact ow_move _ rfl (hag 16 rfl) ⟨_, rfl, fun vs' h _ => h (fun e => by cases e), hbr, hS⟩
                  | 11, _, rfl =>
                    have h1 : ac.eval (.tmp 235) = .int .i64 (k : Int) := hdep 10 (by omega) (by kernel_rfl)
                    exact ow_add_nat _ _ 3 3 k 8 rfl h1 rfl Try.underlying3 (by omega) ⟨_, rfl, fun vs' h _ => h (fun e => by cases e), hbr, hS⟩
                  | 12, _, rfl =>
                    have h1 : ac.eval (.tmp 234) = .slice (some ⟨gv, 0, none⟩) 16 16 := hdep 9 (by omega) (by kernel_rfl)
                    have h2 : ac.eval (.tmp 236) = .int .i64 ((k + 8 : Nat) : Int) := hdep 11 (by omega) (by kernel_rfl)
                    exact ow_index _ _ 22 45 rfl gv 0 16 16 (k + 8) h1 h2 (by omega) Try.underlying45 tag22 ⟨_, rfl, fun vs' h _ => h (fun e => by cases e), hbr, hS⟩
                  | 13, _, rfl =>
                    have h1 : ac.eval (.tmp 237) = .pointer (some ⟨gv, 0 + (k + 8), none⟩) := hdep 12 (by omega) (by kernel_rfl)
                    exact ow_load_int _ 22 .u32 rfl gv (0 + (k + 8)) h1 _ (by rw [Nat.zero_add]; exact words_cell (HV.out.below hS) (k + 8) (by rw [HWF.out.1]; omega)) Try.underlying22 ⟨_, rfl, fun vs' h _ => h (fun e => by cases e), hbr, hS⟩
                  | 14, _, rfl =>
                    have h1 : ac.eval (.tmp 233) = .int .u32 ((h.getD k 0 ^^^ vf.getD k 0 : Nat) : Int) := hdep 8 (by omega) (by kernel_rfl)
                    have h2 : ac.eval (.tmp 238) = .int .u32 ((vf.getD (k + 8) 0 : Nat) : Int) := hdep 13 (by omega) (by kernel_rfl)
                    exact ow_xor32 _ _ 22 22 _ _ rfl h1 h2 (xor_lt (getD_lt HH.out k) (getD_lt HWF.out k)) (getD_lt HWF.out (k + 8)) Try.underlying22 ⟨_, rfl, fun vs' h _ => h (fun e => by cases e), hbr, hS⟩
                  | n + 15, hi, _ => exact absurd hi (by omega)
                case fin32 =>
                  intro vs W hS hF
                  have e0 : vs 0 = .int .i64 (k : Int) := hF 0 (by omega)
                  have e14 : vs 14 = .int .u32 (((h.getD k 0 ^^^ vf.getD k 0) ^^^ vf.getD (k + 8) 0 : Nat) : Int) := hF 14 (by omega)
                  clear hF
                  change wpList _ _ _ _ (Act.put (Act.put (Act.put (Act.put (Act.put (Act.put (Act.put (Act.put (Act.put (Act.put (Act.put (Act.put (Act.put (Act.put (Act.put _ (some 225) (vs 0)) (some 226) (vs 1)) (some 227) (vs 2)) (some 228) (vs 3)) (some 229) (vs 4)) (some 230) (vs 5)) (some 231) (vs 6)) (some 232) (vs 7)) (some 233) (vs 8)) (some 234) (vs 9)) (some 235) (vs 10)) (some 236) (vs 11)) (some 237) (vs 12)) (some 238) (vs 13)) (some 239) (vs 14)) W
                  rw [e0, e14]
                  clear e0 e14
                  generalize vs 1 = z1
                  generalize vs 2 = z2
                  generalize vs 3 = z3
                  generalize vs 4 = z4
                  generalize vs 5 = z5
                  generalize vs 6 = z6
                  generalize vs 7 = z7
                  generalize vs 8 = z8
                  generalize vs 9 = z9
                  generalize vs 10 = z10
                  generalize vs 11 = z11
                  generalize vs 12 = z12
                  generalize vs 13 = z13
                  simp only [putAll, List.drop_succ_cons, List.drop_zero, Act.put, List.setIfInBounds_toArray, List.set_cons_zero, List.set_cons_succ]
                  clear vs
                  have HXW := Lib.hid (HX.out.keep hS)
                  have HVW := Lib.hid (HV.out.below hS)
                  clear hS HX HV
                  have hcv := words_cell HXW.out.rh k (by simp [hTo]; omega)
                  have hfz : W.frozen? ⟨th, k, none⟩ = false := frozen_of_row W th _ _ _ HXW.out.rh
                  obtain ⟨X, hX⟩ : ∃ X : Nat, X = (h.getD k 0 ^^^ vf.getD k 0) ^^^ vf.getD (k + 8) 0 := ⟨_, rfl⟩
                  rw [← hX]
                  have HXX := Lib.hid hX
                  clear hX
                  go_wp2_with fail
                  go_roundw
                  case rel =>
                    have hgr : W.grownBy (W.setCell ⟨th, k, none⟩ (.int .u32 (X : Int))) (some th) := grown_setCell (grown_refl _ _) _ _
                    have hset := blk_setCell (i := k) HXW.out.rh (.int .u32 (X : Int))
                    rw [wordsV_set, HXX.out, hTo_succ, ← HXX.out] at hset
                    refine ⟨k + 1, by omega, rfl, ⟨HXW.out.bel.grown hgr HXW.out.bel.size (fun q e => by injection e with e; omega), hset, blk_grown HXW.out.rr hgr (fun e => by injection e with e; omega), blk_grown HXW.out.rm hgr (fun e => by injection e with e; omega)⟩, blk_grown HVW.out hgr (fun e => by injection e with e; omega)⟩
                  case measure => simp [intOf]; omega
              · have hd : decide (((8 : Nat) : Int) < 8) = false := by decide
                rw [hTo_all] at HX
                have HFW := Lib.hid (HH.out.fold HWF.out)
                go_wp2_with (first
                  | (refine wpList_load_row rfl 23 _ rfl th rfl 23 _ (0, 0) _ HX.out.rh Try.underlying23 rfl (by rw [wordsV_size, HFW.out.1]; kernel_rfl) ?_)
                  | (refine wpList_store_row rfl 23 _ _ rfl tr rfl 23 _ _ rfl HX.out.rr (by rw [wordsV_size, HFW.out.1]; rfl) (by rw [wordsV_size, HFW.out.1]; kernel_rfl) (wordsV_one _) ?_; intro w9 hT9 hS9 hG9; have HT9 := Lib.hid hT9; have HG9 := Lib.hid hG9; clear hT9 hS9 hG9))
                have e : fold h vf = mixF h (wordsF bs) n last := by rw [HVF.out, HM.out, HVI.out]; rfl
                rw [e] at HT9 HFW
                refine bodyPost_ret (v := .agg (wordsV (mixF h (wordsF bs) n last)).toArray) ?_ rfl ⟨rfl, HX.out.bel.grown HG9.out HX.out.bel.size (fun k e => by injection e with e; omega)⟩
                exact results_cell_row (P := Try.prog) (p := 8) (ty := 23) rfl _ w9 tr 23 _ (0, 0) _ rfl HT9.out Try.underlying23 rfl (by rw [wordsV_size, HFW.out.1]; kernel_rfl)
end Go.Proofs.Ytnemclbeofiakaa
