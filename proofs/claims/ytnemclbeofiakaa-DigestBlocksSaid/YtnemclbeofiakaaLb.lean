/-
  DigestBlocks' walk.
-/
import Derived.Test.YtnemclbeofiakaaWu
namespace Go.Proofs.Ytnemclbeofiakaa
open Go.RowKit Bl

/-- the length of a slice -/
def lenS : Value → Nat
  | .slice _ n _ => n
  | _ => 0
theorem lenS_own {w : World} {B : Nat} {e : TypeId} {n : Nat} {v : Value} {xs : List Value} (h : w.ownsRow B e 1 v n xs) : lenS v = n := by
  rcases h.2 with ⟨rfl, h0⟩ | ⟨g, cap, cur, rfl, _⟩
  · exact h0.symm
  · rfl
theorem zeros_succ (r : List UInt8) (j : Nat) : bytesV (r ++ List.replicate (j + 1) 0) = bytesV (r ++ List.replicate j 0) ++ [.int .u8 0] := by
  rw [List.replicate_succ', ← List.append_assoc, bytesV_append]; rfl
theorem last_zeros (h : List Nat) (n m : Nat) (r : List UInt8) (j : Nat) (hm : n + r.length = m) (hlt : m < 18446744073709551616) : mixF h (wordsF (r ++ List.replicate j 0)) m ((1 : Int) == 1) = lastF h n r := by
  rw [words_zeros]
  unfold lastF
  rw [hm, Nat.mod_eq_of_lt hlt]
  rfl
theorem SB.of_blk23 {g : Nat} {W W' : World} {l : List Nat} {v : Value} {r : List UInt8} (H : SB W v r) (hg : W.heap[g]? = some (.cells (wordsV l).toArray 23 (0, 0))) (hgr : W.grownBy W' (some g)) : SB W' v r := by
  obtain ⟨A, c, rfl, h1, h2, h3⟩ := H
  refine ⟨A, c, rfl, h1, h2, h3.imp id ?_⟩
  rintro ⟨b, o, rfl, hc⟩
  refine ⟨b, o, rfl, fun i hi => ?_⟩
  have h0 := hc i hi
  have hne : b ≠ g := by
    rintro rfl
    rw [cell_of_row W b _ _ _ _ hg] at h0
    have hm := List.mem_of_getElem? (by simpa using h0 : (wordsV l)[o + i]? = _)
    obtain ⟨y, _, hy⟩ := List.mem_map.1 hm
    injection hy with hy
    cases hy
  have hlt := cell_lt h0
  have hgb : W.heap[b]? = some W.heap[b] := by simp [hlt]
  have h4 := blk_grown hgb hgr (fun e => by injection e with e; exact hne e)
  have : W'.cell? ⟨b, o + i, none⟩ = W.cell? ⟨b, o + i, none⟩ := by simp [World.cell?, hgb, h4]
  rw [this]
  exact h0
/-- a row of bytes, owned, and not empty: where it lies -/
theorem own_at {w : World} {B p : Nat} {v : Value} {bs : List UInt8} (h : w.ownsRow B 5 1 v p (bytesV bs)) (hp : 0 < p) : ∃ g c, v = .slice (some ⟨g, 0, none⟩) p c ∧ ∀ k x, k < p → bs[k]? = some x → w.cell? ⟨g, 0 + k, none⟩ = some (.int .u8 (x.toNat : Int)) := by
  rcases h.2 with ⟨_, h0⟩ | ⟨g, cap, cur, rfl, hb, hg, h1, h2, h3, h4⟩
  · omega
  · refine ⟨g, cap, rfl, fun k x hk hx => ?_⟩
    rw [Nat.zero_add, cell_of_row w g k _ _ _ hg]
    have h5 : (cur.toList.take (p * 1))[k]? = (bytesV bs)[k]? := by rw [h4]
    rw [List.getElem?_take_of_lt (by omega)] at h5
    rw [← Array.getElem?_toList, h5]
    simp [bytesV, hx]
/-- DigestBlocks, in its first loop -/
structure BlAt (w : World) (g1 g7 p : Nat) (hs : List Nat) (W : World) : Prop where
  dg : DgAt g1 (beginF p) 0 (p : Int) nilS [] W
  row : W.heap[g7]? = some (.cells (wordsV hs).toArray 23 (0, 0))
  below : Below w.heap.size w W
theorem BlAt.keep {w : World} {g1 g7 p : Nat} {hs : List Nat} {W W' : World} (H : BlAt w g1 g7 p hs W) (hb : Below W.heap.size W W') : BlAt w g1 g7 p hs W' :=
  ⟨H.dg.below hb, blk_below H.row hb, H.below.trans (hb.mono H.below.size)⟩

set_option maxHeartbeats 1000000 in
set_option maxRecDepth 4000 in
theorem DigestBlocks_any (sz : Int) (A : Option Addr) (n c : Nat) (w : World) (hs : n ≤ 3840 → ∃ bs, n = bs.length ∧ SB w (.slice A n c) bs) :
    Calls Try.prog 6 #[.int .i64 sz, .slice A n c] w fun e w' => e = .returned (.bool true) ∧ Below w.heap.size w w' := by
  have HSB := Lib.hid hs
  clear hs
  go_enter Try.func6, Try.ntmps6
  by_cases hlong : 3840 < n
  · have hd : decide ((3840 : Int) < (n : Int)) = true := by simp; omega
    go_wp2_with fail
    refine (awake_any w).mono ?_
    rintro e w7 ⟨rfl, hb7⟩
    go_wp2_with fail
    go_ret
    exact ⟨rfl, hb7⟩
  have hd : decide ((3840 : Int) < (n : Int)) = false := by simp; omega
  obtain ⟨bs, rfl, hsb⟩ := HSB.out (by omega)
  have HS := Lib.hid hsb
  clear hsb HSB
  by_cases hz : bs.length = 0
  · have hd0 : ((bs.length : Int) == 0) = true := by simp [hz]
    go_wp2_with fail
    refine (awake_any w).mono ?_
    rintro e w7 ⟨rfl, hb7⟩
    go_wp2_with fail
    go_ret
    exact ⟨rfl, hb7⟩
  have hd0 : ((bs.length : Int) == 0) = false := by rw [beq_eq_false_iff_ne]; omega
  go_wp2_with fail
  refine (Begin_any sz w).mono ?_
  rintro e w1 ⟨cs1, rfl, hz1, ho1, he1, hb1⟩
  have HZ1 := Lib.hid hz1
  have HO1 := Lib.hid ho1
  have HE1 := Lib.hid he1
  have HB1 := Lib.hid hb1
  clear hz1 ho1 he1 hb1
  obtain ⟨ea, hea⟩ : ∃ x : Int, x = if 1 ≤ sz ∧ sz ≤ 32 then 0 else 1 := ⟨_, rfl⟩
  rw [← hea]
  have HEA := Lib.hid hea
  clear hea
  obtain ⟨g1, hg1⟩ : ∃ g, g = w1.heap.size := ⟨_, rfl⟩
  have HG1 := Lib.hid hg1
  clear hg1
  go_upto_region 4 with (first
    | (refine wpList_alloc_row rfl 33 rfl _ (zero33 _) ?_; rw [← HG1.out]; intro w2 hT hS hG; have HT2 := Lib.hid hT; have HG2 := Lib.hid (below_of_grown hG); clear hT hG hS)
    | (refine wpList_store_row rfl 33 _ _ rfl g1 rfl 33 _ _ rfl HT2.out (by rw [HZ1.out]; rfl) (by rw [HZ1.out]; kernel_rfl) HO1.out ?_; intro w3 hT3 hS3 hG3; have HT3 := Lib.hid hT3; have HG3 := Lib.hid hG3; clear hT3 hS3 hG3))
  have HB3 := Lib.hid ((HB1.out.trans (HG2.out.mono HB1.out.size)).grown HG3.out (by have := HB1.out.size; have := HG2.out.size; omega) (fun k e => by injection e with e; have := HB1.out.size; have := HG1.out; omega))
  have hg1w : w.heap.size ≤ g1 := by have := HB1.out.size; have := HG1.out; omega
  clear HB1 HG2 HG3 HT2 HG1
  by_cases ha : 1 ≤ sz ∧ sz ≤ 32
  case neg =>
    have hea1 : ea = 1 := by rw [HEA.out, if_neg ha]
    subst hea1
    go_wp2_with fail
    refine (awake_any w3).mono ?_
    rintro e w7 ⟨rfl, hb7⟩
    go_wp2_with fail
    go_ret
    exact ⟨rfl, HB3.out.trans (hb7.mono HB3.out.size)⟩
  have hea0 : ea = 0 := by rw [HEA.out, if_pos ha]
  subst hea0
  have hcs1 := HE1.out ha
  subst hcs1
  obtain ⟨p, rfl⟩ : ∃ k : Nat, sz = (k : Int) := ⟨sz.toNat, by omega⟩
  simp only [Int.toNat_natCast] at HT3 ⊢
  clear HE1 HO1 HZ1 HEA
  have HWP := Lib.hid (wds_begin (s := p) (by omega))
  have D3 := Lib.hid (show DgAt g1 (beginF p) 0 (p : Int) nilS [] w3 from ⟨HT3.out, SB_nil w3, HWP.out, by decide⟩)
  obtain ⟨g7, hg7⟩ : ∃ g, g = w3.heap.size := ⟨_, rfl⟩
  have HG7 := Lib.hid hg7
  clear hg7
  go_upto_region 7 with (first
    | (refine wpList_load_words rfl _ rfl g1 D3.out rfl ?_)
    | (refine wpList_alloc_row rfl 23 rfl _ (zero23 _) ?_; rw [← HG7.out]; intro w4 hT hS hG; have HT4 := Lib.hid hT; have HG4 := Lib.hid (below_of_grown hG); clear hT hG hS)
    | (refine wpList_store_row rfl 23 _ _ rfl g7 rfl 23 _ _ rfl HT4.out (by rw [wordsV_size, HWP.out.1]; rfl) (by rw [wordsV_size, HWP.out.1]; kernel_rfl) (wordsV_one _) ?_; intro w5 hT3 hS3 hG3; have HT5 := Lib.hid hT3; have HG5 := Lib.hid hG3; clear hT3 hS3 hG3))
  have BL5 : BlAt w g1 g7 p (beginF p) w5 := by
    have hg := HG7.out
    have h4 := HG4.out.size
    have h3 := blk_lt HT3.out
    refine ⟨⟨blk_grown (blk_below D3.out.row HG4.out) HG5.out (fun e => by injection e with e; omega), SB_nil w5, HWP.out, by decide⟩, HT5.out, (HB3.out.trans (HG4.out.mono HB3.out.size)).grown HG5.out (by have := HB3.out.size; omega) (fun k e => by injection e with e; have := HB3.out.size; omega)⟩
  have hg17 : g1 < g7 := by have := HG7.out; have := blk_lt HT3.out; omega
  have HBL := Lib.hid BL5
  clear BL5 HT3 HB3 D3 HG7 HT4 HG4 HT5 HG5
  obtain ⟨N, hN⟩ : ∃ N, N = (bs.length - 1) / 64 := ⟨_, rfl⟩
  have hq1 : ((bs.length : Int) - 1) / 64 = (N : Int) := by omega
  have hq2 : ((bs.length : Int) - 1).tdiv 64 = (N : Int) := by rw [Int.tdiv_eq_ediv_of_nonneg (by omega)]; omega
  have HN := Lib.hid hN
  clear hN
  go_wp2_with fail
  go_loopw [9] (fun i wr => ∃ k : Nat, k ≤ N ∧ i = .int .i64 (k : Int) ∧ BlAt w g1 g7 p (blocksF (beginF p) bs k) wr) (fun i _ => N - (intOf i).toNat)
  case atStart => exact ⟨0, Nat.zero_le _, rfl, HBL.out⟩
  case round =>
    clear HBL
    obtain ⟨k, hk, rfl, hbl⟩ := hrel
    have HBL := Lib.hid hbl
    clear hbl
    rcases (show N = k ∨ k < N by omega) with rfl | hlt
    · have hd1 : decide ((N : Int) < (N : Int)) = false := by simp
      have hn : 64 * N < bs.length := by have := HN.out; omega
      have hn2 : bs.length ≤ 64 * N + 64 := by have := HN.out; omega
      go_wp2_with (refine wpList_load_row rfl 33 _ rfl g1 rfl 33 _ (0, 0) _ HBL.out.dg.row Try.underlying33 rfl (by rw [dgV_size HWP.out.1]; kernel_rfl) ?_)
      refine (Write_any (beginF p) HWP.out 0 (by decide) (p : Int) nilS _ [] bs wr (SB_nil _) (HS.out.below HBL.out.below) (by simp; omega)).mono ?_
      rintro e w6 ⟨sl', rfl, hown, hb6⟩
      simp only [List.nil_append] at hown ⊢
      rw [writeL_all (beginF p) bs (by omega) (by omega), ← HN.out] at hown ⊢
      simp only at hown ⊢
      have hrl : (bs.drop (64 * N)).length = bs.length - 64 * N := by simp
      obtain ⟨A6, c6, rfl, hs6, -⟩ := (SB_of_own hown (by omega)).shape
      rw [hrl] at hs6 ⊢
      have HBW := Lib.hid (HBL.out.keep hb6)
      have HSD := Lib.hid hs6
      have HWN := Lib.hid (blocksF_wds HWP.out bs N)
      clear hs6 hown HBL hb6
      obtain ⟨hf, hhf⟩ : ∃ hf, hf = blocksF (beginF p) bs N := ⟨_, rfl⟩
      rw [← hhf] at HBW HWN ⊢
      have HHF := Lib.hid hhf
      clear hhf
      obtain ⟨g12, hg12⟩ : ∃ g, g = w6.heap.size := ⟨_, rfl⟩
      have HG12 := Lib.hid hg12
      clear hg12
      go_upto_region 16 with (first
        | (refine wpList_alloc_row rfl 33 rfl _ (zero33 _) ?_; rw [← HG12.out]; intro w7 hT hS hG; have HT7 := Lib.hid hT; have HG7 := Lib.hid (below_of_grown hG); clear hT hG hS)
        | (refine wpList_store_row rfl 33 _ _ rfl g12 rfl 33 _ _ rfl HT7.out (by rw [dgV_size HWN.out.1]; rfl) (by rw [dgV_size HWN.out.1]; kernel_rfl) (dgV_one _ _ rfl) ?_; intro w8 hT3 hS3 hG3; have HT8 := Lib.hid hT3; have HG8 := Lib.hid hG3; clear hT3 hS3 hG3))
      have h1lt : g1 < g12 := by have := blk_lt HBW.out.dg.row; have := HG12.out; omega
      have h7lt : g7 < g12 := by have := blk_lt HBW.out.row; have := HG12.out; omega
      have HBW7 := HBW.out.keep HG7.out
      have HBW8 := Lib.hid (show BlAt w g1 g7 p hf w8 from ⟨⟨blk_grown HBW7.dg.row HG8.out (fun e => by injection e with e; omega), SB_nil w8, HWP.out, by decide⟩, blk_grown HBW7.row HG8.out (fun e => by injection e with e; omega), HBW7.below.grown HG8.out HBW7.below.size (fun k e => by injection e with e; omega)⟩)
      have D12 := Lib.hid (show DgAt g12 hf (64 * N) (p : Int) (.slice A6 (bs.length - 64 * N) c6) (bs.drop (64 * N)) w8 from ⟨HT8.out, (HSD.out.below HG7.out).grown33 HT7.out (dgV_nobyte _ _) HG8.out, HWN.out, by omega⟩)
      clear HBW7 HBW HG7 HG8 HT7 HSD HG12
      have hc8 := D12.out.c8
      have hc9 := D12.out.c9
      rw [Int.natCast_mul] at hc9
      have hle : ((bs.length - 64 * N : Nat) : Int) = (bs.length : Int) - 64 * (N : Int) := by omega
      have hr1 : ((bs.length : Int) - 64 * (N : Int) != (bs.length : Int) - 64 * (N : Int)) = false := by simp
      have hr2 : (!decide (hf = hf)) = false := by simp
      have hwr : IntKind.u64.wrap (64 * (N : Int)) = 64 * (N : Int) := by rw [IntKind.wrap_u64]; omega
      go_upto_region 18 with (first
        | (refine wpList_load_words rfl _ rfl g12 D12.out rfl ?_)
        | (refine wpList_load_row rfl 23 _ rfl g7 rfl 23 _ (0, 0) _ HBW8.out.row Try.underlying23 rfl (by rw [wordsV_size, HWN.out.1]; kernel_rfl) ?_)
        | (refine wpList_neq_words rfl _ _ _ rfl HWN.out.1 HWN.out.1 rfl rfl ?_))
      obtain ⟨i0, hi0, hz0, hz1, hz2⟩ := info_parts info5
      have HI0 := Lib.hid hi0
      have HZ0 := Lib.hid hz0
      have HZ1 := Lib.hid hz1
      have HZ2 := Lib.hid hz2
      clear hi0 hz0 hz1 hz2 hc8 hc9 hle hr1 hr2 hwr HT8
      have HS8 := Lib.hid (HS.out.below HBW8.out.below)
      go_upto_region 100 with (first
        | (refine wpList_build0 rfl rfl ?_)
        | (refine wpList_cut_from rfl _ _ rfl rfl (HS8.out.below (below_alloc1 w8 _)) (64 * N) rfl (by omega) ?_; intro v9 hv9; obtain ⟨A9, c9, rfl, hs9, -⟩ := hv9.shape; have HS9 := Lib.hid hs9; clear hs9 hv9; rw [hrl] at HS9 ⊢)
        | (at_builtin; refine wpList_append_src _ rfl (.tmp 91) (.tmp 95) 24 rfl w8.heap.size 5 i0 (.int .u8 0) 1 Try.underlying24 HI0.out HZ0.out HZ1.out HZ2.out rfl _ 0 [] rfl (own_build0 w8 w8.heap.size (Nat.le_refl _)) A9 (bs.length - 64 * N) c9 (bytesV (bs.drop (64 * N))) rfl (by rw [bytesV_length, hrl]) (by rw [← hrl] at HS9 ⊢; exact HS9.out.isNil) (by rw [← hrl] at HS9; exact HS9.out.cells) (bytesV_one _) (by unfold maxLen; omega) (by omega) (by simp) ?_; intro v3 w9 hown3 hg3 hat3; have HO3 := Lib.hid hown3; have HG3 := Lib.hid hg3; clear hown3 hg3 hat3))
      have hown9 : w9.ownsRow w8.heap.size 5 1 v3 (bs.length - 64 * N) (bytesV (bs.drop (64 * N))) := by simpa using HO3.out
      have hb9 : Below w8.heap.size w8 w9 := (below_alloc1 w8 (.cells #[] 5)).grown HG3.out (by simp) (own_ge (own_build0 w8 w8.heap.size (Nat.le_refl _)))
      have HO9 := Lib.hid hown9
      have HB9 := Lib.hid hb9
      clear hown9 hb9 HO3 HG3 HS9
      obtain ⟨B, hB⟩ : ∃ B, B = w8.heap.size := ⟨_, rfl⟩
      rw [← hB] at HO9 HB9
      have HBB := Lib.hid hB
      clear hB
      obtain ⟨r, hr⟩ : ∃ r, r = bs.drop (64 * N) := ⟨_, rfl⟩
      rw [← hr] at hrl D12 HO9
      have HR := Lib.hid hr
      clear hr
      go_loopw [13] (fun e wr => ∃ j, bs.length - 64 * N + j ≤ 64 ∧ wr.ownsRow B 5 1 e (bs.length - 64 * N + j) (bytesV (r ++ List.replicate j 0)) ∧ Below B w8 wr) (fun e _ => 64 - lenS e)
      case atStart => exact ⟨0, by omega, by simpa using HO9.out, HB9.out⟩
      case round =>
        clear HO9 HB9
        obtain ⟨j, hj, hown, hbe⟩ := hrel
        have hel : (r ++ List.replicate j 0).length = bs.length - 64 * N + j := by simp [hrl]
        obtain ⟨m, hm⟩ : ∃ m, m = bs.length - 64 * N + j := ⟨_, rfl⟩
        rw [← hm] at hel hown hj
        obtain ⟨Ae, ce, rfl, hse, -⟩ := (SB_of_own (by rw [hel]; exact hown) (by omega)).shape
        have HO := Lib.hid hown
        rw [hel] at hse HO ⊢
        have HSE := Lib.hid hse
        have HBE := Lib.hid hbe
        have HM := Lib.hid hm
        clear hse hown hbe hm
        rcases (show m = 64 ∨ m < 64 by omega) with rfl | hlt
        · have hd6 : decide (((64 : Nat) : Int) < 64) = false := by decide
          have HBR0 := Lib.hid (HBW8.out.keep (by rw [← HBB.out]; exact HBE.out))
          have HDR0 := Lib.hid (D12.out.below (by rw [← HBB.out]; exact HBE.out))
          clear HBE HBW8 D12 HS8 HO
          have hwb : IntKind.u64.wrap (bs.length : Int) = (bs.length : Int) := by rw [IntKind.wrap_u64]; omega
          go_wp2_with (refine wpList_load_row rfl 23 _ rfl g7 rfl 23 _ (0, 0) _ HBR0.out.row Try.underlying23 rfl (by rw [wordsV_size, HWN.out.1]; kernel_rfl) ?_)
          refine (Mix_yes hf HWN.out _ (r ++ List.replicate j 0) bs.length (by omega) 1 wr HSE.out hel (.inr rfl)).mono ?_
          rintro e w11 ⟨rfl, hb11⟩
          rw [last_zeros hf (64 * N) bs.length r j (by omega) (by omega)]
          have hzw : Wds 8 (lastF hf (64 * N) r) := HWN.out.mixF _ _ _
          obtain ⟨zz, hzz⟩ : ∃ zz, zz = lastF hf (64 * N) r := ⟨_, rfl⟩
          rw [← hzz] at hzw ⊢
          have HZZ := Lib.hid hzz
          have HZW := Lib.hid hzw
          have HBR1 := Lib.hid (HBR0.out.keep hb11)
          have HDR1 := Lib.hid (HDR0.out.below hb11)
          clear hzz hzw hb11 HBR0 HDR0 HSE
          obtain ⟨g14, hg14⟩ : ∃ g, g = w11.heap.size := ⟨_, rfl⟩
          have HG14 := Lib.hid hg14
          clear hg14
          go_upto_region 22 with (first
            | (refine wpList_alloc_row rfl 23 rfl _ (zero23 _) ?_; rw [← HG14.out]; intro w12 hT hS hG; have HT12 := Lib.hid hT; have HG12 := Lib.hid (below_of_grown hG); clear hT hG hS)
            | (refine wpList_store_row rfl 23 _ _ rfl g14 rfl 23 _ _ rfl HT12.out (by rw [wordsV_size, HZW.out.1]; rfl) (by rw [wordsV_size, HZW.out.1]; kernel_rfl) (wordsV_one _) ?_; intro w13 hT3 hS3 hG3; have HT13 := Lib.hid hT3; have HG13 := Lib.hid hG3; clear hT3 hS3 hG3))
          have h1lt4 : g1 < g14 := by have := blk_lt HBR1.out.dg.row; have := HG14.out; omega
          have h12lt4 : g12 < g14 := by have := blk_lt HDR1.out.row; have := HG14.out; omega
          have hDR2 := HDR1.out.below HG12.out
          have hBR2 := HBR1.out.keep HG12.out
          have HDR3 := Lib.hid (show DgAt g12 hf (64 * N) (p : Int) (.slice A6 (bs.length - 64 * N) c6) r w13 from ⟨blk_grown hDR2.row HG13.out (fun e => by injection e with e; omega), hDR2.data.of_blk23 HT12.out HG13.out, HWN.out, by omega⟩)
          have HBL3 := Lib.hid (show Below w.heap.size w w13 from hBR2.below.grown HG13.out hBR2.below.size (fun k e => by injection e with e; omega))
          clear hDR2 hBR2 HDR1 HBR1 HG12 HG13 HT12 HG14
          go_wp2_with (refine wpList_load_row rfl 33 _ rfl g12 rfl 33 _ (0, 0) _ HDR3.out.row Try.underlying33 rfl (by rw [dgV_size HWN.out.1]; kernel_rfl) ?_)
          refine (Sum_any hf HWN.out (64 * N) (by omega) (p : Int) _ r w13 HDR3.out.data p rfl (by omega) (by omega)).mono ?_
          rintro e w14 ⟨v16, rfl, hown, hb14⟩
          rw [writeL_stop _ _ _ _ (by omega)] at hown
          simp only at hown
          rw [← HZZ.out] at hown
          obtain ⟨g16, c16, rfl, hce⟩ := own_at hown (by omega)
          have HCE := Lib.hid hce
          have HZR := Lib.hid (blk_below HT13.out hb14)
          have HBL4 := Lib.hid (HBL3.out.trans (hb14.mono HBL3.out.size))
          clear hce hown hb14 HBL3 HT13 HDR3
          have hne : ((p : Int) != (p : Int)) = false := by simp
          go_wp2_with fail
          go_loopw [17] (fun i wr => ∃ k : Nat, k ≤ p ∧ i = .int .i64 (k : Int) ∧ Below w14.heap.size w14 wr) (fun i _ => p - (intOf i).toNat)
          case atStart => exact ⟨0, by omega, rfl, Below.refl _ _⟩
          case round =>
            obtain ⟨k, hk, rfl, hbr⟩ := hrel
            have HBR := Lib.hid hbr
            clear hbr
            rcases (show p = k ∨ k < p by omega) with rfl | hks
            · have hd9 : decide ((p : Int) < (p : Int)) = false := by simp
              go_wp2_with fail
              refine (awake_any wr).mono ?_
              rintro e w17 ⟨rfl, hb17⟩
              go_wp2_with fail
              go_ret
              exact ⟨rfl, (HBL4.out.trans (HBR.out.mono HBL4.out.size)).trans (hb17.mono (by have := HBL4.out.size; have := HBR.out.size; omega))⟩
            · have hd9 : decide ((k : Int) < (p : Int)) = true := by simp; omega
              go_upto_region 28 with fail
              refine region_f 14 (fun i vs W => match i with
                  | 0 => vs 0 = .slice (some ⟨g16, 0, none⟩) p c16
                  | 1 => vs 1 = .int .i64 (k : Int)
                  | 2 => vs 2 = .pointer (some ⟨g16, 0 + k, none⟩)
                  | 3 => vs 3 = .int .u8 (((UInt8.ofNat ((zz.getD (k / 4) 0) / 2 ^ (8 * (k % 4)))).toNat : Nat) : Int)
                  | 4 => vs 4 = .int .i64 (k : Int)
                  | 5 => vs 5 = .int .i64 ((k / 4 : Nat) : Int)
                  | 6 => vs 6 = .pointer (some ⟨g14, 0 + k / 4, none⟩)
                  | 7 => vs 7 = .int .u32 (((zz.getD (k / 4) 0) : Nat) : Int)
                  | 8 => vs 8 = .int .i64 (k : Int)
                  | 9 => vs 9 = .int .i64 ((k % 4 : Nat) : Int)
                  | 10 => vs 10 = .int .i64 ((8 * (k % 4) : Nat) : Int)
                  | 11 => vs 11 = .int .u32 (((zz.getD (k / 4) 0) / 2 ^ (8 * (k % 4)) : Nat) : Int)
                  | 12 => vs 12 = .int .u8 (((UInt8.ofNat ((zz.getD (k / 4) 0) / 2 ^ (8 * (k % 4)))).toNat : Nat) : Int)
                  | 13 => vs 13 = .bool false
                  | _ => True) (fun _ W W' => Below W.heap.size W W') (fun W => Below wr.heap.size wr W) (by kernel_rfl) (by kernel_rfl) ?hst28 ?h028 ?step28 ?fin28
              case hst28 =>
                intro i k vs W W' _ _ h hG
                match i, h with
                | 0, h => exact h
                | 1, h => exact h
                | 2, h => exact h
                | 3, h => exact h
                | 4, h => exact h
                | 5, h => exact h
                | 6, h => exact h
                | 7, h => exact h
                | 8, h => exact h
                | 9, h => exact h
                | 10, h => exact h
                | 11, h => exact h
                | 12, h => exact h
                | 13, h => exact h
                | n + 14, _ => trivial
              case h028 => exact (Below.refl _ _).drew
              case step28 =>
                intro i op hi ho ac W hS hag hdep
                have hbr : Below W.heap.size W W := Below.refl _ _
                match i, hi, ho with
                | 0, _, rfl =>
                  exact ow_move _ rfl (hag 16 rfl) ⟨_, rfl, fun vs' h _ => h (fun e => by cases e), hbr, hS⟩
                | 1, _, rfl =>
                  exact ow_move _ rfl (hag 17 rfl) ⟨_, rfl, fun vs' h _ => h (fun e => by cases e), hbr, hS⟩
                | 2, _, rfl =>
                  have h1 : ac.eval (.tmp 127) = .slice (some ⟨g16, 0, none⟩) p c16 := hdep 0 (by omega) (by kernel_rfl)
                  have h2 : ac.eval (.tmp 128) = .int .i64 (k : Int) := hdep 1 (by omega) (by kernel_rfl)
                  exact ow_index _ _ 5 24 rfl g16 0 p c16 k h1 h2 hks Try.underlying24 tag5 ⟨_, rfl, fun vs' h _ => h (fun e => by cases e), hbr, hS⟩
                | 3, _, rfl =>
                  have h1 : ac.eval (.tmp 129) = .pointer (some ⟨g16, 0 + k, none⟩) := hdep 2 (by omega) (by kernel_rfl)
                  exact ow_load_int _ 5 .u8 rfl g16 (0 + k) h1 _ (cell_below (HBR.out.trans (hS.mono HBR.out.size)) (HCE.out k _ hks (outF_get zz p k hks))) Try.underlying5 ⟨_, rfl, fun vs' h _ => h (fun e => by cases e), hbr, hS⟩
                | 4, _, rfl =>
                  exact ow_move _ rfl (hag 17 rfl) ⟨_, rfl, fun vs' h _ => h (fun e => by cases e), hbr, hS⟩
                | 5, _, rfl =>
                  have h1 : ac.eval (.tmp 131) = .int .i64 (k : Int) := hdep 4 (by omega) (by kernel_rfl)
                  exact ow_quo_nat _ _ 3 3 rfl k 4 h1 rfl (by omega) (by omega) Try.underlying3 ⟨_, rfl, fun vs' h _ => h (fun e => by cases e), hbr, hS⟩
                | 6, _, rfl =>
                  have h1 : ac.eval (.tmp 132) = .int .i64 ((k / 4 : Nat) : Int) := hdep 5 (by omega) (by kernel_rfl)
                  exact ow_index_arr _ _ 22 23 8 rfl g14 0 (k / 4) (hag 14 rfl) h1 (by omega) Try.underlying23 tag22 ⟨_, rfl, fun vs' h _ => h (fun e => by cases e), hbr, hS⟩
                | 7, _, rfl =>
                  have h1 : ac.eval (.tmp 133) = .pointer (some ⟨g14, 0 + k / 4, none⟩) := hdep 6 (by omega) (by kernel_rfl)
                  exact ow_load_int _ 22 .u32 rfl g14 (0 + k / 4) h1 _ (by rw [Nat.zero_add]; exact words_cell (blk_below HZR.out (HBR.out.trans (hS.mono HBR.out.size))) (k / 4) (by rw [HZW.out.1]; omega)) Try.underlying22 ⟨_, rfl, fun vs' h _ => h (fun e => by cases e), hbr, hS⟩
                | 8, _, rfl =>
                  exact ow_move _ rfl (hag 17 rfl) ⟨_, rfl, fun vs' h _ => h (fun e => by cases e), hbr, hS⟩
                | 9, _, rfl =>
                  have h1 : ac.eval (.tmp 135) = .int .i64 (k : Int) := hdep 8 (by omega) (by kernel_rfl)
                  exact ow_rem_nat _ _ 3 3 rfl k 4 h1 rfl (by omega) Try.underlying3 ⟨_, rfl, fun vs' h _ => h (fun e => by cases e), hbr, hS⟩
                | 10, _, rfl =>
                  have h1 : ac.eval (.tmp 136) = .int .i64 ((k % 4 : Nat) : Int) := hdep 9 (by omega) (by kernel_rfl)
                  exact ow_mul_nat _ _ 3 3 8 (k % 4) rfl rfl h1 Try.underlying3 (by omega) ⟨_, rfl, fun vs' h _ => h (fun e => by cases e), hbr, hS⟩
                | 11, _, rfl =>
                  have h1 : ac.eval (.tmp 134) = .int .u32 (((zz.getD (k / 4) 0) : Nat) : Int) := hdep 7 (by omega) (by kernel_rfl)
                  have h2 : ac.eval (.tmp 137) = .int .i64 ((8 * (k % 4) : Nat) : Int) := hdep 10 (by omega) (by kernel_rfl)
                  exact ow_shr32 _ _ (zz.getD (k / 4) 0) (8 * (k % 4)) rfl h1 h2 (by omega) (getD_lt HZW.out (k / 4)) ⟨_, rfl, fun vs' h _ => h (fun e => by cases e), hbr, hS⟩
                | 12, _, rfl =>
                  have h1 : ac.eval (.tmp 138) = .int .u32 (((zz.getD (k / 4) 0) / 2 ^ (8 * (k % 4)) : Nat) : Int) := hdep 11 (by omega) (by kernel_rfl)
                  exact ow_conv5 _ _ rfl h1 ⟨_, rfl, fun vs' h _ => h (fun e => by cases e), hbr, hS⟩
                | 13, _, rfl =>
                  have h1 : ac.eval (.tmp 130) = .int .u8 (((UInt8.ofNat ((zz.getD (k / 4) 0) / 2 ^ (8 * (k % 4)))).toNat : Nat) : Int) := hdep 3 (by omega) (by kernel_rfl)
                  have h2 : ac.eval (.tmp 139) = .int .u8 (((UInt8.ofNat ((zz.getD (k / 4) 0) / 2 ^ (8 * (k % 4)))).toNat : Nat) : Int) := hdep 12 (by omega) (by kernel_rfl)
                  exact ow_neq_int _ _ 5 5 rfl .u8 _ h1 h2 ⟨_, rfl, fun vs' h _ => h (fun e => by cases e), hbr, hS⟩
                | n + 14, hi, _ => exact absurd hi (by omega)
              case fin28 =>
                intro vs W hS hF
                have e13 : vs 13 = .bool false := hF 13 (by omega)
                clear hF
                change wpList _ _ _ _ (Act.put (Act.put (Act.put (Act.put (Act.put (Act.put (Act.put (Act.put (Act.put (Act.put (Act.put (Act.put (Act.put (Act.put _ (some 127) (vs 0)) (some 128) (vs 1)) (some 129) (vs 2)) (some 130) (vs 3)) (some 131) (vs 4)) (some 132) (vs 5)) (some 133) (vs 6)) (some 134) (vs 7)) (some 135) (vs 8)) (some 136) (vs 9)) (some 137) (vs 10)) (some 138) (vs 11)) (some 139) (vs 12)) (some 140) (vs 13)) W
                rw [e13]
                clear e13
                generalize vs 0 = z0
                generalize vs 1 = z1
                generalize vs 2 = z2
                generalize vs 3 = z3
                generalize vs 4 = z4
                generalize vs 5 = z5
                generalize vs 6 = z6
                generalize vs 7 = z7
                generalize vs 8 = z8
                generalize vs 9 = z9
                generalize vs 10 = z10
                generalize vs 11 = z11
                generalize vs 12 = z12
                simp only [putAll, List.drop_succ_cons, List.drop_zero, Act.put, List.setIfInBounds_toArray, List.set_cons_zero, List.set_cons_succ]
                clear vs
                have HBS := Lib.hid (HBR.out.trans (hS.mono HBR.out.size))
                clear hS HBR
                go_wp2_with fail
                go_roundw
                case rel => exact ⟨k + 1, by omega, rfl, HBS.out⟩
                case measure => simp [intOf]; omega
        · have hd6 : decide ((m : Int) < 64) = true := by simp; omega
          go_wp2_with (at_builtin; refine wpList_append_src _ rfl (.tmp 100) (.tmp 101) 24 rfl B 5 i0 (.int .u8 0) 1 Try.underlying24 HI0.out HZ0.out HZ1.out HZ2.out rfl _ m (bytesV (r ++ List.replicate j 0)) rfl (own_move HO.out (fun _ _ _ h0 => blk_alloc h0 _)) (some ⟨wr.heap.size, 0, none⟩) 1 1 [.int .u8 0] rfl rfl (by simp) (one_cell (World.alloc_heap_new wr _)) (by intro u hu; rw [List.mem_singleton.1 hu]; rfl) (by unfold maxLen; omega) (by omega) (by have := HBE.out.size; have := HBB.out; simp; omega) ?_; intro v4 w10 hown4 hg4 hat4; have HO4 := Lib.hid hown4; have HG4 := Lib.hid hg4; clear hown4 hg4 hat4)
          go_roundw
          case rel =>
            have hoa : (wr.alloc (.cells #[.int .u8 0] 5)).ownsRow B 5 1 (.slice Ae m ce) m (bytesV (r ++ List.replicate j 0)) := own_move HO.out (fun _ _ _ h0 => blk_alloc h0 _)
            refine ⟨j + 1, by have := HM.out; omega, ?_, ?_⟩
            · rw [zeros_succ, show bs.length - 64 * N + (j + 1) = m + 1 by have := HM.out; omega]; exact HO4.out
            · have h1 := HBE.out.size
              have h2 := HBB.out
              exact (HBE.out.alloc (by omega) _).grown HG4.out (by simp; omega) (fun q e => own_ge hoa q e)
          case measure => rw [lenS_own HO4.out]; simp [lenS]; omega
    · have hd1 : decide ((k : Int) < (N : Int)) = true := by simp; omega
      go_upto_region 11 with fail
      have hwk := blocksF_wds HWP.out bs k
      have hwk1 := blocksF_wds HWP.out bs (k + 1)
      have hn : 64 * N < bs.length := by have := HN.out; omega
      have hb64 : (blk bs k).length = 64 := by simp [blk]; omega
      refine region_g 18 (fun k j => decide (k = 17 ∧ (j = 7 ∨ j = 16))) (fun i vs W => match i with
          | 0 => vs 0 = .agg (wordsV (blocksF (beginF p) bs k)).toArray
          | 1 => vs 1 = .slice A bs.length c
          | 2 => vs 2 = .int .i64 (k : Int)
          | 3 => vs 3 = .int .i64 ((64 * k : Nat) : Int)
          | 4 => vs 4 = .int .i64 (k : Int)
          | 5 => vs 5 = .int .i64 ((64 * k : Nat) : Int)
          | 6 => vs 6 = .int .i64 ((64 * k + 64 : Nat) : Int)
          | 7 => SB W (vs 7) (blk bs k)
          | 8 => vs 8 = .int .i64 (k : Int)
          | 9 => vs 9 = .int .i64 ((64 * k : Nat) : Int)
          | 10 => vs 10 = .int .i64 ((64 * k + 64 : Nat) : Int)
          | 11 => vs 11 = .int .u64 ((64 * k + 64 : Nat) : Int)
          | 12 => vs 12 = .tuple #[.agg (wordsV (blocksF (beginF p) bs (k + 1))).toArray, .int .i64 0]
          | 13 => vs 13 = .tuple #[.agg (wordsV (blocksF (beginF p) bs (k + 1))).toArray, .int .i64 0]
          | 14 => vs 14 = .agg (wordsV (blocksF (beginF p) bs (k + 1))).toArray
          | 15 => vs 15 = .int .i64 0
          | 16 => ∃ x, vs 16 = .pointer (some ⟨x, 0, none⟩) ∧ wr.heap.size ≤ x ∧ W.heap[x]? = some (.cells (wordsV (List.replicate 8 0)).toArray 23 (0, 0))
          | 17 => ∃ x, vs 16 = .pointer (some ⟨x, 0, none⟩) ∧ wr.heap.size ≤ x ∧ W.heap[x]? = some (.cells (wordsV (blocksF (beginF p) bs (k + 1))).toArray 23 (0, 0))
          | _ => True) (fun k W W' => (k ≠ 17 → Below W.heap.size W W') ∧ (k = 17 → ∃ x, wr.heap.size ≤ x ∧ W.grownBy W' (some x))) (fun W => Below wr.heap.size wr W) (by kernel_rfl) (by kernel_rfl) ?hst11 ?h011 ?step11 ?fin11
      case hst11 =>
        intro i k vs W W' hki _ hnc h hG
        by_cases hk : k = 17
        · subst hk
          match i, h with
          | 0, h => exact h
          | 1, h => exact h
          | 2, h => exact h
          | 3, h => exact h
          | 4, h => exact h
          | 5, h => exact h
          | 6, h => exact h
          | 7, _ => exact absurd hnc (by decide)
          | 8, h => exact h
          | 9, h => exact h
          | 10, h => exact h
          | 11, h => exact h
          | 12, h => exact h
          | 13, h => exact h
          | 14, h => exact h
          | 15, h => exact h
          | 16, _ => exact absurd hnc (by decide)
          | 17, _ => exact absurd rfl hki
          | n + 18, _ => trivial
        · have hG := hG.1 hk
          match i, h with
          | 0, h => exact h
          | 1, h => exact h
          | 2, h => exact h
          | 3, h => exact h
          | 4, h => exact h
          | 5, h => exact h
          | 6, h => exact h
          | 7, h => exact SB.below h hG
          | 8, h => exact h
          | 9, h => exact h
          | 10, h => exact h
          | 11, h => exact h
          | 12, h => exact h
          | 13, h => exact h
          | 14, h => exact h
          | 15, h => exact h
          | 16, ⟨x, e1, e2, e3⟩ => exact ⟨x, e1, e2, blk_below e3 hG⟩
          | 17, ⟨x, e1, e2, e3⟩ => exact ⟨x, e1, e2, blk_below e3 hG⟩
          | n + 18, _ => trivial
      case h011 => exact (Below.refl _ _).drew
      case step11 =>
        intro i op hi ho ac W hS hag hdep
        have hbr : Below W.heap.size W W := Below.refl _ _
        have hW := HBL.out.keep hS
        match i, hi, ho with
        | 0, _, rfl =>
          refine gstep rfl ?_
          exact ow_load_row 23 _ rfl g7 (hag 7 rfl) 23 _ (0, 0) _ hW.row Try.underlying23 rfl (by rw [wordsV_size, hwk.1]; kernel_rfl) ⟨_, rfl, fun vs' h _ => h (fun e => by cases e), ⟨fun _ => hbr, fun h => absurd h (by decide)⟩, hS⟩
        | 1, _, rfl =>
          refine gstep rfl ?_
          exact ow_move _ rfl (hag 1 rfl) ⟨_, rfl, fun vs' h _ => h (fun e => by cases e), ⟨fun _ => hbr, fun h => absurd h (by decide)⟩, hS⟩
        | 2, _, rfl =>
          refine gstep rfl ?_
          exact ow_move _ rfl (hag 9 rfl) ⟨_, rfl, fun vs' h _ => h (fun e => by cases e), ⟨fun _ => hbr, fun h => absurd h (by decide)⟩, hS⟩
        | 3, _, rfl =>
          have h1 : ac.eval (.tmp 49) = .int .i64 (k : Int) := hdep 2 (by omega) (by kernel_rfl) (fun k _ h => by have h := of_decide_eq_true h; omega)
          refine gstep rfl ?_
          exact ow_mul_nat _ _ 3 3 64 k rfl rfl h1 Try.underlying3 (by omega) ⟨_, rfl, fun vs' h _ => h (fun e => by cases e), ⟨fun _ => hbr, fun h => absurd h (by decide)⟩, hS⟩
        | 4, _, rfl =>
          refine gstep rfl ?_
          exact ow_move _ rfl (hag 9 rfl) ⟨_, rfl, fun vs' h _ => h (fun e => by cases e), ⟨fun _ => hbr, fun h => absurd h (by decide)⟩, hS⟩
        | 5, _, rfl =>
          have h1 : ac.eval (.tmp 51) = .int .i64 (k : Int) := hdep 4 (by omega) (by kernel_rfl) (fun k _ h => by have h := of_decide_eq_true h; omega)
          refine gstep rfl ?_
          exact ow_mul_nat _ _ 3 3 64 k rfl rfl h1 Try.underlying3 (by omega) ⟨_, rfl, fun vs' h _ => h (fun e => by cases e), ⟨fun _ => hbr, fun h => absurd h (by decide)⟩, hS⟩
        | 6, _, rfl =>
          have h1 : ac.eval (.tmp 52) = .int .i64 ((64 * k : Nat) : Int) := hdep 5 (by omega) (by kernel_rfl) (fun k _ h => by have h := of_decide_eq_true h; omega)
          refine gstep rfl ?_
          exact ow_add_nat _ _ 3 3 (64 * k) 64 rfl h1 rfl Try.underlying3 (by omega) ⟨_, rfl, fun vs' h _ => h (fun e => by cases e), ⟨fun _ => hbr, fun h => absurd h (by decide)⟩, hS⟩
        | 7, _, rfl =>
          have h1 : ac.eval (.tmp 48) = .slice A bs.length c := hdep 1 (by omega) (by kernel_rfl) (fun k _ h => by have h := of_decide_eq_true h; omega)
          have h2 : ac.eval (.tmp 50) = .int .i64 ((64 * k : Nat) : Int) := hdep 3 (by omega) (by kernel_rfl) (fun k _ h => by have h := of_decide_eq_true h; omega)
          have h3 : ac.eval (.tmp 53) = .int .i64 ((64 * k + 64 : Nat) : Int) := hdep 6 (by omega) (by kernel_rfl) (fun k _ h => by have h := of_decide_eq_true h; omega)
          refine gstep rfl ?_
          refine ow_cut _ _ _ rfl h1 (HS.out.below (HBL.out.below.trans (hS.mono HBL.out.below.size))) (64 * k) (64 * k + 64) h2 h3 (by omega) (by omega) (fun v' hv' => ?_)
          rw [show 64 * k + 64 - 64 * k = 64 from by omega] at hv'
          exact ⟨_, rfl, fun vs' h _ => by rw [h (fun e => by cases e)]; exact hv', ⟨fun _ => hbr, fun h => absurd h (by decide)⟩, hS⟩
        | 8, _, rfl =>
          refine gstep rfl ?_
          exact ow_move _ rfl (hag 9 rfl) ⟨_, rfl, fun vs' h _ => h (fun e => by cases e), ⟨fun _ => hbr, fun h => absurd h (by decide)⟩, hS⟩
        | 9, _, rfl =>
          have h1 : ac.eval (.tmp 55) = .int .i64 (k : Int) := hdep 8 (by omega) (by kernel_rfl) (fun k _ h => by have h := of_decide_eq_true h; omega)
          refine gstep rfl ?_
          exact ow_mul_nat _ _ 3 3 64 k rfl rfl h1 Try.underlying3 (by omega) ⟨_, rfl, fun vs' h _ => h (fun e => by cases e), ⟨fun _ => hbr, fun h => absurd h (by decide)⟩, hS⟩
        | 10, _, rfl =>
          have h1 : ac.eval (.tmp 56) = .int .i64 ((64 * k : Nat) : Int) := hdep 9 (by omega) (by kernel_rfl) (fun k _ h => by have h := of_decide_eq_true h; omega)
          refine gstep rfl ?_
          exact ow_add_nat _ _ 3 3 (64 * k) 64 rfl h1 rfl Try.underlying3 (by omega) ⟨_, rfl, fun vs' h _ => h (fun e => by cases e), ⟨fun _ => hbr, fun h => absurd h (by decide)⟩, hS⟩
        | 11, _, rfl =>
          have h1 : ac.eval (.tmp 57) = .int .i64 ((64 * k + 64 : Nat) : Int) := hdep 10 (by omega) (by kernel_rfl) (fun k _ h => by have h := of_decide_eq_true h; omega)
          refine gstep rfl ?_
          exact ow_conv64 _ (64 * k + 64) rfl h1 (by omega) ⟨_, rfl, fun vs' h _ => h (fun e => by cases e), ⟨fun _ => hbr, fun h => absurd h (by decide)⟩, hS⟩
        | 12, _, rfl =>
          have h1 : ac.eval (.tmp 47) = .agg (wordsV (blocksF (beginF p) bs k)).toArray := hdep 0 (by omega) (by kernel_rfl) (fun k _ h => by have h := of_decide_eq_true h; omega)
          have h2 : SB W (ac.eval (.tmp 54)) (blk bs k) := hdep 7 (by omega) (by kernel_rfl) (fun k _ h => by have h := of_decide_eq_true h; obtain rfl : k = 17 := (by omega); right; kernel_rfl)
          have h3 : ac.eval (.tmp 58) = .int .u64 ((64 * k + 64 : Nat) : Int) := hdep 11 (by omega) (by kernel_rfl) (fun k _ h => by have h := of_decide_eq_true h; omega)
          refine gstep rfl ?_
          exact ow_mix _ _ _ _ _ rfl _ hwk _ (blk bs k) (64 * k + 64) (by omega) 0 (.inl rfl) h1 rfl h3 rfl h2 hb64 (fun w' hbb => ⟨_, rfl, fun vs' h _ => h (fun e => by cases e), ⟨fun _ => hbb, fun h => absurd h (by decide)⟩, hS.trans (hbb.mono hS.size)⟩)
        | 13, _, rfl =>
          have h1 : ac.eval (.tmp 59) = .tuple #[.agg (wordsV (blocksF (beginF p) bs (k + 1))).toArray, .int .i64 0] := hdep 12 (by omega) (by kernel_rfl) (fun k _ h => by have h := of_decide_eq_true h; omega)
          refine gstep rfl ?_
          exact ow_move _ rfl h1 ⟨_, rfl, fun vs' h _ => h (fun e => by cases e), ⟨fun _ => hbr, fun h => absurd h (by decide)⟩, hS⟩
        | 14, _, rfl =>
          have h1 : ac.eval (.tmp 46) = .tuple #[.agg (wordsV (blocksF (beginF p) bs (k + 1))).toArray, .int .i64 0] := hdep 13 (by omega) (by kernel_rfl) (fun k _ h => by have h := of_decide_eq_true h; omega)
          refine gstep rfl ?_
          exact ow_extract _ 0 rfl h1 rfl ⟨_, rfl, fun vs' h _ => h (fun e => by cases e), ⟨fun _ => hbr, fun h => absurd h (by decide)⟩, hS⟩
        | 15, _, rfl =>
          have h1 : ac.eval (.tmp 46) = .tuple #[.agg (wordsV (blocksF (beginF p) bs (k + 1))).toArray, .int .i64 0] := hdep 13 (by omega) (by kernel_rfl) (fun k _ h => by have h := of_decide_eq_true h; omega)
          refine gstep rfl ?_
          exact ow_extract _ 1 rfl h1 rfl ⟨_, rfl, fun vs' h _ => h (fun e => by cases e), ⟨fun _ => hbr, fun h => absurd h (by decide)⟩, hS⟩
        | 16, _, rfl =>
          refine gstep rfl ?_
          exact ow_alloc_row 23 rfl _ (zero23 W) (fun w' hn hb => ⟨_, rfl, fun vs' h _ => ⟨_, h (fun e => by cases e), hS.size, hn⟩, ⟨fun _ => hb, fun h => absurd h (by decide)⟩, hS.trans (hb.mono hS.size)⟩)
        | 17, _, rfl =>
          obtain ⟨xh1, h1, h1b, h1c⟩ := hdep 16 (by omega) (by kernel_rfl) (fun k _ h => by have h := of_decide_eq_true h; left; omega)
          have h1 : ac.eval (.tmp 10) = .pointer (some ⟨xh1, 0, none⟩) := h1
          have h2 : ac.eval (.tmp 60) = .agg (wordsV (blocksF (beginF p) bs (k + 1))).toArray := hdep 14 (by omega) (by kernel_rfl) (fun k _ h => by have h := of_decide_eq_true h; omega)
          refine gstep rfl ?_
          refine wp_store_row 23 _ _ rfl xh1 h1 23 _ _ h2 h1c (by rw [wordsV_size, wordsV_size, hwk1.1]; rfl) (by rw [wordsV_size, hwk1.1]; kernel_rfl) (wordsV_one _) (fun w' hT hsz hgr => ?_)
          exact ⟨_, rfl, fun vs' _ hv => ⟨xh1, (hv 16 (by kernel_rfl)).trans h1, h1b, hT⟩, ⟨fun h => absurd rfl h, fun _ => ⟨xh1, h1b, hgr⟩⟩, hS.grown hgr hS.size (fun j e => by injection e with e; omega)⟩
        | n + 18, hi, _ => exact absurd hi (by omega)
      case fin11 =>
        intro vs W hS hF
        have e12 : vs 12 = .tuple #[.agg (wordsV (blocksF (beginF p) bs (k + 1))).toArray, .int .i64 0] := hF 12 (by omega) (fun k hk => decide_eq_false (by omega))
        have e13 : vs 13 = .tuple #[.agg (wordsV (blocksF (beginF p) bs (k + 1))).toArray, .int .i64 0] := hF 13 (by omega) (fun k hk => decide_eq_false (by omega))
        have e14 : vs 14 = .agg (wordsV (blocksF (beginF p) bs (k + 1))).toArray := hF 14 (by omega) (fun k hk => decide_eq_false (by omega))
        have e15 : vs 15 = .int .i64 0 := hF 15 (by omega) (fun k hk => decide_eq_false (by omega))
        obtain ⟨p16, e16, p16b, p16c⟩ := hF 17 (by omega) (fun k hk => decide_eq_false (by omega))
        clear hF
        change wpList _ _ _ _ (Act.put (Act.put (Act.put (Act.put (Act.put (Act.put (Act.put (Act.put (Act.put (Act.put (Act.put (Act.put (Act.put (Act.put (Act.put (Act.put (Act.put (Act.put _ (some 47) (vs 0)) (some 48) (vs 1)) (some 49) (vs 2)) (some 50) (vs 3)) (some 51) (vs 4)) (some 52) (vs 5)) (some 53) (vs 6)) (some 54) (vs 7)) (some 55) (vs 8)) (some 56) (vs 9)) (some 57) (vs 10)) (some 58) (vs 11)) (some 59) (vs 12)) (some 46) (vs 13)) (some 60) (vs 14)) (some 61) (vs 15)) (some 10) (vs 16)) none (vs 17)) W
        rw [e12, e13, e14, e15, e16]
        clear e12 e13 e14 e15 e16
        generalize vs 0 = z0
        generalize vs 1 = z1
        generalize vs 2 = z2
        generalize vs 3 = z3
        generalize vs 4 = z4
        generalize vs 5 = z5
        generalize vs 6 = z6
        generalize vs 7 = z7
        generalize vs 8 = z8
        generalize vs 9 = z9
        generalize vs 10 = z10
        generalize vs 11 = z11
        generalize vs 17 = z17
        simp only [putAll, List.drop_succ_cons, List.drop_zero, Act.put, List.setIfInBounds_toArray, List.set_cons_zero, List.set_cons_succ]
        clear vs
        have hp7 : g7 < p16 := by have := blk_lt HBL.out.row; omega
        have hp1 : g1 < p16 := by have := blk_lt HBL.out.dg.row; omega
        have HW7 := Lib.hid (HBL.out.keep hS)
        have HT7 := Lib.hid p16c
        have HWK := Lib.hid hwk1
        clear hS p16c HBL hwk hwk1
        go_wp2_with (first
          | (refine wpList_load_row rfl 23 _ rfl p16 rfl 23 _ (0, 0) _ HT7.out Try.underlying23 rfl (by rw [wordsV_size, HWK.out.1]; kernel_rfl) ?_)
          | (refine wpList_store_row rfl 23 _ _ rfl g7 rfl 23 _ _ rfl HW7.out.row (by rw [wordsV_size, wordsV_size, HWK.out.1, (blocksF_wds HWP.out bs k).1]) (by rw [wordsV_size, HWK.out.1]; kernel_rfl) (wordsV_one _) ?_; intro w8 hT8 hS8 hG8; have HT8 := Lib.hid hT8; have HG8 := Lib.hid hG8; clear hT8 hG8 hS8))
        go_roundw
        case rel =>
          exact ⟨k + 1, by omega, rfl, ⟨⟨blk_grown HW7.out.dg.row HG8.out (fun e => by injection e with e; omega), SB_nil w8, HWP.out, by decide⟩, HT8.out, HW7.out.below.grown HG8.out HW7.out.below.size (fun k e => by injection e with e; omega)⟩⟩
        case measure => simp [intOf]; omega
end Go.Proofs.Ytnemclbeofiakaa
