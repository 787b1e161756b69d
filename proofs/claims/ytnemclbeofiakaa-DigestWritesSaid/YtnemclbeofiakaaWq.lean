/-
  awake: the laws' own example.
-/
import Derived.Test.YtnemclbeofiakaaWp
import Derived.Lib.SlBytesConst
import Derived.Lib.SmallJoins
namespace Go.Proofs.Ytnemclbeofiakaa
open Go.RowKit Bl

theorem of_abc : ofF 32 [97, 98, 99] = [0x50, 0x8c, 0x5e, 0x8c, 0x32, 0x7c, 0x14, 0xe2, 0xe1, 0xa7, 0x2b, 0xa3, 0x4e, 0xeb, 0x45, 0x2f, 0x37, 0x45, 0x8b, 0x20, 0x9e, 0xd6, 0x3a, 0x29, 0x4d, 0x99, 0x9b, 0x4c, 0x86, 0x67, 0x59, 0x82] := by
  unfold ofF
  rw [writeL_stop _ _ _ _ (by decide)]
  exact sum_abc
theorem build23_0 (w : World) : (Instr.build 23 #[]).run Try.prog w = .ok (.agg (wordsV (List.replicate 8 0)).toArray) w := by kernel_rfl

theorem wpList_build23_0 {ops : Array Oper} {rest : List Oper} {Q : Exit → Act → World → Prop} {o : Oper} {a : Act} {w : World} (hgd : o.guard = none) (ho : o.op = .build 23 #[])
    (h : wpList Try.prog ops Q rest (a.put o.dst (.agg (wordsV (List.replicate 8 0)).toArray)) w) : wpList Try.prog ops Q (o :: rest) a w := by
  refine wpList_plain hgd fun K hK => ow_value ?_ (hK _ _ h)
  unfold execOp
  simp only [ho, List.map_toArray, List.map_nil, Sem.run_bind, build23_0, Result.andThen_ok]
  rfl

theorem ow_make64 {Q : Exit → Act → World → Prop} {o : Oper} {a : Act} {w : World} {K : Act → World → Prop} (x y : Operand) (ho : o.op = .makeSlice 24 x y) (hx : a.eval x = .int .i64 64) (hy : a.eval y = .int .i64 64)
    (h : K (a.put o.dst (.slice (some ⟨w.heap.size, 0, none⟩) 64 64)) (w.alloc (.cells (bytesV (List.replicate 64 0)).toArray 5))) : o.wp Try.prog a w K Q := by
  have hm : (Instr.makeSlice 24 (.int .i64 64) (.int .i64 64)).run Try.prog w = .ok (.slice (some ⟨w.heap.size, 0, none⟩) 64 64) (w.alloc (.cells (bytesV (List.replicate 64 0)).toArray 5)) := by kernel_rfl
  refine ow_value' ?_ h
  unfold execOp
  simp only [ho, hx, hy, Sem.run_bind, hm, Result.andThen_ok]
  rfl
theorem alloc_new_at {w : World} {n : Nat} (h : w.heap.size = n) (o : Obj) : (w.alloc o).heap[n]? = some o := by subst h; exact World.alloc_heap_new w o
def z63 : Array Value := (bytesV (List.replicate 63 0)).toArray
theorem make63 (w : World) : (Instr.makeSlice 24 (.int .i64 63) (.int .i64 63)).run Try.prog w = .ok (.slice (some ⟨w.heap.size, 0, none⟩) 63 63) (w.alloc (.cells z63 5)) := by kernel_rfl
theorem z63_eq : z63 = (bytesV (List.replicate 63 0)).toArray := rfl
attribute [irreducible] z63
def z64 : Array Value := (bytesV (List.replicate 64 0)).toArray
theorem make64 (w : World) : (Instr.makeSlice 24 (.int .i64 64) (.int .i64 64)).run Try.prog w = .ok (.slice (some ⟨w.heap.size, 0, none⟩) 64 64) (w.alloc (.cells z64 5)) := by kernel_rfl
theorem z64_eq : z64 = (bytesV (List.replicate 64 0)).toArray := rfl
attribute [irreducible] z64

set_option maxHeartbeats 1000000 in
set_option maxRecDepth 4000 in
theorem awake_any (w : World) : Calls Try.prog 8 #[] w fun e w' => e = .returned (.bool true) ∧ Below w.heap.size w w' := by
  have kc := fun (w : World) (C : Array Value) (n c : Nat) => Lib.run_convert_bytes_const (P := Try.prog) w 24 5 C n c Try.underlying24 Try.underlying5
  have kc2 := fun (w : World) (o : Obj) (C : Array Value) (n c : Nat) => Joins.run_convert_bytes_const_at (P := Try.prog) (w.alloc o) 24 5 C n c (w.heap.size + 1) (by simp) Try.underlying24 Try.underlying5
  go_enter Try.func8, Try.ntmps8
  go_wp2_with fail
  have hsbb : SBB (((w.alloc (Obj.cells #[Value.int IntKind.u8 97] 5 (1, 2))).alloc (Obj.cells #[Value.int IntKind.u8 98, Value.int IntKind.u8 99] 5 (2, 3))).alloc (Obj.cells #[Value.slice (some { block := w.heap.size, off := 0 }) 1 1, Value.slice (some { block := w.heap.size + 1, off := 0 }) 2 2] 24)) (.slice (some ⟨w.heap.size + 1 + 1, 0, none⟩) 2 2) [[97], [98, 99]] := by
    refine SBB_two (alloc_new_at (by simp) _) ?_ ?_
    · exact (SB_of_block (bs := [97]) (blk_alloc (heap_alloc_new w _) _) (by simp)).below (below_alloc1 _ _)
    · exact (SB_of_block (bs := [98, 99]) (alloc_new_at (by simp) _) (by simp)).below (below_alloc1 _ _)
  have hbel0 : Below w.heap.size w (((w.alloc (Obj.cells #[Value.int IntKind.u8 97] 5 (1, 2))).alloc (Obj.cells #[Value.int IntKind.u8 98, Value.int IntKind.u8 99] 5 (2, 3))).alloc (Obj.cells #[Value.slice (some { block := w.heap.size, off := 0 }) 1 1, Value.slice (some { block := w.heap.size + 1, off := 0 }) 2 2] 24)) :=
    (((Below.refl _ _).alloc (Nat.le_refl _) _).alloc (by simp) _).alloc (by simp; omega) _
  refine (Of_any 32 (by decide) (by decide) _ [[97], [98, 99]] _ hsbb (by decide)).mono ?_
  rintro e w2 ⟨v', rfl, hown, hb2⟩
  have hfl : ([[97], [98, 99]] : List (List UInt8)).flatten = [97, 98, 99] := rfl
  rw [hfl, of_abc] at hown
  have hbel : Below w.heap.size w w2 := hbel0.trans (hb2.mono hbel0.size)
  obtain ⟨A1, c1, rfl, hs1, -⟩ := (SB_of_own (bs := [0x50, 0x8c, 0x5e, 0x8c, 0x32, 0x7c, 0x14, 0xe2, 0xe1, 0xa7, 0x2b, 0xa3, 0x4e, 0xeb, 0x45, 0x2f, 0x37, 0x45, 0x8b, 0x20, 0x9e, 0xd6, 0x3a, 0x29, 0x4d, 0x99, 0x9b, 0x4c, 0x86, 0x67, 0x59, 0x82]) hown (by decide)).shape
  obtain ⟨ans, hans⟩ : ∃ l : List UInt8, l = [0x50, 0x8c, 0x5e, 0x8c, 0x32, 0x7c, 0x14, 0xe2, 0xe1, 0xa7, 0x2b, 0xa3, 0x4e, 0xeb, 0x45, 0x2f, 0x37, 0x45, 0x8b, 0x20, 0x9e, 0xd6, 0x3a, 0x29, 0x4d, 0x99, 0x9b, 0x4c, 0x86, 0x67, 0x59, 0x82] := ⟨_, rfl⟩
  rw [← hans] at hs1 ⊢
  have HANS := Lib.hid hans
  have HS := Lib.hid hs1
  have HB := Lib.hid hbel
  clear hsbb hbel0 hown hb2 hfl hbel hs1 hans kc kc2
  go_wp2_with fail
  refine (Of_no 0 (by decide) _ _).mono ?_
  rintro e w3 ⟨rfl, hb3⟩
  have hba := below_alloc1 w2 (.cells #[Value.slice none 0 0] 24)
  have HS3 := Lib.hid ((HS.out.below hba).below hb3)
  have HB3 := Lib.hid ((HB.out.trans (hba.mono HB.out.size)).trans (hb3.mono (by have := HB.out.size; simp; omega)))
  clear hb3 hba HS HB
  go_wp2_with fail
  refine (Of_no 33 (by decide) _ _).mono ?_
  rintro e w4 ⟨rfl, hb4⟩
  have HS4 := Lib.hid (HS3.out.below hb4)
  have HB4 := Lib.hid (HB3.out.trans (hb4.mono HB3.out.size))
  clear hb4 HS3 HB3
  have hm63 := make63
  go_wp2_with (refine wpList_build23_0 rfl rfl ?_)
  have hz63 : SB (w4.alloc (.cells z63 5)) (.slice (some ⟨w4.heap.size, 0, none⟩) 63 63) (List.replicate 63 0) := by
    rw [z63_eq]; exact SB_of_block (bs := List.replicate 63 0) (World.alloc_heap_new _ _) (by decide)
  refine (Mix_no (List.replicate 8 0) _ (List.replicate 63 0) 0 0 _ hz63 (.inl (by decide))).mono ?_
  rintro e w5 ⟨rfl, hb5⟩
  have hba := below_alloc1 w4 (.cells z63 5)
  have HS5 := Lib.hid ((HS4.out.below hba).below hb5)
  have HB5 := Lib.hid ((HB4.out.trans (hba.mono HB4.out.size)).trans (hb5.mono (by have := HB4.out.size; simp; omega)))
  clear hb5 hba HS4 HB4 hz63 hm63
  go_wp2_with (first
    | (refine wpList_alloc_row rfl 23 rfl _ (zero23 _) ?_; intro w6 hT hS hG; have HT6 := Lib.hid hT; have HG6 := Lib.hid (below_of_grown hG); clear hT hG hS)
    | (refine wpList_store_row rfl 23 _ _ rfl w5.heap.size rfl 23 _ (wordsV (List.replicate 8 0)).toArray rfl HT6.out rfl (by kernel_rfl) (wordsV_one _) ?_; intro w7 hT3 hS3 hG3; have HG7 := Lib.hid hG3; clear hT3 hS3 hG3))
  have HS7 := Lib.hid (HS5.out.of_blocks (fun k o h => blk_grown (blk_below h HG6.out) HG7.out (fun e => by injection e with e; have := blk_lt h; omega)))
  have HB7 := Lib.hid ((HB5.out.trans (HG6.out.mono HB5.out.size)).grown HG7.out (by have := HB5.out.size; have := HG6.out.size; omega) (fun k e => by injection e with e; have := HB5.out.size; omega))
  clear HS5 HB5 HG6 HG7 HT6
  refine (Begin_yes 16 (by decide) (by decide) w7).mono ?_
  rintro e w8 ⟨rfl, hb8⟩
  have HS8 := Lib.hid (HS7.out.below hb8)
  have HB8 := Lib.hid (HB7.out.trans (hb8.mono HB7.out.size))
  have HBG := Lib.hid (wds_begin (s := 16) (by decide))
  obtain ⟨B0, hB0⟩ : ∃ B0, B0 = beginF 16 := ⟨_, rfl⟩
  rw [← hB0] at HBG ⊢
  clear hb8 HS7 HB7 hB0
  obtain ⟨g, hg⟩ : ∃ g, g = w8.heap.size := ⟨_, rfl⟩
  have HGE := Lib.hid hg
  clear hg
  go_wp2_with (first
    | (refine wpList_alloc_row rfl 33 rfl _ (zero33 _) ?_; rw [← HGE.out]; intro w9 hT hS hG; have HT9 := Lib.hid hT; have HG9 := Lib.hid (below_of_grown hG); clear hT hG hS)
    | (refine wpList_store_row rfl 33 _ _ rfl g rfl 33 _ _ rfl HT9.out (by rw [dgV_size HBG.out.1]; rfl) (by rw [dgV_size HBG.out.1]; kernel_rfl) (dgV_one _ _ rfl) ?_; intro w10 hT3 hS3 hG3; have HT10 := Lib.hid hT3; have HG10 := Lib.hid hG3; clear hT3 hS3 hG3))
  have HS10 := Lib.hid (HS8.out.of_blocks (fun k o h => blk_grown (blk_below h HG9.out) HG10.out (fun e => by injection e with e; have := blk_lt h; have := HGE.out; omega)))
  have HB10 := Lib.hid ((HB8.out.trans (HG9.out.mono HB8.out.size)).grown HG10.out (by have := HB8.out.size; have := HG9.out.size; omega) (fun k e => by injection e with e; have := HB8.out.size; have := HGE.out; omega))
  have hgw : w.heap.size ≤ g := by have := HB8.out.size; have := HGE.out; omega
  clear HS8 HB8 HG9 HG10 HT9 HGE
  refine region_f 2 (fun i vs W => match i with
      | 0 => vs 0 = .agg (dgV B0 nilS 0 16)
      | 1 => ∃ p, vs 1 = .slice (some ⟨p, 0, none⟩) 64 64 ∧ SB W (.slice (some ⟨p, 0, none⟩) 64 64) (List.replicate 64 0)
      | _ => True) (fun _ W W' => Below W.heap.size W W') (fun W => Below w10.heap.size w10 W) (by kernel_rfl) (by kernel_rfl) ?hst ?h0 ?step ?fin
  case hst =>
    intro i k vs W W' _ _ h hG
    match i, h with
    | 0, h => exact h
    | 1, ⟨p, h1, h2⟩ => exact ⟨p, h1, h2.below hG⟩
    | n + 2, _ => trivial
  case h0 => exact (Below.refl _ _).drew
  case step =>
    intro i op hi ho ac W hS hag hdep
    have hbr : Below W.heap.size W W := Below.refl _ _
    match i, hi, ho with
    | 0, _, rfl => exact ow_load_row 33 _ rfl g (hag 9 rfl) 33 _ (0, 0) _ (blk_below HT10.out hS) Try.underlying33 rfl (by rw [dgV_size HBG.out.1]; kernel_rfl) ⟨_, rfl, fun vs' h _ => h (fun e => by cases e), hbr, hS⟩
    | 1, _, rfl =>
      have hba := below_alloc1 W (.cells (bytesV (List.replicate 64 0)).toArray 5)
      exact ow_make64 _ _ rfl rfl rfl ⟨_, rfl, fun vs' h _ => ⟨_, h (fun e => by cases e), SB_of_block (bs := List.replicate 64 0) (World.alloc_heap_new _ _) (by decide)⟩, hba, hS.trans (hba.mono hS.size)⟩
    | n + 2, hi, _ => exact absurd hi (by omega)
  case fin =>
    intro vs W hS hF
    have e0 : vs 0 = .agg (dgV B0 nilS 0 16) := hF 0 (by omega)
    obtain ⟨p, e1, hsp⟩ := hF 1 (by omega)
    clear hF
    change wpList _ _ _ _ (Act.put (Act.put _ (some 40) (vs 0)) (some 41) (vs 1)) W
    rw [e0, e1]
    clear e0 e1
    simp only [putAll, List.drop_succ_cons, List.drop_zero, Act.put, List.setIfInBounds_toArray, List.set_cons_zero, List.set_cons_succ]
    clear vs
    have HSP := Lib.hid hsp
    have HSW := Lib.hid (HS10.out.below hS)
    have HBW := Lib.hid (HB10.out.trans (hS.mono HB10.out.size))
    have HTW := Lib.hid (blk_below HT10.out hS)
    clear hsp hS HS10 HB10 HT10
    go_wp2_with fail
    refine (Write_any B0 HBG.out 0 (by decide) 16 nilS _ [] (List.replicate 64 0) W (SB_nil _) HSP.out (by decide)).mono ?_
    rintro e w11 ⟨sl', rfl, hown, hb11⟩
    rw [writeL_stop _ _ _ _ (by decide)] at hown ⊢
    simp only [List.nil_append] at hown ⊢
    obtain ⟨A2, c2, rfl, hs2, -⟩ := (SB_of_own (bs := List.replicate 64 0) hown (by decide)).shape
    have HS11 := Lib.hid (HSW.out.below hb11)
    have HB11 := Lib.hid (HBW.out.trans (hb11.mono HBW.out.size))
    have HT11 := Lib.hid (blk_below HTW.out hb11)
    have HS2 := Lib.hid hs2
    clear hown hb11 hs2 HSW HBW HTW HSP
    go_upto_region 7 with (refine wpList_store_row rfl 33 _ _ rfl g rfl 33 _ _ rfl HT11.out (by rw [dgV_size HBG.out.1, dgV_size HBG.out.1]) (by rw [dgV_size HBG.out.1]; kernel_rfl) (dgV_one _ _ rfl) ?_; intro w12 hT3 hS3 hG3; have HT12 := Lib.hid hT3; have HG12 := Lib.hid hG3; clear hT3 hS3 hG3)
    have HS12 := Lib.hid (HS11.out.grown33 HT11.out (dgV_nobyte _ _) HG12.out)
    have HS212 := Lib.hid (HS2.out.grown33 HT11.out (dgV_nobyte _ _) HG12.out)
    have HB12 := Lib.hid (HB11.out.grown HG12.out (by have := blk_lt HT11.out; omega) (fun k e => by injection e with e; omega))
    clear HS11 HS2 HB11 HT11 HG12
    go_wp2_with (refine wpList_load_row rfl 33 _ rfl g rfl 33 _ (0, 0) _ HT12.out Try.underlying33 rfl (by rw [dgV_size HBG.out.1]; kernel_rfl) ?_)
    have hba := below_alloc1 w12 (.cells #[Value.int IntKind.u8 1] 5)
    have hs1 : SB (w12.alloc (.cells #[Value.int IntKind.u8 1] 5)) (.slice (some ⟨w12.heap.size, 0, none⟩) 1 1) [1] := SB_of_block (bs := [1]) (World.alloc_heap_new _ _) (by decide)
    refine (Write_any B0 HBG.out 0 (by decide) 16 _ _ (List.replicate 64 0) [1] _ (HS212.out.below hba) hs1 (by decide)).mono ?_
    rintro e w13 ⟨sl3, rfl, hown, hb13⟩
    have hst : writeL (List.replicate 64 (0 : UInt8) ++ [1]).length B0 0 (List.replicate 64 (0 : UInt8) ++ [1]) = (mixF B0 (wordsF ((List.replicate 64 (0 : UInt8) ++ [1]).take 64)) 64 false, 64, [1]) := by
      rw [writeL_step _ _ _ (by decide), writeL_stop _ _ _ _ (by decide)]
      rfl
    rw [hst] at hown ⊢
    obtain ⟨h2, hh2⟩ : ∃ h2, h2 = mixF B0 (wordsF ((List.replicate 64 (0 : UInt8) ++ [1]).take 64)) 64 false := ⟨_, rfl⟩
    have hh2w : Wds 8 h2 := by rw [hh2]; exact HBG.out.mixF _ _ _
    rw [← hh2]
    simp only at hown
    obtain ⟨A3, c3, rfl, hs3, -⟩ := (SB_of_own (bs := [1]) hown (by decide)).shape
    have HH2 := Lib.hid hh2w
    have HS13 := Lib.hid ((HS12.out.below hba).below hb13)
    have HB13 := Lib.hid ((HB12.out.trans (hba.mono HB12.out.size)).trans (hb13.mono (by have := HB12.out.size; simp; omega)))
    have HT13 := Lib.hid (blk_below (blk_below HT12.out hba) hb13)
    clear hown hb13 hst hh2 hh2w hs3 hs1 hba HS12 HS212 HB12 HT12
    obtain ⟨q, hq⟩ : ∃ q, q = w13.heap.size := ⟨_, rfl⟩
    have HQ := Lib.hid hq
    clear hq
    go_upto_region 8 with (first
      | (refine wpList_alloc_row rfl 33 rfl _ (zero33 _) ?_; rw [← HQ.out]; intro w14 hT hS hG; have HT14 := Lib.hid hT; have HG14 := Lib.hid (below_of_grown hG); clear hT hG hS)
      | (refine wpList_store_row rfl 33 _ _ rfl q rfl 33 _ _ rfl HT14.out (by rw [dgV_size HH2.out.1]; rfl) (by rw [dgV_size HH2.out.1]; kernel_rfl) (dgV_one _ _ rfl) ?_; intro w15 hT3 hS3 hG3; have HT15 := Lib.hid hT3; have HG15 := Lib.hid hG3; clear hT3 hS3 hG3))
    have hgq : g < q := by have := blk_lt HT13.out; have := HQ.out; omega
    have hS15 := HS13.out.of_blocks (fun k o h => blk_grown (blk_below h HG14.out) HG15.out (fun e => by injection e with e; have := blk_lt h; have := HQ.out; omega))
    have hT15g := blk_grown (blk_below HT13.out HG14.out) HG15.out (fun e => by injection e with e; omega)
    have HB15 := Lib.hid ((HB13.out.trans (HG14.out.mono HB13.out.size)).grown HG15.out (by have := HB13.out.size; have := HG14.out.size; omega) (fun k e => by injection e with e; omega))
    have d9 := (cell_of_row _ _ 9 _ _ _ hT15g).trans (dgV_n HBG.out.1 _ _ _)
    have d8 := (cell_of_row _ _ 8 _ _ _ hT15g).trans (dgV_sl HBG.out.1 _ _ _)
    have e9 := (cell_of_row _ _ 9 _ _ _ HT15.out).trans (dgV_n HH2.out.1 _ _ _)
    have e8 := (cell_of_row _ _ 8 _ _ _ HT15.out).trans (dgV_sl HH2.out.1 _ _ _)
    have hcs := conv_str w15 _ ans hS15
    have hse : ans.toArray = #[80, 140, 94, 140, 50, 124, 20, 226, 225, 167, 43, 163, 78, 235, 69, 47, 55, 69, 139, 32, 158, 214, 58, 41, 77, 153, 155, 76, 134, 103, 89, 130] := by rw [HANS.out]
    rw [hse] at hcs
    clear hse
    simp only [List.length_replicate] at d8
    clear HS13 HB13 HG14 HG15 HT14 HT13 hT15g hS15
    go_wp2_with fail
    go_ret
    exact ⟨rfl, HB15.out⟩
end Go.Proofs.Ytnemclbeofiakaa
