/-
  digest.Begin.
-/
import Derived.Test.YtnemclbeofiakaaWk
namespace Go.Proofs.Ytnemclbeofiakaa
open Go.RowKit Bl

/-- the cells of a Digest -/
def dgV (h : List Nat) (sl : Value) (n : Nat) (size : Int) : Array Value := (wordsV h ++ [sl, .int .u64 (n : Int), .int .i64 size]).toArray
theorem dgV_size {h : List Nat} (hh : h.length = 8) (sl : Value) (n : Nat) (size : Int) : (dgV h sl n size).size = 11 := by simp [dgV, wordsV, hh]
theorem dgV_one {h : List Nat} {sl : Value} (n : Nat) (size : Int) (hs : sl.oneCell' = true) : ∀ u ∈ (dgV h sl n size).toList, u.oneCell' = true := by
  intro u hu
  have hu' : u ∈ wordsV h ++ [sl, .int .u64 (n : Int), .int .i64 size] := hu
  rcases List.mem_append.1 hu' with h1 | h1
  · exact wordsV_one h u h1
  · simp only [List.mem_cons, List.not_mem_nil, or_false] at h1
    rcases h1 with rfl | rfl | rfl
    · exact hs
    · rfl
    · rfl
theorem dgV_word {h : List Nat} (sl : Value) (n : Nat) (size : Int) (i : Nat) (hi : i < h.length) : (dgV h sl n size)[i]? = some (.int .u32 ((h.getD i 0 : Nat) : Int)) := by
  simp [dgV, wordsV, hi, List.getElem?_append, List.getD_eq_getElem?_getD]
theorem dgV_sl {h : List Nat} (hh : h.length = 8) (sl : Value) (n : Nat) (size : Int) : (dgV h sl n size)[8]? = some sl := by
  simp [dgV, wordsV, hh]
theorem dgV_n {h : List Nat} (hh : h.length = 8) (sl : Value) (n : Nat) (size : Int) : (dgV h sl n size)[9]? = some (.int .u64 (n : Int)) := by
  simp [dgV, wordsV, hh]
theorem dgV_sz {h : List Nat} (hh : h.length = 8) (sl : Value) (n : Nat) (size : Int) : (dgV h sl n size)[10]? = some (.int .i64 size) := by
  simp [dgV, wordsV, hh]
theorem dgV_set_word {h : List Nat} (sl : Value) (n : Nat) (size : Int) (i x : Nat) (hi : i < h.length) : (dgV h sl n size).setIfInBounds i (.int .u32 (x : Int)) = dgV (h.set i x) sl n size := by
  simp [dgV, wordsV, hi, List.map_set]
theorem dgV_set_sl {h : List Nat} (hh : h.length = 8) (sl sl' : Value) (n : Nat) (size : Int) : (dgV h sl n size).setIfInBounds 8 sl' = dgV h sl' n size := by
  simp [dgV, wordsV, hh]
theorem dgV_set_n {h : List Nat} (hh : h.length = 8) (sl : Value) (n n' : Nat) (size : Int) : (dgV h sl n size).setIfInBounds 9 (.int .u64 (n' : Int)) = dgV h sl n' size := by
  simp [dgV, wordsV, hh]
abbrev nilS : Value := .slice none 0 0
theorem zero33 (w : World) : (zeroValue 33).run Try.prog w = .ok (.agg (dgV (List.replicate 8 0) nilS 0 0)) w := by kernel_rfl
theorem info33 : (Try.prog.info? 33).map (·.size) = some 11 := by kernel_rfl
theorem build33 (k : Int) (w : World) : (Instr.build 33 #[(0, .agg (wordsV iv).toArray), (3, .int .i64 k)]).run Try.prog w = .ok (.agg (dgV iv nilS 0 k)) w := by kernel_rfl
theorem build33_0 (w : World) : (Instr.build 33 #[]).run Try.prog w = .ok (.agg (dgV (List.replicate 8 0) nilS 0 0)) w := by kernel_rfl

theorem wpList_build33 {ops : Array Oper} {rest : List Oper} {Q : Exit → Act → World → Prop} {o : Oper} {a : Act} {w : World} (hgd : o.guard = none) (x y : Operand) (ho : o.op = .build 33 #[(0, x), (3, y)]) (hx : a.eval x = .agg (wordsV iv).toArray) (k : Int) (hy : a.eval y = .int .i64 k)
    (h : wpList Try.prog ops Q rest (a.put o.dst (.agg (dgV iv nilS 0 k))) w) : wpList Try.prog ops Q (o :: rest) a w := by
  refine wpList_plain hgd fun K hK => ow_value ?_ (hK _ _ h)
  unfold execOp
  simp only [ho, List.map_toArray, List.map_cons, List.map_nil, hx, hy, Sem.run_bind, Sem.run_pure, build33, Result.andThen_ok]
theorem wpList_build33_0 {ops : Array Oper} {rest : List Oper} {Q : Exit → Act → World → Prop} {o : Oper} {a : Act} {w : World} (hgd : o.guard = none) (ho : o.op = .build 33 #[])
    (h : wpList Try.prog ops Q rest (a.put o.dst (.agg (dgV (List.replicate 8 0) nilS 0 0))) w) : wpList Try.prog ops Q (o :: rest) a w := by
  refine wpList_plain hgd fun K hK => ow_value ?_ (hK _ _ h)
  unfold execOp
  simp only [ho, List.map_toArray, List.map_nil, Sem.run_bind, build33_0, Result.andThen_ok]
  rfl

theorem Begin_yes (s : Nat) (h1 : 1 ≤ s) (h2 : s ≤ 32) (w : World) :
    Calls Try.prog 16 #[.int .i64 (s : Int)] w fun e w' => e = .returned (.tuple #[.agg (dgV (beginF s) nilS 0 (s : Int)), .int .i64 0]) ∧ Below w.heap.size w w' := by
  go_enter Try.func16, Try.ntmps16
  go_wp2_with (refine wpList_alloc_row rfl 33 rfl _ (zero33 _) ?_; intro w1 hT hS hG; have HT := Lib.hid hT; have HG := Lib.hid (below_of_grown hG); have HS := Lib.hid hS; clear hT hG hS)
  refine (sized_any _ _).mono ?_
  rintro e w' ⟨rfl, rfl⟩
  rw [show decide (1 ≤ (s : Int) ∧ (s : Int) ≤ 32) = true from by simp; omega]
  go_wp2_with fail
  refine (first_any _).mono ?_
  rintro e w2 ⟨rfl, hb2⟩
  have HT2 := Lib.hid (blk_below HT.out hb2)
  have HB2 := Lib.hid (HG.out.trans (hb2.mono HG.out.size))
  clear hb2 HT HG HS
  obtain ⟨S, hS⟩ : ∃ S, S = w2.heap.size := ⟨_, rfl⟩
  have HS := Lib.hid hS
  clear hS
  have hs32 : s < 4294967296 := by omega
  have hx1 : bits BinOp.xor IntKind.u32 16842752 (s : Int) = ((16842752 ^^^ s : Nat) : Int) := u32_xor_nat 16842752 s (by decide) hs32
  have hx2 : bits BinOp.xor IntKind.u32 1779033703 ((16842752 ^^^ s : Nat) : Int) = ((1779033703 ^^^ (16842752 ^^^ s) : Nat) : Int) := u32_xor_nat 1779033703 _ (by decide) (xor_lt (by decide) hs32)
  go_upto_region 5 with (first
    | (refine wpList_build33 rfl _ _ rfl rfl _ rfl ?_)
    | (refine wpList_alloc_row rfl 33 rfl _ (zero33 _) ?_; rw [← HS.out]; intro w3 hT3 hS3 hG3; have HT3 := Lib.hid hT3; have HG3 := Lib.hid (below_of_grown hG3); have HS3 := Lib.hid hS3; clear hT3 hG3 hS3)
    | (refine wpList_store_row rfl 33 _ _ rfl S rfl 33 _ _ rfl HT3.out rfl (by kernel_rfl) (dgV_one _ _ rfl) ?_; intro w4 hT4 hS4 hG4; have HT4 := Lib.hid hT4; have HG4 := Lib.hid hG4; have hc4 : w4.cell? ⟨S, 0, none⟩ = some (.int .u32 1779033703) := (cell_of_row _ _ 0 _ _ _ hT4).trans (dgV_word (h := iv) _ _ _ 0 (by decide)); have hf4 := frozen_of_row _ S 0 _ _ hT4; clear hT4 hG4 hS4))
  have hset := blk_setCell (i := 0) HT4.out (.int .u32 ((1779033703 ^^^ (16842752 ^^^ s) : Nat) : Int))
  rw [dgV_set_word _ _ _ 0 _ (by decide)] at hset
  have hbg : iv.set 0 (1779033703 ^^^ (16842752 ^^^ s)) = beginF s := rfl
  rw [hbg] at hset
  have hb5 : Below w.heap.size w (w4.setCell ⟨S, 0, none⟩ (.int .u32 ((1779033703 ^^^ (16842752 ^^^ s) : Nat) : Int))) := by
    have h1 := HB2.out.size
    have h2 := HS.out
    have h3 := HS3.out
    refine ((HB2.out.trans (HG3.out.mono h1)).grown HG4.out (by omega) (fun k e => by injection e with e; omega)).grown (grown_setCell (grown_refl _ (some S)) _ _) (by have := HG4.out.size; omega) (fun k e => by injection e with e; omega)
  have hT2' := blk_below (blk_below HT2.out HG3.out) (Below.refl _ _)
  have hg45 : w3.grownBy (w4.setCell ⟨S, 0, none⟩ (.int .u32 ((1779033703 ^^^ (16842752 ^^^ s) : Nat) : Int))) (some S) := HG4.out.trans (grown_setCell (grown_refl _ (some S)) _ _)
  have hT5 := blk_grown hT2' hg45 (fun e => by injection e with e; have := blk_lt HT2.out; have := HS.out; omega)
  obtain ⟨w5, hw5⟩ : ∃ w5, w5 = w4.setCell ⟨S, 0, none⟩ (.int .u32 ((1779033703 ^^^ (16842752 ^^^ s) : Nat) : Int)) := ⟨_, rfl⟩
  rw [← hw5] at hset hb5 hT5 ⊢
  have HSET := Lib.hid hset
  have HB5 := Lib.hid hb5
  have HT5 := Lib.hid hT5
  clear hset hb5 hT5 hw5 hT2' hg45 HT4 HG4 HT3 HG3 HS3 HS hc4 hf4 hx1 hx2 HB2 HT2 hbg
  go_wp2_with (first
    | (refine wpList_load_row rfl 33 _ rfl S rfl 33 _ (0, 0) _ HSET.out Try.underlying33 rfl (by kernel_rfl) ?_)
    | (refine wpList_store_row rfl 33 _ _ rfl w.heap.size rfl 33 _ _ rfl HT5.out rfl (by kernel_rfl) (dgV_one _ _ rfl) ?_; intro w6 hT6 hS6 hG6; have HT6 := Lib.hid hT6; have HG6 := Lib.hid hG6; clear hT6 hG6 hS6))
  refine bodyPost_ret (v := .tuple #[.agg (dgV (beginF s) nilS 0 (s : Int)), .int .i64 0]) ?_ rfl ⟨rfl, HB5.out.grown HG6.out HB5.out.size (fun k e => by injection e with e; omega)⟩
  exact results_ct (P := Try.prog) (p := 2) (p0 := 3) (ty := 33) rfl _ w6 w.heap.size 33 _ (0, 0) _ rfl HT6.out Try.underlying33 rfl (by kernel_rfl)

theorem Begin_no (s : Int) (hs : ¬ (1 ≤ s ∧ s ≤ 32)) (w : World) :
    Calls Try.prog 16 #[.int .i64 s] w fun e w' => e = .returned (.tuple #[.agg (dgV (List.replicate 8 0) nilS 0 0), .int .i64 1]) ∧ Below w.heap.size w w' := by
  go_enter Try.func16, Try.ntmps16
  go_wp2_with (refine wpList_alloc_row rfl 33 rfl _ (zero33 _) ?_; intro w1 hT hS hG; have HT := Lib.hid hT; have HG := Lib.hid (below_of_grown hG); have HS := Lib.hid hS; clear hT hG hS)
  refine (sized_any _ _).mono ?_
  rintro e w' ⟨rfl, rfl⟩
  rw [show decide (1 ≤ s ∧ s ≤ 32) = false from by simpa using hs]
  go_wp2_with (first
    | (refine wpList_build33_0 rfl rfl ?_)
    | (refine wpList_store_row rfl 33 _ _ rfl w.heap.size rfl 33 _ _ rfl HT.out rfl (by kernel_rfl) (dgV_one _ _ rfl) ?_; intro w6 hT6 hS6 hG6; have HT6 := Lib.hid hT6; have HG6 := Lib.hid hG6; clear hT6 hG6 hS6))
  refine bodyPost_ret (v := .tuple #[.agg (dgV (List.replicate 8 0) nilS 0 0), .int .i64 1]) ?_ rfl ⟨rfl, HG.out.grown HG6.out HG.out.size (fun k e => by injection e with e; omega)⟩
  exact results_ct (P := Try.prog) (p := 2) (p0 := 3) (ty := 33) rfl _ w6 w.heap.size 33 _ (0, 0) _ rfl HT6.out Try.underlying33 rfl (by kernel_rfl)
end Go.Proofs.Ytnemclbeofiakaa
