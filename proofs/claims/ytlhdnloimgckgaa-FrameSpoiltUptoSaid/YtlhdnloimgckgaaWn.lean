/-
  The document's Put.
-/
import Derived.Test.YtlhdnloimgckgaaWm
import Derived.Test.YtlhdnloimgckgaaWl
namespace Go.Proofs.Ytlhdnloimgckgaa
open Go.RowKit Go.Shelf

section
variable {P : Program} {Q : Exit → Act → World → Prop} {o : Oper} {a : Act} {w : World} {K : Act → World → Prop}
theorem ow_load_int (x : Operand) (t : TypeId) (k : IntKind) (ho : o.op = .load t x) (g i : Nat) (hx : a.eval x = .pointer (some ⟨g, i, none⟩)) (n : Int) (hc : w.cell? ⟨g, i, none⟩ = some (.int k n))
    (hu : P.underlying t = some (.int k)) (h : K (a.put o.dst (.int k n)) w) : o.wp P a w K Q := by
  refine ow_value (v := .int k n) ?_ h
  unfold execOp
  simp only [ho, hx, Instr.loadAt, Instr.sureAddr, Sem.run_bind, Sem.run_pure, Result.andThen_ok]
  simp [go_sem, hc, hu, isAgg, underlying]
theorem ow_add_nat (x y : Operand) (t ty : TypeId) (i j : Nat) (ho : o.op = .binOp .add t x y ty) (hx : a.eval x = .int .i64 (i : Int)) (hy : a.eval y = .int .i64 (j : Int)) (_hu : P.underlying t = some (.int .i64)) (hb : i + j < 9223372036854775808)
    (h : K (a.put o.dst (.int .i64 ((i + j : Nat) : Int))) w) : o.wp P a w K Q := by
  refine ow_value (v := .int .i64 ((i + j : Nat) : Int)) ?_ h
  unfold execOp
  simp only [ho, hx, hy]
  have hw : IntKind.i64.wrap ((i : Int) + (j : Int)) = (i : Int) + (j : Int) := by
    simp only [IntKind.wrap, IntKind.signed, IntKind.bits]
    simp
    omega
  simp [go_sem, hw]
end
theorem ow_field30 {Q : Exit → Act → World → Prop} {o : Oper} {a : Act} {w : World} {K : Act → World → Prop} (x : Operand) (i : Nat) (hi : i < 3) (ho : o.op = .fieldAddr 30 x i) (g : Nat) (hx : a.eval x = .pointer (some ⟨g, 0, none⟩))
    (h : K (a.put o.dst (.pointer (some ⟨g, i, none⟩))) w) : o.wp Try.prog a w K Q := by
  refine ow_value (v := .pointer (some ⟨g, i, none⟩)) ?_ h
  unfold execOp
  simp only [ho, hx]
  have key : ∀ j : Nat, j < 3 → ((Instr.fieldAt 30 (.pointer (some ⟨g, 0, none⟩)) j).run Try.prog w) = .ok (.pointer (some ⟨g, j, none⟩)) w := by
    intro j hj
    match j, hj with
    | 0, _ => rfl
    | 1, _ => rfl
    | 2, _ => rfl
  simp only [Sem.run_bind, key i hi, Result.andThen_ok, Sem.run_pure]
theorem ow_build30 {Q : Exit → Act → World → Prop} {o : Oper} {a : Act} {w : World} {K : Act → World → Prop} (x y z : Operand) (ho : o.op = .build 30 #[(0, x), (1, y), (2, z)]) (i j k : Int) (hx : a.eval x = .int .i64 i) (hy : a.eval y = .int .i64 j) (hz : a.eval z = .int .u32 k)
    (h : K (a.put o.dst (.agg #[.int .i64 i, .int .i64 j, .int .u32 k])) w) : o.wp Try.prog a w K Q := by
  refine ow_value (v := .agg #[.int .i64 i, .int .i64 j, .int .u32 k]) ?_ h
  unfold execOp
  simp only [ho, List.map_toArray, List.map_cons, List.map_nil, hx, hy, hz]
  kernel_rfl

set_option maxHeartbeats 800000 in
theorem refPut_any (tc ts x : Nat) (hx : x < 4294967296) (hc : tc ≤ 140737488355328) (hs : ts ≤ 140737488355328) (v : Value) (p : List UInt8) (w : World) (hv : SB w v p) (hp : p.length ≤ 16384) :
    Calls Try.prog 24 #[.agg (tvs (tc, ts, x)), v] w fun e w' => ∃ u, e = .returned (.tuple #[u, .agg (tvs (tc + 1, ts + (8 + p.length), rsum x p)), .int .i64 0]) ∧ SB w' u (rec_ x p) ∧ Below w.heap.size w w' := by
  obtain ⟨A, c, rfl, hv, -⟩ := hv.shape
  have HV := Lib.hid hv
  obtain ⟨i0, hi0, hz0, hz1, hz2⟩ := info_parts info5
  have hd : decide ((16384 : Int) < (p.length : Int)) = false := by simp; omega
  clear hv
  simp only [tvs]
  go_enter Try.func24, Try.ntmps24
  go_wp2_with fail
  refine (refSum_any x hx _ p _ (HV.out.below (((Below.refl _ _).alloc (Nat.le_refl _) _).alloc (by simp) _)) hp).mono ?_
  rintro e w2 ⟨rfl, hb2⟩
  obtain ⟨X, hX⟩ : ∃ X, X = rsum x p := ⟨_, rfl⟩
  have hXlt : X < 4294967296 := by rw [hX]; exact rsum_lt _ _
  rw [← hX]
  have HX := Lib.hid hX
  have hw0 : Below w.heap.size w ((w.alloc (.cells #[.int .i64 (tc : Int), .int .i64 (ts : Int), .int .u32 (x : Int)] 30)).alloc (.cells #[.int .i64 0, .int .i64 0, .int .u32 0] 30)) := ((Below.refl _ _).alloc (Nat.le_refl _) _).alloc (by simp) _
  have HB2 := Lib.hid (hw0.trans (hb2.mono hw0.size))
  have hbA := blk_below (blk_alloc (heap_alloc_new w (.cells #[.int .i64 (tc : Int), .int .i64 (ts : Int), .int .u32 (x : Int)] 30)) _) hb2
  have hbR := blk_below (heap_alloc2_new w (.cells #[.int .i64 (tc : Int), .int .i64 (ts : Int), .int .u32 (x : Int)] 30) (.cells #[.int .i64 0, .int .i64 0, .int .u32 0] 30)) hb2
  have HBA := Lib.hid hbA
  have HBR := Lib.hid hbR
  clear hX hb2 hw0 hbA hbR
  go_wp2_with fail
  have heq : (#[.int .u8 ((p.length : Int) / 16777216), .int .u8 ((p.length : Int) / 65536), .int .u8 ((p.length : Int) / 256), .int .u8 ((p.length : Int) % 256), .int .u8 ((X : Int) / 16777216), .int .u8 ((X : Int) / 65536 % 256), .int .u8 ((X : Int) / 256 % 256), .int .u8 ((X : Int) % 256)] : Array Value) = (bytesV (Crc.be4 p.length ++ Crc.be4 X)).toArray := by
    simp only [bytesV, Crc.be4, List.cons_append, List.nil_append, List.map_cons, List.map_nil, Crc.ofNat_toNat]
    have h1 : ((X / 16777216 % 256 : Nat) : Int) = (X : Int) / 16777216 := by omega
    have h2 : ((X / 65536 % 256 : Nat) : Int) = (X : Int) / 65536 % 256 := by omega
    have h3 : ((X / 256 % 256 : Nat) : Int) = (X : Int) / 256 % 256 := by omega
    have h4 : ((X % 256 : Nat) : Int) = (X : Int) % 256 := by omega
    have h5 : ((p.length / 16777216 % 256 : Nat) : Int) = (p.length : Int) / 16777216 := by omega
    have h6 : ((p.length / 65536 % 256 : Nat) : Int) = (p.length : Int) / 65536 := by omega
    have h7 : ((p.length / 256 % 256 : Nat) : Int) = (p.length : Int) / 256 := by omega
    have h8 : ((p.length % 256 : Nat) : Int) = (p.length : Int) % 256 := by omega
    rw [h1, h2, h3, h4, h5, h6, h7, h8]
  rw [heq]
  obtain ⟨W5, hW5⟩ : ∃ W5, W5 = w2.alloc (Obj.cells (bytesV (Crc.be4 p.length ++ Crc.be4 X)).toArray 5) := ⟨_, rfl⟩
  rw [← hW5]
  have hb5 : Below w2.heap.size w2 W5 := by rw [hW5]; exact below_alloc1 _ _
  have hn5 : W5.heap[w2.heap.size]? = some (.cells (bytesV (Crc.be4 p.length ++ Crc.be4 X)).toArray 5 (0, 0)) := by rw [hW5]; exact World.alloc_heap_new _ _
  have hown5 : W5.ownsRow w.heap.size 5 1 (.slice (some ⟨w2.heap.size, 0, none⟩) 8 8) 8 (bytesV (Crc.be4 p.length ++ Crc.be4 X)) := own_of_block hn5 (by simp [Crc.be4]) (by have := HB2.out.size; omega) (by unfold maxLen; omega)
  have HB5 : Hid (Below w.heap.size w W5) := Lib.hid (HB2.out.trans (hb5.mono HB2.out.size))
  have hA5 := blk_below HBA.out hb5
  have hR5 := blk_below HBR.out hb5
  have h0lt : w.heap.size < w2.heap.size := blk_lt HBA.out
  have h1lt : w.heap.size + 1 < w2.heap.size := blk_lt HBR.out
  clear heq hW5 hb5
  refine region_ev_p 14 (fun i v W => match i with
      | 0 => v = .slice (some ⟨w2.heap.size, 0, none⟩) 8 8
      | 1 => v = .slice A p.length c
      | 2 => W.ownsRow w.heap.size 5 1 v (8 + p.length) (bytesV (Crc.be4 p.length ++ Crc.be4 X) ++ bytesV p)
      | 3 => v = .pointer (some ⟨w.heap.size, 0, none⟩)
      | 4 => v = .int .i64 (tc : Int)
      | 5 => v = .int .i64 ((tc + 1 : Nat) : Int)
      | 6 => v = .pointer (some ⟨w.heap.size, 1, none⟩)
      | 7 => v = .int .i64 (ts : Int)
      | 8 => v = .int .i64 ((ts + 8 : Nat) : Int)
      | 9 => v = .int .i64 (p.length : Int)
      | 10 => v = .int .i64 ((ts + 8 + p.length : Nat) : Int)
      | 11 => v = .int .u32 (X : Int)
      | 12 => v = .agg (tvs (tc + 1, ts + (8 + p.length), X))
      | 13 => W.ownsRow w.heap.size 5 1 v (8 + p.length) (bytesV (Crc.be4 p.length ++ Crc.be4 X) ++ bytesV p)
      | _ => True) (fun k W W' => (k ≠ 2 → W' = W)) (fun W => W5.grownBy W (some w2.heap.size))
    (fun i _ W => match i with
      | 2 => W.ownsRow w.heap.size 5 1 (.slice (some ⟨w2.heap.size, 0, none⟩) 8 8) 8 (bytesV (Crc.be4 p.length ++ Crc.be4 X))
      | _ => True) (by kernel_rfl) (by kernel_rfl) ?hst ?h0 ?hp0 ?step ?fin
  case hst =>
    intro i j v W W' hji hnd hE hG
    match i, hE with
    | 0, h => exact h
    | 1, h => exact h
    | 2, h => rw [hG hji]; exact h
    | 3, h => exact h
    | 4, h => exact h
    | 5, h => exact h
    | 6, h => exact h
    | 7, h => exact h
    | 8, h => exact h
    | 9, h => exact h
    | 10, h => exact h
    | 11, h => exact h
    | 12, h => exact h
    | 13, h =>
      have hj2 : j ≠ 2 := by
        rintro rfl
        exact absurd (hnd.symm.trans (by kernel_rfl)) Bool.false_ne_true
      rw [hG hj2]; exact h
    | n + 14, _ => trivial
  case h0 => exact grown_drew (grown_refl _ _)
  case hp0 =>
    intro i hi
    match i with
    | 2 => exact hown5
    | 0 | 1 | 3 | 4 | 5 | 6 | 7 | 8 | 9 | 10 | 11 | 12 | 13 => trivial
  case step =>
    intro i op hi ho a W hS hP hag hdep
    have hAW : W.heap[w.heap.size]? = some (.cells #[.int .i64 (tc : Int), .int .i64 (ts : Int), .int .u32 (x : Int)] 30 (0, 0)) := blk_grown hA5 hS (fun e => by injection e with e; omega)
    have k0 : W.cell? ⟨w.heap.size, 0, none⟩ = some (.int .i64 (tc : Int)) := cell_of_row W _ _ _ _ _ hAW
    have k1 : W.cell? ⟨w.heap.size, 1, none⟩ = some (.int .i64 (ts : Int)) := cell_of_row W _ _ _ _ _ hAW
    match i, hi, ho with
    | 0, _, rfl => exact ow_move _ rfl (hag 9 rfl) ⟨_, rfl, ⟨rfl, fun h => by cases h⟩, fun _ => rfl, hS, fun j _ _ _ h => h⟩
    | 1, _, rfl => exact ow_move _ rfl (hag 1 rfl) ⟨_, rfl, ⟨rfl, fun h => by cases h⟩, fun _ => rfl, hS, fun j _ _ _ h => h⟩
    | 2, _, rfl =>
      have h0 : a.eval (.tmp 42) = .slice (some ⟨w2.heap.size, 0, none⟩) 8 8 := hdep 0 (by omega) (by kernel_rfl)
      have h1 : a.eval (.tmp 43) = .slice A p.length c := hdep 1 (by omega) (by kernel_rfl)
      have hsbW : SB W (.slice A p.length c) p := by
        have h2 := (HV.out.sbk.kept (Low.of_below HB5.out))
        exact (h2.kept (fun k o hk h => blk_grown h hS (fun e => by injection e with e; omega))).1
      have hws := hS.size
      have hw5 := HB5.out.size
      refine wp_append_src W _ _ 25 rfl w.heap.size 5 i0 (.int .u8 0) 1 Try.underlying25 hi0 hz0 hz1 hz2 rfl _ _ _ h0 hP A p.length c (bytesV p) h1 (bytesV_length _) hsbW.isNil hsbW.cells (bytesV_one _) (by unfold maxLen; omega) (by omega) (by omega) ?_
      intro v' w' hrow hg _
      refine ⟨_, rfl, ⟨hrow, fun h => by cases h⟩, fun h => absurd rfl h, hS.trans hg, fun j hj hne hdp hPj => ?_⟩
      match j, hj, hne with
      | 0, _, _ => trivial
      | 1, _, _ => trivial
      | 3, _, _ => trivial
      | 4, _, _ => trivial
      | 5, _, _ => trivial
      | 6, _, _ => trivial
      | 7, _, _ => trivial
      | 8, _, _ => trivial
      | 9, _, _ => trivial
      | 10, _, _ => trivial
      | 11, _, _ => trivial
      | 12, _, _ => trivial
      | 13, _, _ => trivial
      | 2, _, h => exact absurd rfl h
    | 3, _, rfl => exact ow_field30 _ 0 (by omega) rfl w.heap.size (hag 2 rfl) ⟨_, rfl, ⟨rfl, fun h => by cases h⟩, fun _ => rfl, hS, fun j _ _ _ h => h⟩
    | 4, _, rfl =>
      have h1 : a.eval (.tmp 45) = .pointer (some ⟨w.heap.size, 0, none⟩) := hdep 3 (by omega) (by kernel_rfl)
      exact ow_load_int _ 3 .i64 rfl _ _ h1 _ k0 Try.underlying3 ⟨_, rfl, ⟨rfl, fun h => by cases h⟩, fun _ => rfl, hS, fun j _ _ _ h => h⟩
    | 5, _, rfl =>
      have h1 : a.eval (.tmp 46) = .int .i64 (tc : Int) := hdep 4 (by omega) (by kernel_rfl)
      exact ow_add_nat _ _ 3 _ tc 1 rfl h1 rfl Try.underlying3 (by omega) ⟨_, rfl, ⟨rfl, fun h => by cases h⟩, fun _ => rfl, hS, fun j _ _ _ h => h⟩
    | 6, _, rfl => exact ow_field30 _ 1 (by omega) rfl w.heap.size (hag 2 rfl) ⟨_, rfl, ⟨rfl, fun h => by cases h⟩, fun _ => rfl, hS, fun j _ _ _ h => h⟩
    | 7, _, rfl =>
      have h1 : a.eval (.tmp 48) = .pointer (some ⟨w.heap.size, 1, none⟩) := hdep 6 (by omega) (by kernel_rfl)
      exact ow_load_int _ 3 .i64 rfl _ _ h1 _ k1 Try.underlying3 ⟨_, rfl, ⟨rfl, fun h => by cases h⟩, fun _ => rfl, hS, fun j _ _ _ h => h⟩
    | 8, _, rfl =>
      have h1 : a.eval (.tmp 49) = .int .i64 (ts : Int) := hdep 7 (by omega) (by kernel_rfl)
      exact ow_add_nat _ _ 3 _ ts 8 rfl h1 rfl Try.underlying3 (by omega) ⟨_, rfl, ⟨rfl, fun h => by cases h⟩, fun _ => rfl, hS, fun j _ _ _ h => h⟩
    | 9, _, rfl => exact ow_move _ rfl (hag 7 rfl) ⟨_, rfl, ⟨rfl, fun h => by cases h⟩, fun _ => rfl, hS, fun j _ _ _ h => h⟩
    | 10, _, rfl =>
      have h1 : a.eval (.tmp 50) = .int .i64 ((ts + 8 : Nat) : Int) := hdep 8 (by omega) (by kernel_rfl)
      have h2 : a.eval (.tmp 51) = .int .i64 (p.length : Int) := hdep 9 (by omega) (by kernel_rfl)
      exact ow_add_nat _ _ 3 _ (ts + 8) p.length rfl h1 h2 Try.underlying3 (by omega) ⟨_, rfl, ⟨rfl, fun h => by cases h⟩, fun _ => rfl, hS, fun j _ _ _ h => h⟩
    | 11, _, rfl => exact ow_move _ rfl (hag 8 rfl) ⟨_, rfl, ⟨rfl, fun h => by cases h⟩, fun _ => rfl, hS, fun j _ _ _ h => h⟩
    | 12, _, rfl =>
      have h1 : a.eval (.tmp 47) = .int .i64 ((tc + 1 : Nat) : Int) := hdep 5 (by omega) (by kernel_rfl)
      have h2 : a.eval (.tmp 52) = .int .i64 ((ts + 8 + p.length : Nat) : Int) := hdep 10 (by omega) (by kernel_rfl)
      have h3 : a.eval (.tmp 53) = .int .u32 (X : Int) := hdep 11 (by omega) (by kernel_rfl)
      exact ow_build30 _ _ _ rfl _ _ _ h1 h2 h3 ⟨_, rfl, ⟨by simp only [tvs, Nat.add_assoc], fun h => by cases h⟩, fun _ => rfl, hS, fun j _ _ _ h => h⟩
    | 13, _, rfl =>
      have h1 : W.ownsRow w.heap.size 5 1 (a.eval (.tmp 44)) (8 + p.length) (bytesV (Crc.be4 p.length ++ Crc.be4 X) ++ bytesV p) := hdep 2 (by omega) (by kernel_rfl)
      exact ow_assign _ rfl rfl ⟨_, rfl, ⟨h1, fun h => by cases h⟩, fun _ => rfl, hS, fun j _ _ _ h => h⟩
  case fin =>
    intro a W hS hsz hdf hag hf
    obtain ⟨⟨tl⟩, ds⟩ := a
    match tl, hsz with
    | x0 :: x1 :: x2 :: x3 :: x4 :: x5 :: x6 :: x7 :: x8 :: x9 :: x10 :: x11 :: x12 :: x13 :: x14 :: x15 :: x16 :: x17 :: x18 :: x19 :: x20 :: x21 :: x22 :: x23 :: x24 :: x25 :: x26 :: x27 :: tl2, hsz =>
    match tl2, hsz with
    | [x28, x29, x30, x31, x32, x33, x34, x35, x36, x37, x38, x39, x40, x41, x42, x43, x44, x45, x46, x47, x48, x49, x50, x51, x52, x53, x54], _ =>
    obtain rfl : ds = [] := hdf
    obtain rfl : x5 = .pointer (some ⟨w.heap.size + 1, 0, none⟩) := hag 5 rfl
    obtain rfl : x54 = .agg (tvs (tc + 1, ts + (8 + p.length), X)) := hf 12 (by omega)
    have h4 : W.ownsRow w.heap.size 5 1 x4 (8 + p.length) (bytesV (Crc.be4 p.length ++ Crc.be4 X) ++ bytesV p) := hf 13 (by omega)
    clear hag hf hsz
    have hRW := blk_grown hR5 hS (fun e => by injection e with e; omega)
    have HRW := Lib.hid hRW
    have H4 := Lib.hid h4
    have HBW := Lib.hid (HB5.out.grown hS HB5.out.size (fun k e => by injection e with e; omega))
    clear hRW h4 hS hA5 hR5
    change wpList Try.prog _ _ _ ⟨#[x0, x1, x2, x3, x4, .pointer (some ⟨w.heap.size + 1, 0, none⟩), x6, x7, x8, x9, x10, x11, x12, x13, x14, x15, x16, x17, x18, x19, x20, x21, x22, x23, x24, x25, x26, x27, x28, x29, x30, x31, x32, x33, x34, x35, x36, x37, x38, x39, x40, x41, x42, x43, x44, x45, x46, x47, x48, x49, x50, x51, x52, x53, .agg (tvs (tc + 1, ts + (8 + p.length), X))], []⟩ W
    simp only [List.drop_succ_cons, List.drop_zero]
    go_wp2_with (first | (refine wpList_store_row rfl 30 _ _ rfl (w.heap.size + 1) rfl 30 _ _ rfl HRW.out rfl (by kernel_rfl) (by simp [tvs, Value.oneCell']) ?_; intro w3 hT3 hS3 hG3))
    refine bodyPost_ret (results3 (P := Try.prog) (p0 := 4) (p := 5) (p2 := 6) (ty := 30) rfl _ _ (w.heap.size + 1) 30 _ (0, 0) _ rfl hT3 Try.underlying30 rfl (by kernel_rfl)) rfl ⟨x4, ?_, ?_, HBW.out.grown hG3 HBW.out.size (fun k e => by injection e with e; omega)⟩
    · rw [← HX.out]; rfl
    · refine SB_of_own (base := w.heap.size) ?_ (by rw [rec_length]; omega)
      rw [rec_length, rec_, ← HX.out, bytesV_append]
      exact own_move H4.out (fun j cs _ h => blk_grown h hG3 (fun e => by
        injection e with e
        subst e
        rw [HRW.out] at h
        injection h with h
        injection h with _ h
        cases h))
end Go.Proofs.Ytlhdnloimgckgaa
