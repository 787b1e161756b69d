import Derived.Test.YtlhdnloimgckgaaWf
import Derived.Deep.RegionHeld3
import Derived.Test.YtlhdnloimgckgaaReg
import Derived.Test.YtlhdnloimgckgaaSpec
namespace Go.Proofs.Ytlhdnloimgckgaa
open Go.RowKit

theorem results3 {P : Program} {fn : Func} {p0 p p2 : Tmp} {ty : TypeId} (h : fn.results = #[.tmp p0, .cell p ty, .tmp p2]) (tmps : Array Value) (w : World) (g : Nat) (t : TypeId) (cs : Array Value) (fr : Nat × Nat) (d : TypeDesc)
    (hp : tmps.getD p undef = .pointer (some ⟨g, 0, none⟩)) (hg : w.heap[g]? = some (.cells cs t fr))
    (hu : P.underlying ty = some d) (hd : (match d with | .struct _ | .array _ _ => true | _ => false) = true) (hi : (P.info? ty).map (·.size) = some cs.size) :
    (results fn tmps).run P w = .ok (.tuple #[tmps.getD p0 undef, .agg cs, tmps.getD p2 undef]) w := by
  have hp' : tmps[p]?.getD undef = .pointer (some ⟨g, 0, none⟩) := by simpa using hp
  simp [results, h, hp', asAddr, run_loadVar_row w g t ty cs fr d hg hu hd hi]

/-- the sum of a record with payload p behind the sum x -/

theorem zeroTail (w : World) : (zeroValue 30).run Try.prog w = .ok (.agg #[.int .i64 0, .int .i64 0, .int .u32 0]) w := by kernel_rfl

theorem run_build3 (A B C : Option Addr) (n m k c d e : Nat) (w : World) :
    (Instr.buildSlice 22 3 #[(0, .slice A n c), (1, .slice B m d), (2, .slice C k e)]).run Try.prog w = .ok (.slice (some ⟨w.heap.size, 0, none⟩) 3 3) (w.alloc (.cells #[.slice A n c, .slice B m d, .slice C k e] 25)) := by
  kernel_rfl
theorem ow_build3 {Q : Exit → Act → World → Prop} {o : Oper} {a : Act} {w : World} {K : Act → World → Prop} (x y z : Operand) (ho : o.op = .buildSlice 22 3 #[(0, x), (1, y), (2, z)]) {A B C : Option Addr} {n m k c d e : Nat}
    (hx : a.eval x = .slice A n c) (hy : a.eval y = .slice B m d) (hz : a.eval z = .slice C k e)
    (h : K (a.put o.dst (.slice (some ⟨w.heap.size, 0, none⟩) 3 3)) (w.alloc (.cells #[.slice A n c, .slice B m d, .slice C k e] 25))) : o.wp Try.prog a w K Q := by
  refine ow_value' ?_ h
  unfold execOp
  simp only [ho, List.map_toArray, List.map_cons, List.map_nil, hx, hy, hz, Sem.run_bind, Sem.run_pure, run_build3, Result.andThen_ok]

set_option maxHeartbeats 800000 in
theorem Put_long (c s x : Nat) (v : Value) (p : List UInt8) (w : World) (hv : SB w v p) (hp : 16384 < p.length) :
    Calls Try.prog 18 #[.agg #[.int .i64 (c : Int), .int .i64 (s : Int), .int .u32 (x : Int)], v] w fun e w' => e = .returned (.tuple #[.slice none 0 0, .agg #[.int .i64 0, .int .i64 0, .int .u32 0], .int .i64 6]) ∧ Below w.heap.size w w' := by
  obtain ⟨A, k, rfl, hv, hm⟩ := hv.shape
  clear hv
  have hd : decide ((16384 : Int) < (p.length : Int)) = true := by simp; omega
  have HP := Lib.hid hp
  clear hp
  go_enter Try.func18, Try.ntmps18
  go_wp2
  refine bodyPost_ret (results3 (P := Try.prog) (p0 := 4) (p := 5) (p2 := 6) (ty := 30) rfl _ _ (w.heap.size + 1) 30 #[Value.int IntKind.i64 0, Value.int IntKind.i64 0, Value.int IntKind.u32 0] (0, 0) _ rfl (heap_alloc2_new w _ _) Try.underlying30 rfl (by kernel_rfl)) rfl ⟨rfl, ?_⟩
  exact ((Below.refl _ _).alloc (Nat.le_refl _) _).alloc (by simp) _

set_option maxHeartbeats 800000 in
theorem Put_ok (c s x : Nat) (hx : x < 4294967296) (hc : c ≤ 140737488355328) (hs : s ≤ 140737488355328) (v : Value) (p : List UInt8) (w : World) (hv : SB w v p) (hp : p.length ≤ 16384) :
    Calls Try.prog 18 #[.agg #[.int .i64 (c : Int), .int .i64 (s : Int), .int .u32 (x : Int)], v] w fun e w' => ∃ u, e = .returned (.tuple #[u, .agg #[.int .i64 ((c + 1 : Nat) : Int), .int .i64 ((s + (8 + p.length) : Nat) : Int), .int .u32 ((rsum x p : Nat) : Int)], .int .i64 0]) ∧
      w'.ownsRow w.heap.size 5 1 u (rec_ x p).length (bytesV (rec_ x p)) ∧ Below w.heap.size w w' := by
  obtain ⟨A, k, rfl, hv, hm⟩ := hv.shape
  have HV := Lib.hid hv
  clear hv hm
  have hd : decide ((16384 : Int) < (p.length : Int)) = false := by simp; omega
  go_enter Try.func18, Try.ntmps18
  go_wp2_with fail
  refine (word_any p.length (by omega) _).mono ?_
  rintro e w1 ⟨rfl, hw1⟩
  have hb0 : w1.heap[w.heap.size]? = some (.cells #[.int .i64 (c : Int), .int .i64 (s : Int), .int .u32 (x : Int)] 30 (0, 0)) := by
    rw [← hw1]; exact blk_alloc (heap_alloc2_old w _ _) _
  have hb1 : w1.heap[w.heap.size + 1]? = some (.cells #[.int .i64 0, .int .i64 0, .int .u32 0] 30 (0, 0)) := by
    rw [← hw1]; exact blk_alloc (heap_alloc2_new w _ _) _
  have hb2 : w1.heap[w.heap.size + 2]? = some (.cells (bytesV (Crc.be4 p.length)).toArray 5 (0, 0)) := by
    rw [← hw1]; have := heap_alloc_new ((w.alloc (.cells #[.int .i64 (c : Int), .int .i64 (s : Int), .int .u32 (x : Int)] 30)).alloc (.cells #[.int .i64 0, .int .i64 0, .int .u32 0] 30)) (.cells (bytesV (Crc.be4 p.length)).toArray 5); simpa using this
  have hbel : Below w.heap.size w w1 := by rw [← hw1]; exact (((Below.refl _ _).alloc (Nat.le_refl _) _).alloc (by simp) _).alloc (by simp; omega) _
  have hsz : w1.heap.size = w.heap.size + 3 := by rw [← hw1]; simp
  clear hw1
  simp only [World.size_alloc, Nat.add_assoc, Nat.reduceAdd]
  have hsv : SB w1 (.slice (some ⟨w.heap.size + 2, 0, none⟩) 4 4) (Crc.be4 p.length) := SB_of_block (bs := Crc.be4 p.length) hb2 (by simp [Crc.be4])
  have HSV := Lib.hid hsv
  have HVV := Lib.hid (HV.out.below hbel)
  have c0 : w1.cell? ⟨w.heap.size, 0, none⟩ = some (.int .i64 (c : Int)) := cell_of_row w1 _ _ _ _ _ hb0
  have c1 : w1.cell? ⟨w.heap.size, 1, none⟩ = some (.int .i64 (s : Int)) := cell_of_row w1 _ _ _ _ _ hb0
  have c2 : w1.cell? ⟨w.heap.size, 2, none⟩ = some (.int .u32 (x : Int)) := cell_of_row w1 _ _ _ _ _ hb0
  have HB0 := Lib.hid hb0
  have HB1 := Lib.hid hb1
  have HBEL := Lib.hid hbel
  have HSZ := Lib.hid hsz
  clear hb0 hb1 hb2 hbel hsz hsv
  go_wp2_with fail
  refine (sum_any c s x hx _ _ _ _ _ HSV.out HVV.out).mono ?_
  rintro e w2 ⟨rfl, hbel2⟩
  have hsz2 : w.heap.size + 3 ≤ w2.heap.size := by have := hbel2.size; have := HSZ.out; omega
  have hxs : rsum x p < 4294967296 := rsum_lt x p
  have hrs : Crc.check (Crc.le4 x ++ Crc.be4 p.length ++ p) = rsum x p := rfl
  rw [hrs]
  obtain ⟨X, hX⟩ : ∃ X, X = rsum x p := ⟨_, rfl⟩
  rw [← hX] at hxs ⊢
  have HX := Lib.hid hX
  clear hX
  have d0 := cell_below hbel2 c0
  have d1 := cell_below hbel2 c1
  have d2 := cell_below hbel2 c2
  have HB02 := Lib.hid (blk_below HB0.out hbel2)
  have HB12 := Lib.hid (blk_below HB1.out hbel2)
  have HSV2 := Lib.hid (HSV.out.below hbel2)
  have HVV2 := Lib.hid (HVV.out.below hbel2)
  have HBEL2 : Hid (Below w.heap.size w w2) := HBEL.out.trans (hbel2.mono HBEL.out.size)
  clear hbel2 c0 c1 c2 HB0 HB1 HBEL HSZ HSV HVV hrs
  go_wp2_with fail
  refine region_ev 10 (fun i v W => match i with
      | 0 => v = .slice (some ⟨w.heap.size + 2, 0, none⟩) 4 4
      | 1 => v = .int .u32 (X : Int)
      | 2 => ∃ g, v = .slice (some ⟨g, 0, none⟩) 4 4 ∧ SB W v (Crc.be4 X)
      | 3 => v = .slice A p.length k
      | 4 => ∃ g, v = .slice (some ⟨g, 0, none⟩) 3 3 ∧ SBB W v [Crc.be4 p.length, Crc.be4 X, p]
      | 5 => W.ownsRow w.heap.size 5 1 v [Crc.be4 p.length, Crc.be4 X, p].flatten.length (bytesV [Crc.be4 p.length, Crc.be4 X, p].flatten)
      | 6 => v = .agg #[.int .i64 (c : Int), .int .i64 (s : Int), .int .u32 (x : Int)]
      | 7 => v = .slice A p.length k
      | 8 => v = .int .u32 (X : Int)
      | 9 => v = .agg #[.int .i64 ((c + 1 : Nat) : Int), .int .i64 ((s + (8 + p.length) : Nat) : Int), .int .u32 (X : Int)]
      | _ => True) (fun W W' => Below W.heap.size W W') (fun W => Below w2.heap.size w2 W) (by kernel_rfl) (by kernel_rfl) (by kernel_rfl) ?hst ?h0 ?step ?fin
  case hst =>
    intro i v W W' hE hG
    match i, hE with
    | 0, h => exact h
    | 1, h => exact h
    | 2, h => exact ⟨h.choose, h.choose_spec.1, h.choose_spec.2.below hG⟩
    | 3, h => exact h
    | 4, h => exact ⟨h.choose, h.choose_spec.1, h.choose_spec.2.below hG⟩
    | 5, h => exact World.ownsRow.kept h (grown_of_below hG none) (by cases v.ownBlock <;> simp)
    | 6, h => exact h
    | 7, h => exact h
    | 8, h => exact h
    | 9, h => exact h
    | n + 10, _ => trivial
  case h0 => exact (Below.refl _ _).drew
  case step =>
    intro i o hi ho a W hS hag hdep
    have hbr : Below W.heap.size W W := Below.refl _ _
    match i, hi, ho with
    | 0, _, rfl => exact ow_move _ rfl (hag 7 rfl) ⟨_, rfl, rfl, hbr, hS⟩
    | 1, _, rfl => exact ow_move _ rfl (hag 8 rfl) ⟨_, rfl, rfl, hbr, hS⟩
    | 2, _, rfl =>
      have h1 : a.eval (.tmp 22) = .int .u32 (X : Int) := hdep 1 (by omega) (by kernel_rfl)
      refine ow_call Try.func25 (by kernel_rfl) rfl _ _ rfl (vs := #[.int .u32 (X : Int)]) (by simp only [List.map_toArray, List.map_cons, List.map_nil, h1]) ?_
      refine (word_any X hxs W).mono ?_
      rintro e w' ⟨rfl, rfl⟩
      have hbb := below_alloc1 W (.cells (bytesV (Crc.be4 X)).toArray 5)
      exact ⟨_, rfl, _, rfl, ⟨_, rfl, SB_of_block (bs := Crc.be4 X) (heap_alloc_new W _) (by simp [Crc.be4])⟩, hbb, hS.trans (hbb.mono hS.size)⟩
    | 3, _, rfl => exact ow_move _ rfl (hag 1 rfl) ⟨_, rfl, rfl, hbr, hS⟩
    | 4, _, rfl =>
      have h1 : a.eval (.tmp 21) = .slice (some ⟨w.heap.size + 2, 0, none⟩) 4 4 := hdep 0 (by omega) (by kernel_rfl)
      obtain ⟨g, h2, h3⟩ : ∃ g, a.eval (.tmp 23) = .slice (some ⟨g, 0, none⟩) 4 4 ∧ SB W (a.eval (.tmp 23)) (Crc.be4 X) := hdep 2 (by omega) (by kernel_rfl)
      have h4 : a.eval (.tmp 24) = .slice A p.length k := hdep 3 (by omega) (by kernel_rfl)
      rw [h2] at h3
      have hbb := below_alloc1 W (.cells #[.slice (some ⟨w.heap.size + 2, 0, none⟩) 4 4, .slice (some ⟨g, 0, none⟩) 4 4, .slice A p.length k] 25)
      exact ow_build3 _ _ _ rfl h1 h2 h4 ⟨_, rfl, ⟨_, rfl, SBB_three (heap_alloc_new W _) ((HSV2.out.below hS).below hbb) (h3.below hbb) ((HVV2.out.below hS).below hbb)⟩, hbb, hS.trans (hbb.mono hS.size)⟩
    | 5, _, rfl =>
      obtain ⟨g, h2, h3⟩ : ∃ g, a.eval (.tmp 25) = .slice (some ⟨g, 0, none⟩) 3 3 ∧ SBB W (a.eval (.tmp 25)) [Crc.be4 p.length, Crc.be4 X, p] := hdep 4 (by omega) (by kernel_rfl)
      rw [h2] at h3
      refine ow_call Try.func27 (by kernel_rfl) rfl _ _ rfl (vs := #[.slice (some ⟨g, 0, none⟩) 3 3]) (by simp only [List.map_toArray, List.map_cons, List.map_nil, h2]) ?_
      refine (Concat_any _ _ W h3 (by simp [Crc.be4]; omega)).mono ?_
      rintro e w' ⟨v', rfl, hown, hbb⟩
      exact ⟨_, rfl, _, rfl, hown.base_le (by have := hS.size; omega), hbb, hS.trans (hbb.mono hS.size)⟩
    | 6, _, rfl =>
      exact ow_load_row 30 _ rfl w.heap.size (hag 2 rfl) 30 _ (0, 0) _ (blk_below HB02.out hS) Try.underlying30 rfl (by kernel_rfl) ⟨_, rfl, rfl, hbr, hS⟩
    | 7, _, rfl => exact ow_move _ rfl (hag 1 rfl) ⟨_, rfl, rfl, hbr, hS⟩
    | 8, _, rfl => exact ow_move _ rfl (hag 8 rfl) ⟨_, rfl, rfl, hbr, hS⟩
    | 9, _, rfl =>
      have h1 : a.eval (.tmp 27) = .agg #[.int .i64 (c : Int), .int .i64 (s : Int), .int .u32 (x : Int)] := hdep 6 (by omega) (by kernel_rfl)
      have h2 : a.eval (.tmp 28) = .slice A p.length k := hdep 7 (by omega) (by kernel_rfl)
      have h3 : a.eval (.tmp 29) = .int .u32 (X : Int) := hdep 8 (by omega) (by kernel_rfl)
      refine ow_call Try.func28 (by kernel_rfl) rfl _ _ rfl (vs := #[.agg #[.int .i64 (c : Int), .int .i64 (s : Int), .int .u32 (x : Int)], .slice A p.length k, .int .u32 (X : Int)]) (by simp only [List.map_toArray, List.map_cons, List.map_nil, h1, h2, h3]) ?_
      refine (behind_any c s x X hc hs A p.length k (by omega) W).mono ?_
      rintro e w' ⟨rfl, hbb⟩
      exact ⟨_, rfl, _, rfl, rfl, hbb, hS.trans (hbb.mono hS.size)⟩
  case fin =>
    intro a W hS hsz hdf hag hf
    obtain ⟨⟨tl⟩, ds⟩ := a
    match tl, hsz with
    | [x0, x1, x2, x3, x4, x5, x6, x7, x8, x9, x10, x11, x12, x13, x14, x15, x16, x17, x18, x19, x20, x21, x22, x23, x24, x25, x26, x27, x28, x29, x30], _ =>
      obtain rfl : ds = [] := hdf
      obtain rfl : x0 = .agg #[.int .i64 (c : Int), .int .i64 (s : Int), .int .u32 (x : Int)] := hag 0 rfl
      obtain rfl : x1 = .slice A p.length k := hag 1 rfl
      obtain rfl : x2 = .pointer (some ⟨w.heap.size, 0, none⟩) := hag 2 rfl
      obtain rfl : x4 = .slice none 0 0 := hag 4 rfl
      obtain rfl : x5 = .pointer (some ⟨w.heap.size + 1, 0, none⟩) := hag 5 rfl
      obtain rfl : x6 = .int .i64 0 := hag 6 rfl
      obtain rfl : x7 = .slice (some ⟨w.heap.size + 2, 0, none⟩) 4 4 := hag 7 rfl
      obtain rfl : x8 = .int .u32 (X : Int) := hag 8 rfl
      obtain rfl : x30 = .agg #[.int .i64 ((c + 1 : Nat) : Int), .int .i64 ((s + (8 + p.length) : Nat) : Int), .int .u32 (X : Int)] := hf 9 (by omega)
      have h26 : W.ownsRow w.heap.size 5 1 x26 _ _ := hf 5 (by omega)
      clear hag hf hsz
      have hb1 := blk_below HB12.out hS
      have hbel := HBEL2.out.trans (hS.mono HBEL2.out.size)
      have H26 := Lib.hid h26
      have HBB := Lib.hid hb1
      have HEL := Lib.hid hbel
      clear h26 hb1 hbel hS
      change wpList Try.prog _ _ _ ⟨#[.agg #[.int .i64 (c : Int), .int .i64 (s : Int), .int .u32 (x : Int)], .slice A p.length k, .pointer (some ⟨w.heap.size, 0, none⟩), x3, .slice none 0 0, .pointer (some ⟨w.heap.size + 1, 0, none⟩), .int .i64 0, .slice (some ⟨w.heap.size + 2, 0, none⟩) 4 4, .int .u32 (X : Int), x9, x10, x11, x12, x13, x14, x15, x16, x17, x18, x19, x20, x21, x22, x23, x24, x25, x26, x27, x28, x29, .agg #[.int .i64 ((c + 1 : Nat) : Int), .int .i64 ((s + (8 + p.length) : Nat) : Int), .int .u32 (X : Int)]], []⟩ W
      simp only [List.drop_succ_cons, List.drop_zero]
      go_wp2_with (first | (refine wpList_store_row rfl 30 _ _ rfl (w.heap.size + 1) rfl 30 _ _ rfl HBB.out rfl (by kernel_rfl) (by simp [Value.oneCell']) ?_; intro w3 hT3 hS3 hG3))
      refine bodyPost_ret (results3 (P := Try.prog) (p0 := 4) (p := 5) (p2 := 6) (ty := 30) rfl _ _ (w.heap.size + 1) 30 _ (0, 0) _ rfl hT3 Try.underlying30 rfl (by kernel_rfl)) rfl ⟨x26, ?_, ?_, HEL.out.grown hG3 HEL.out.size (by simp)⟩
      · rw [← HX.out]; simp
      · have h1 := (H26.out.kept hG3 (own_ne_blk H26.out HBB.out (by decide)))
        have e : [Crc.be4 p.length, Crc.be4 X, p].flatten = rec_ x p := by simp [rec_, ← HX.out]
        rw [e] at h1
        exact h1
end Go.Proofs.Ytlhdnloimgckgaa
