/-
  Two Digests compared.
-/
import Derived.Test.YtnemclbeofiakaaRd
namespace Go.Proofs.Ytnemclbeofiakaa
open Go.RowKit Bl

set_option maxHeartbeats 1000000 in
theorem Same_yes (h : List Nat) (hh : Wds 8 h) (n : Nat) (hn : n < 18446744073709551616) (size : Int) (sl sl' : Value) (r : List UInt8) (w : World) (hs : SB w sl r) (hs' : SB w sl' r) :
    Calls Try.prog 12 #[.agg (dgV h sl n size), .agg (dgV h sl' n size)] w fun e w' => e = .returned (.bool true) ∧ Below w.heap.size w w' := by
  obtain ⟨A, c, rfl, hs, -⟩ := hs.shape
  obtain ⟨B, d, rfl, hs', -⟩ := hs'.shape
  have hb1 := below_alloc1 w (.cells (dgV h (.slice A r.length c) n size) 33)
  have hb2 := below_alloc1 (w.alloc (.cells (dgV h (.slice A r.length c) n size) 33)) (.cells (dgV h (.slice B r.length d) n size) 33)
  have hbb := hb1.trans (hb2.mono (by simp))
  have hra := blk_below (World.alloc_heap_new w (.cells (dgV h (.slice A r.length c) n size) 33)) hb2
  have hrb := World.alloc_heap_new (w.alloc (.cells (dgV h (.slice A r.length c) n size) 33)) (.cells (dgV h (.slice B r.length d) n size) 33)
  rw [World.size_alloc] at hrb
  obtain ⟨g, hg⟩ : ∃ g, g = w.heap.size := ⟨_, rfl⟩
  rw [← hg] at hra hrb
  have HG := Lib.hid hg
  have HRA := Lib.hid hra
  have HRB := Lib.hid hrb
  have HBB := Lib.hid hbb
  have HSA := Lib.hid hs
  have HSB := Lib.hid hs'
  have HH := Lib.hid hh
  clear hg hra hrb hbb hb1 hb2 hs hs' hh
  go_enter Try.func12, Try.ntmps12
  go_upto_region 1 with fail
  rw [← HG.out]
  obtain ⟨W, hW⟩ : ∃ W, W = (w.alloc (.cells (dgV h (.slice A r.length c) n size) 33)).alloc (.cells (dgV h (.slice B r.length d) n size) 33) := ⟨_, rfl⟩
  rw [← hW] at HRA HRB HBB ⊢
  clear hW
  have DA := Lib.hid (show DgAt g h n size (.slice A r.length c) r W from ⟨HRA.out, HSA.out.below HBB.out, HH.out, hn⟩)
  have DB := Lib.hid (show DgAt (g + 1) h n size (.slice B r.length d) r W from ⟨HRB.out, HSB.out.below HBB.out, HH.out, hn⟩)
  clear HRA HRB HSA HSB
  have ha8 := DA.out.c8
  have ha9 := DA.out.c9
  have ha10 := DA.out.c10
  have hb8 := DB.out.c8
  have hb9 := DB.out.c9
  have hb10 := DB.out.c10
  have hca := conv_str W _ r DA.out.data
  have hcb := conv_str W _ r DB.out.data
  go_wp2_with (first
    | (refine wpList_load_words rfl _ rfl g DA.out rfl ?_)
    | (refine wpList_load_words rfl _ rfl (g + 1) DB.out rfl ?_)
    | (refine wpList_want rfl (ow_eql_words _ _ _ rfl HH.out.1 HH.out.1 rfl rfl ?_); rw [decide_eq_true rfl]))
  go_ret
  exact ⟨rfl, HBB.out⟩

section
variable {Q : Exit → Act → World → Prop} {o : Oper} {a : Act} {w : World} {K : Act → World → Prop}
theorem ow_sumA (x : Operand) (t : TypeId) (ho : o.op = .call { callee := .value (.func 14), args := #[x], argTypes := #[t] }) {h : List Nat} (hh : Wds 8 h) {n : Nat} (hn : n < 18446744073709551616) {sl : Value} {r : List UInt8} {size : Int} (hs : SB w sl r) (hx : a.eval x = .agg (dgV h sl n size))
    (hK : ∀ v' w', SB w' v' (sumL size h n r) → Below w.heap.size w w' → K (a.put o.dst v') w') : o.wp Try.prog a w K Q := by
  refine ow_call Try.func14 (by kernel_rfl) rfl _ _ ho (vs := #[.agg (dgV h sl n size)]) (by simp only [List.map_toArray, List.map_cons, List.map_nil, hx]) ?_
  refine (SumA h hh n hn size sl r w hs).mono ?_
  rintro e w' ⟨v', rfl, hs', hb⟩
  exact ⟨_, rfl, hK v' w' hs' hb⟩
theorem ow_sumR (x : Operand) (t : TypeId) (ho : o.op = .call { callee := .value (.func 15), args := #[x], argTypes := #[t] }) {h : List Nat} (hh : Wds 8 h) {n : Nat} (hn : n < 18446744073709551616) {sl : Value} {r : List UInt8} {size : Int} (hs : SB w sl r) (hx : a.eval x = .agg (dgV h sl n size))
    (hK : ∀ v' w', SB w' v' (sumL size h n r) → Below w.heap.size w w' → K (a.put o.dst v') w') : o.wp Try.prog a w K Q := by
  refine ow_call Try.func15 (by kernel_rfl) rfl _ _ ho (vs := #[.agg (dgV h sl n size)]) (by simp only [List.map_toArray, List.map_cons, List.map_nil, hx]) ?_
  refine (SumR_any h hh n hn size sl r w hs).mono ?_
  rintro e w' ⟨v', rfl, hs', hb⟩
  exact ⟨_, rfl, hK v' w' hs' hb⟩
theorem ow_writeR (x y : Operand) (ts : Array TypeId) (ho : o.op = .call { callee := .value (.func 13), args := #[x, y], argTypes := ts }) {h : List Nat} (hh : Wds 8 h) {n : Nat} (hn : n < 18446744073709551616) {sl v : Value} {r bs : List UInt8} {size : Int} (hs : SB w sl r) (hv : SB w v bs) (hl : (r ++ bs).length ≤ 140737488355328) (hx : a.eval x = .agg (dgV h sl n size)) (hy : a.eval y = v)
    (hK : ∀ sl' w', SB w' sl' (writeL (r ++ bs).length h n (r ++ bs)).2.2 → Below w.heap.size w w' → K (a.put o.dst (.agg (dgV (writeL (r ++ bs).length h n (r ++ bs)).1 sl' (writeL (r ++ bs).length h n (r ++ bs)).2.1 size))) w') : o.wp Try.prog a w K Q := by
  refine ow_call Try.func13 (by kernel_rfl) rfl _ _ ho (vs := #[.agg (dgV h sl n size), v]) (by simp only [List.map_toArray, List.map_cons, List.map_nil, hx, hy]) ?_
  refine (WriteR_any h hh n hn size sl v r bs w hs hv hl).mono ?_
  rintro e w' ⟨sl', rfl, hoff, hb⟩
  have h3 := (writeL_wds (r ++ bs).length h n (r ++ bs) hh hn).2.2
  exact ⟨_, rfl, hK sl' w' (hoff.sb (by omega)) hb⟩
theorem ow_same (x y : Operand) (ts : Array TypeId) (ho : o.op = .call { callee := .value (.func 12), args := #[x, y], argTypes := ts }) {h : List Nat} (hh : Wds 8 h) {n : Nat} (hn : n < 18446744073709551616) {sl sl' : Value} {r : List UInt8} {size : Int} (hs : SB w sl r) (hs' : SB w sl' r) (hx : a.eval x = .agg (dgV h sl n size)) (hy : a.eval y = .agg (dgV h sl' n size))
    (hK : ∀ w', Below w.heap.size w w' → K (a.put o.dst (.bool true)) w') : o.wp Try.prog a w K Q := by
  refine ow_call Try.func12 (by kernel_rfl) rfl _ _ ho (vs := #[.agg (dgV h sl n size), .agg (dgV h sl' n size)]) (by simp only [List.map_toArray, List.map_cons, List.map_nil, hx, hy]) ?_
  refine (Same_yes h hh n hn size sl sl' r w hs hs').mono ?_
  rintro e w' ⟨rfl, hb⟩
  exact ⟨_, rfl, hK w' hb⟩
theorem ow_not (x : Operand) (t : TypeId) (ho : o.op = .unOp .not t x) (b : Bool) (hx : a.eval x = .bool b) (h : K (a.put o.dst (.bool (!b))) w) : o.wp Try.prog a w K Q := by
  refine ow_value (v := .bool (!b)) ?_ h
  unfold execOp
  simp only [ho, hx]
  simp [go_sem]
theorem ow_neq_str (x y : Operand) (ho : o.op = .binOp .neq 9 x y 9) (s : ByteArray) (hx : a.eval x = .string s) (hy : a.eval y = .string s) (h : K (a.put o.dst (.bool false)) w) : o.wp Try.prog a w K Q := by
  refine ow_value (v := .bool false) ?_ h
  unfold execOp
  simp only [ho, hx, hy]
  simp [go_sem]
end
end Go.Proofs.Ytnemclbeofiakaa
