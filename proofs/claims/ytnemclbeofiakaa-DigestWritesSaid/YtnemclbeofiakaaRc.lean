/-
  Sums of any size; the document's Sum: laws of single operations, and the case without a sum.
-/
import Derived.Test.YtnemclbeofiakaaRb
namespace Go.Proofs.Ytnemclbeofiakaa
open Go.RowKit Bl

/-- the sum of what a Digest has taken, of any size -/
def sumL (size : Int) (h : List Nat) (n : Nat) (r : List UInt8) : List UInt8 :=
  if 1 ≤ size ∧ size ≤ 32 then outF (lastF (writeL r.length h n r).1 (writeL r.length h n r).2.1 (writeL r.length h n r).2.2) size.toNat else []

theorem Sum_no (h : List Nat) (hh : Wds 8 h) (n : Nat) (hn : n < 18446744073709551616) (size : Int) (sl : Value) (r : List UInt8) (w : World) (hs : SB w sl r) (hno : ¬ (1 ≤ size ∧ size ≤ 32)) :
    Calls Try.prog 14 #[.agg (dgV h sl n size)] w fun e w' => e = .returned (.slice none 0 0) ∧ Below w.heap.size w w' := by
  obtain ⟨A, c, rfl, hs, hl⟩ := hs.shape
  have HSL := Lib.hid hs
  have HL := Lib.hid hl
  have HH := Lib.hid hh
  have hrow0 := World.alloc_heap_new w (.cells (dgV h (.slice A r.length c) n size) 33)
  have HR0 := Lib.hid hrow0
  clear hs hl hh hrow0
  go_enter Try.func14, Try.ntmps14
  go_wp2_with (refine wpList_load_row rfl 33 _ rfl w.heap.size rfl 33 _ (0, 0) _ HR0.out Try.underlying33 rfl (by rw [dgV_size HH.out.1]; kernel_rfl) ?_)
  have hba := below_alloc1 w (.cells (dgV h (.slice A r.length c) n size) 33)
  refine (Write_any h HH.out n hn size (.slice A r.length c) nilS r [] _ (HSL.out.below hba) (SB_nil _) (by rw [List.append_nil]; exact HL.out)).mono ?_
  rintro e w1 ⟨sl', rfl, hown, hb1⟩
  rw [List.append_nil] at hown
  rw [List.append_nil]
  have hwd := writeL_wds r.length h n r HH.out hn
  obtain ⟨h1, hh1⟩ : ∃ x, x = (writeL r.length h n r).1 := ⟨_, rfl⟩
  obtain ⟨n1, hn1⟩ : ∃ x, x = (writeL r.length h n r).2.1 := ⟨_, rfl⟩
  obtain ⟨r1, hr1⟩ : ∃ x, x = (writeL r.length h n r).2.2 := ⟨_, rfl⟩
  rw [← hh1, ← hn1, ← hr1] at hwd
  rw [← hr1] at hown
  rw [← hh1, ← hn1]
  have hr64 : r1.length ≤ 64 := by rw [hr1]; exact writeL_rest _ _ _ _ (Nat.le_refl _)
  have hrl : r1.length ≤ 140737488355328 := by omega
  obtain ⟨A1, c1, rfl, hs1', -⟩ := (SB_of_own hown hrl).shape
  obtain ⟨g, hg⟩ : ∃ g, g = w.heap.size := ⟨_, rfl⟩
  have HG := Lib.hid hg
  have HWD := Lib.hid hwd
  have hrow1 := blk_below HR0.out hb1
  have hbel1 : Below w.heap.size w w1 := hba.trans (hb1.mono (by simp))
  rw [← hg] at hrow1 hbel1 ⊢
  have HR1 := Lib.hid hrow1
  have HB1 := Lib.hid hbel1
  clear hh1 hn1 hr1 hwd hg hown hs1' hrow1 hbel1 hb1 hba HR0
  go_wp2_with (refine wpList_store_row rfl 33 _ _ rfl g rfl 33 _ _ rfl HR1.out (by rw [dgV_size HH.out.1, dgV_size HWD.out.1.1]) (by rw [dgV_size HWD.out.1.1]; kernel_rfl) (dgV_one _ _ rfl) ?_; intro w2 hT2 hS2 hG2; have HT2 := Lib.hid hT2; have HG2 := Lib.hid hG2; have hc10 := (cell_of_row _ _ 10 _ _ _ hT2).trans (dgV_sz HWD.out.1.1 _ _ _); clear hT2 hG2 hS2)
  have hbel2 : Below g w w2 := HB1.out.grown HG2.out (by have := blk_lt HR1.out; omega) (fun k e => by injection e with e; omega)
  have HBE := Lib.hid hbel2
  clear hbel2 HT2 HG2 HR1 HB1 HSL
  refine (sized_any _ _).mono ?_
  rintro e w3 ⟨rfl, rfl⟩
  rw [show decide (1 ≤ size ∧ size ≤ 32) = false from decide_eq_false hno]
  go_wp2_with fail
  go_ret
  rw [← HG.out]
  exact ⟨rfl, HBE.out⟩
/-- Sum, of any size -/
theorem SumA (h : List Nat) (hh : Wds 8 h) (n : Nat) (hn : n < 18446744073709551616) (size : Int) (sl : Value) (r : List UInt8) (w : World) (hs : SB w sl r) :
    Calls Try.prog 14 #[.agg (dgV h sl n size)] w fun e w' => ∃ v, e = .returned v ∧ SB w' v (sumL size h n r) ∧ Below w.heap.size w w' := by
  by_cases hsz : 1 ≤ size ∧ size ≤ 32
  · refine (Sum_any h hh n hn size sl r w hs size.toNat (by omega) (by omega) (by omega)).mono ?_
    rintro e w' ⟨v, rfl, hown, hb⟩
    refine ⟨v, rfl, ?_, hb⟩
    unfold sumL
    rw [if_pos hsz]
    exact SB_of_own (by rw [outF_length]; exact hown) (by rw [outF_length]; omega)
  · refine (Sum_no h hh n hn size sl r w hs hsz).mono ?_
    rintro e w' ⟨rfl, hb⟩
    refine ⟨_, rfl, ?_, hb⟩
    unfold sumL
    rw [if_neg hsz]
    exact SB_nil w'

section
variable {Q : Exit → Act → World → Prop} {o : Oper} {a : Act} {w : World} {K : Act → World → Prop} {ops : Array Oper} {rest : List Oper}
/-- a Digest's words, out of its row alone -/
theorem wpList_load_wordsR (hgd : o.guard = none) (x : Operand) (ho : o.op = .load 23 x) (g : Nat) {h : List Nat} {n : Nat} {size : Int} {sl : Value} (hrow : w.heap[g]? = some (.cells (dgV h sl n size) 33 (0, 0))) (hh : h.length = 8) (hx : a.eval x = .pointer (some ⟨g, 0, none⟩))
    (hK : wpList Try.prog ops Q rest (a.put o.dst (.agg (wordsV h).toArray)) w) : wpList Try.prog ops Q (o :: rest) a w := by
  refine wpList_plain hgd fun _ hK' => ow_load_part 23 x ho g hx _ _ (fun j v hj => ?_) Try.underlying23 rfl (by rw [wordsV_size, hh]; kernel_rfl) (hK' _ _ hK)
  have hjl : j < h.length := by have := (Array.getElem?_eq_some_iff.1 hj).1; rwa [wordsV_size] at this
  rw [cell_of_row _ _ j _ _ _ hrow, dgV_word _ _ _ j hjl, ← hj]
  simp [wordsV, List.getD_eq_getElem?_getD, hjl]
theorem wpList_rem256 (hgd : o.guard = none) (x y : Operand) (t : TypeId) (i : Nat) (ho : o.op = .binOp .rem 22 x y t) (hx : a.eval x = .int .u32 (i : Int)) (hy : a.eval y = .int .u32 256)
    (h : wpList Try.prog ops Q rest (a.put o.dst (.int .u32 ((i % 256 : Nat) : Int))) w) : wpList Try.prog ops Q (o :: rest) a w := by
  refine wpList_plain hgd fun K hK => ow_value (v := .int .u32 ((i % 256 : Nat) : Int)) ?_ (hK _ _ h)
  unfold execOp
  simp only [ho, hx, hy]
  have h2 : Int.tmod (i : Int) 256 = ((i % 256 : Nat) : Int) := by rw [Int.tmod_eq_emod_of_nonneg (by omega), Int.natCast_emod]; rfl
  simp [go_sem, h2]
theorem wpList_quo256 (hgd : o.guard = none) (x y : Operand) (t : TypeId) (i : Nat) (ho : o.op = .binOp .quo 22 x y t) (hx : a.eval x = .int .u32 (i : Int)) (hy : a.eval y = .int .u32 256) (hi : i < M)
    (h : wpList Try.prog ops Q rest (a.put o.dst (.int .u32 ((i / 256 : Nat) : Int))) w) : wpList Try.prog ops Q (o :: rest) a w := by
  refine wpList_plain hgd fun K hK => ow_value (v := .int .u32 ((i / 256 : Nat) : Int)) ?_ (hK _ _ h)
  unfold execOp
  simp only [ho, hx, hy]
  have h2 : Int.tdiv (i : Int) 256 = ((i / 256 : Nat) : Int) := by rw [Int.tdiv_eq_ediv_of_nonneg (by omega), Int.natCast_ediv]; rfl
  have h3 : IntKind.u32.wrap ((i : Int) / 256) = (i : Int) / 256 := by rw [IntKind.wrap_u32']; unfold M at hi; omega
  rw [Int.natCast_ediv] at h2 ⊢
  have h4 : ((256 : Nat) : Int) = 256 := rfl
  rw [h4] at h2 ⊢
  simp [go_sem, h2, h3]
end
theorem byte_mod (x k : Nat) : UInt8.ofNat (x / 256 ^ k % 256) = UInt8.ofNat (x / 2 ^ (8 * k)) := by
  rw [show 256 ^ k = 2 ^ (8 * k) from by rw [Nat.pow_mul]]
  apply UInt8.toNat_inj.1
  simp
theorem div_256 (x k : Nat) : x / 256 ^ k / 256 = x / 256 ^ (k + 1) := by rw [Nat.div_div_eq_div_mul, Nat.pow_succ]
end Go.Proofs.Ytnemclbeofiakaa
