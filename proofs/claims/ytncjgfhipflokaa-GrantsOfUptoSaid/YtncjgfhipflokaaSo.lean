/-
  tidewracklaw01.Long, tidewracklaw07.Long.
-/
import Derived.Test.YtncjgfhipflokaaSn
namespace Go.Proofs.Ytncjgfhipflokaa
open Go.RowKit Go.Shelf Hp Go.Maps

theorem VT.shape {w : World} {m : Nat} {cs : List Value} (h : VT w m cs) : ∃ q0 q1 qt QA qn qc RA rn rc, cs = valC q0 q1 qt (.slice QA qn qc) (.slice RA rn rc) ∧ q0.oneCell' = true ∧ q1.oneCell' = true := by
  cases m with
  | zero => obtain ⟨q0, q1, qt, QA, qn, qc, RA, rn, rc, h, h1, h2⟩ := h; exact ⟨q0, q1, qt, QA, qn, qc, RA, rn, rc, h, h1, h2⟩
  | succ m => obtain ⟨q0, q1, qt, QA, qn, qc, RA, rn, rc, h, h1, h2, _⟩ := h; exact ⟨q0, q1, qt, QA, qn, qc, RA, rn, rc, h, h1, h2⟩

set_option maxHeartbeats 1000000 in
set_option maxRecDepth 4000 in
theorem long01_any (w : World) (cs : List Value) (h : VT w 20 cs) (W : World) (hW : Below w.heap.size w W) : Calls Try.prog 43 #[.agg cs.toArray] W fun e w' => (∃ b, e = .returned (.bool b)) ∧ Below W.heap.size W w' := by
  obtain ⟨k0, k1, tx, LA, ln, lc, KA, kn, kc, rfl, h0, h1⟩ := h.shape
  have hone := valC_one k0 k1 h0 h1 tx LA KA ln kn lc kc
  obtain ⟨N, hN⟩ : ∃ N, N = W.heap.size := ⟨_, rfl⟩
  obtain ⟨W1, hW1⟩ : ∃ W1, W1 = W.alloc (.cells (valC k0 k1 tx (.slice LA ln lc) (.slice KA kn kc)).toArray 87) := ⟨_, rfl⟩
  have hrow : W1.heap[N]? = some (.cells (valC k0 k1 tx (.slice LA ln lc) (.slice KA kn kc)).toArray 87 (0, 0)) := by rw [hW1, hN]; exact World.alloc_heap_new W _
  have hbel : Below W.heap.size W W1 := by rw [hW1]; exact (Below.refl _ W).alloc (Nat.le_refl _) _
  have hr0 : W1.cell? ⟨N, 0, none⟩ = some k0 := cell_of_row W1 N 0 _ _ _ hrow
  have hr1 : W1.cell? ⟨N, 1, none⟩ = some k1 := cell_of_row W1 N 1 _ _ _ hrow
  have hr2 : W1.cell? ⟨N, 2, none⟩ = some (.string tx) := cell_of_row W1 N 2 _ _ _ hrow
  have hr3 : W1.cell? ⟨N, 3, none⟩ = some (.slice LA ln lc) := cell_of_row W1 N 3 _ _ _ hrow
  have hr4 : W1.cell? ⟨N, 4, none⟩ = some (.slice KA kn kc) := cell_of_row W1 N 4 _ _ _ hrow
  have hp := parts_any w 20 _ (Nat.le_refl _) h W1 (hW.trans (hbel.mono hW.size))
  have HROW := Lib.hid hrow
  have HP := Lib.hid hp
  have HBEL := Lib.hid hbel
  have HN := Lib.hid hN
  clear hrow hbel hp h hW hone
  go_enter Try.func43, Try.ntmps43
  go_upto_region 1 with fail
  rw [← HN.out, ← hW1]
  clear hN hW1
  go_wp2_with fail
  refine HP.out.mono ?_
  rintro e w2 ⟨⟨n, rfl⟩, hb2⟩
  have HB2 := Lib.hid (HBEL.out.trans (hb2.mono HBEL.out.size))
  clear hb2 hr0 hr1 hr2 hr3 hr4
  go_wp2_with fail
  all_goals
    go_ret
    exact ⟨⟨_, rfl⟩, HB2.out⟩

/-- what is known of a tree's nodes -/
def TreeT (w : World) (nd : Value) : Prop := ∃ A n c, nd = .slice A n c ∧ n ≤ maxLen ∧ (n = 0 ∨ ∃ b o, A = some ⟨b, o, none⟩ ∧ ∀ k, k < n → ∃ cs', (∀ j v, cs'[j]? = some v → w.cell? ⟨b, o + k * 41 + 36 + j, none⟩ = some v) ∧ VT w 20 cs')
theorem info89 : (Try.prog.info? 89).map (·.size) = some 41 := by kernel_rfl

set_option maxHeartbeats 1000000 in
set_option maxRecDepth 4000 in
theorem long07_any (w : World) (nd : Value) (h : TreeT w nd) (W : World) (hW : Below w.heap.size w W) : Calls Try.prog 31 #[.agg #[nd]] W fun e w' => (∃ b, e = .returned (.bool b)) ∧ Below W.heap.size W w' := by
  obtain ⟨A, n, c, rfl, hn, hr⟩ := h
  have HR := Lib.hid hr
  have HW := Lib.hid hW
  have hn1 : n ≤ 9223372036854775807 := hn
  clear hr hn hW
  obtain ⟨N, hN⟩ : ∃ N, N = W.heap.size := ⟨_, rfl⟩
  obtain ⟨W1, hW1⟩ : ∃ W1, W1 = W.alloc (.cells #[.slice A n c] 42) := ⟨_, rfl⟩
  have hrow : W1.heap[N]? = some (.cells #[.slice A n c] 42 (0, 0)) := by rw [hW1, hN]; exact World.alloc_heap_new W _
  have hbel : Below W.heap.size W W1 := by rw [hW1]; exact (Below.refl _ W).alloc (Nat.le_refl _) _
  have hr0 : W1.cell? ⟨N, 0, none⟩ = some (.slice A n c) := row_cell hrow
  have HROW := Lib.hid hrow
  have HBEL := Lib.hid hbel
  have HN := Lib.hid hN
  clear hrow hbel
  go_enter Try.func31, Try.ntmps31
  go_upto_region 1 with fail
  rw [← HN.out, ← hW1]
  clear hN hW1
  by_cases c1 : 60 < n
  · have hd1 : decide ((60 : Int) < (n : Int)) = true := by simp; omega
    go_wp2_with fail
    go_ret
    exact ⟨⟨_, rfl⟩, HBEL.out⟩
  have hd1 : decide ((60 : Int) < (n : Int)) = false := by simp; omega
  go_wp2_with fail
  go_loopw [3] (fun vi wr => ∃ k : Nat, vi = .int .i64 (k : Int) ∧ k ≤ n ∧ Below W1.heap.size W1 wr) (fun vi _ => n - (intOf vi).toNat)
  case atStart => exact ⟨0, rfl, Nat.zero_le _, Below.refl _ _⟩
  case round =>
    obtain ⟨k, rfl, hk, hbe⟩ := hrel
    have HBE := Lib.hid hbe
    clear hbe hd1
    have hr0q := below_cell HBE.out hr0
    rcases (show k = n ∨ k < n by omega) with rfl | hlt
    · have hd : decide ((k : Int) < (k : Int)) = false := by simp
      go_wp2_with fail
      go_ret
      exact ⟨⟨_, rfl⟩, HBEL.out.trans (HBE.out.mono HBEL.out.size)⟩
    · have hd : decide ((k : Int) < (n : Int)) = true := by simp; omega
      have hd' : decide (k < n) = true := by simp; omega
      obtain ⟨b, o, rfl, hc⟩ := HR.out.resolve_left (by omega)
      obtain ⟨cs', hcs, hvt⟩ := hc k hlt
      obtain ⟨q0, q1, qt, QA, qn, qc, RA, rn, rc, rfl, -, -⟩ := hvt.shape
      have hall := HW.out.trans (HBEL.out.mono HW.out.size)
      have hallq := hall.trans (HBE.out.mono hall.size)
      have HC := Lib.hid (show ∀ i v, (valC q0 q1 qt (.slice QA qn qc) (.slice RA rn rc))[i]? = some v → wr.cell? ⟨b, o + k * 41 + 36 + i, none⟩ = some v from fun i v hi => below_cell hallq (hcs i v hi))
      have hlt1 := long01_any w _ hvt wr hallq
      have HLT := Lib.hid hlt1
      clear hc hcs hvt hall hallq hlt1
      go_wp2_with (first
        | (refine wpList_index_n rfl _ _ 89 40 41 rfl b o n c k rfl rfl hlt Try.underlying40 info89 ?_)
        | (refine wpList_load_at rfl 87 _ rfl b (o + k * 41 + 36) rfl (valC q0 q1 qt (.slice QA qn qc) (.slice RA rn rc)) _ HC.out Try.underlying87 rfl (by kernel_rfl) ?_))
      refine HLT.out.mono ?_
      rintro e wz ⟨⟨bb, rfl⟩, hbz⟩
      have HBZ := Lib.hid (HBE.out.trans (hbz.mono HBE.out.size))
      clear hbz hr0q HC HLT
      cases bb with
      | true =>
        go_wp2_with fail
        go_ret
        exact ⟨⟨_, rfl⟩, HBEL.out.trans (HBZ.out.mono HBEL.out.size)⟩
      | false =>
        go_wp2_with fail
        go_roundw
        case rel => exact ⟨k + 1, rfl, by omega, HBZ.out⟩
        case measure => simp [intOf]; omega
end Go.Proofs.Ytncjgfhipflokaa
