/-
  Is a tree too great: tidewracklaw14.texts, tidewracklaw01.parts, tidewracklaw01.Long, tidewracklaw07.Long: some answer.
-/
import Derived.Test.YtncjgfhipflokaaSm
namespace Go.Proofs.Ytncjgfhipflokaa
open Go.RowKit Go.Shelf Hp Go.Maps

set_option maxHeartbeats 1000000 in
set_option maxRecDepth 4000 in
theorem texts_any (v : Value) (l : List S) (w : World) (h : RT w v l) : Calls Try.prog 30 #[v] w fun e w' => w' = w ∧ ∃ b, e = .returned (.bool b) ∧ (b = false → l.length ≤ 200) := by
  obtain ⟨A, c, rfl, hl, hr⟩ := h
  have HR := Lib.hid hr
  have hl1 : l.length ≤ 9223372036854775807 := hl
  clear hr hl
  go_enter Try.func30, Try.ntmps30
  go_wp2_with fail
  go_loopw [3] (fun i wr => ∃ k : Nat, k ≤ l.length ∧ i = .int .i64 (k : Int) ∧ wr = w) (fun i _ => l.length - (intOf i).toNat)
  case atStart => exact ⟨0, Nat.zero_le _, rfl, rfl⟩
  case round =>
    obtain ⟨k, hk, rfl, rfl⟩ := hrel
    rcases (show k = l.length ∨ k < l.length by omega) with rfl | hlt
    · have hd : decide ((l.length : Int) < (l.length : Int)) = false := by simp
      by_cases h2 : 200 < l.length
      · have hd2 : decide ((200 : Int) < (l.length : Int)) = true := by simp; omega
        go_wp2_with fail
        go_ret
        exact ⟨rfl, true, rfl, fun h => by cases h⟩
      · have hd2 : decide ((200 : Int) < (l.length : Int)) = false := by simp; omega
        go_wp2_with fail
        go_ret
        exact ⟨rfl, false, rfl, fun _ => by omega⟩
    · have hd : decide ((k : Int) < (l.length : Int)) = true := by simp; omega
      have hd' : decide (k < l.length) = true := by simp; omega
      obtain ⟨b, o, rfl, hc⟩ := HR.out.resolve_left (by omega)
      have hck := hc k hlt
      clear hc HR
      by_cases h3 : 300 < (at_ l k).length
      · have hd3 : decide ((300 : Int) < ((at_ l k).length : Int)) = true := by simp; omega
        go_wp2_with fail
        go_ret
        exact ⟨rfl, true, rfl, fun h => by cases h⟩
      · have hd3 : decide ((300 : Int) < ((at_ l k).length : Int)) = false := by simp; omega
        go_wp2_with fail
        go_roundw
        case rel => exact ⟨k + 1, by omega, rfl, trivial⟩
        case measure => simp [intOf]; omega

/-- the cells of a value -/
def valC (k0 k1 : Value) (tx : ByteArray) (L K : Value) : List Value := [k0, k1, .string tx, L, K]
/-- a value's cells, and what is behind them, m deep -/
def VT (w : World) : Nat → List Value → Prop
  | 0, cs => ∃ k0 k1 tx LA ln lc KA kn kc, cs = valC k0 k1 tx (.slice LA ln lc) (.slice KA kn kc) ∧ k0.oneCell' = true ∧ k1.oneCell' = true
  | m + 1, cs => ∃ k0 k1 tx LA ln lc KA kn kc, cs = valC k0 k1 tx (.slice LA ln lc) (.slice KA kn kc) ∧ k0.oneCell' = true ∧ k1.oneCell' = true ∧ ln ≤ maxLen ∧ kn ≤ maxLen ∧
      (kn = 0 ∨ ∃ b o, KA = some ⟨b, o, none⟩ ∧ ∀ k, k < kn → ∃ s, w.cell? ⟨b, o + k, none⟩ = some (.string s)) ∧
      (ln = 0 ∨ ∃ b o, LA = some ⟨b, o, none⟩ ∧ ∀ k, k < ln → ∃ cs', (∀ j v, cs'[j]? = some v → w.cell? ⟨b, o + k * 5 + j, none⟩ = some v) ∧ VT w m cs')
theorem info87 : (Try.prog.info? 87).map (·.size) = some 5 := by kernel_rfl
theorem valC_one (k0 k1 : Value) (h0 : k0.oneCell' = true) (h1 : k1.oneCell' = true) (tx : ByteArray) (A B : Option Addr) (n m c d : Nat) : ∀ u ∈ (valC k0 k1 tx (.slice A n c) (.slice B m d)).toArray.toList, u.oneCell' = true := by
  intro u hu
  have hu' : u ∈ valC k0 k1 tx (.slice A n c) (.slice B m d) := hu
  simp only [valC, List.mem_cons, List.not_mem_nil, or_false] at hu'
  rcases hu' with rfl | rfl | rfl | rfl | rfl
  · exact h0
  · exact h1
  all_goals rfl

set_option maxHeartbeats 1000000 in
set_option maxRecDepth 4000 in
theorem parts_any (w : World) : ∀ (m : Nat) (cs : List Value), m ≤ 20 → VT w m cs → ∀ W, Below w.heap.size w W → Calls Try.prog 49 #[.agg cs.toArray, .int .i64 (m : Int)] W fun e w' => (∃ n, e = .returned (.int .i64 n)) ∧ Below W.heap.size W w' := by
  intro m
  induction m with
  | zero =>
    rintro cs _ ⟨k0, k1, tx, LA, ln, lc, KA, kn, kc, rfl, h0, h1⟩ W _
    have hd0 : decide ((0 : Int) < 1) = true := by decide
    go_enter Try.func49, Try.ntmps49
    go_wp2_with fail
    go_ret
    exact ⟨⟨_, rfl⟩, (Below.refl _ _).alloc (Nat.le_refl _) _⟩
  | succ m ih =>
    rintro cs hm ⟨k0, k1, tx, LA, ln, lc, KA, kn, kc, rfl, h0, h1, hln, hkn, hks, hls⟩ W hW
    have ihm := fun cs h => ih cs (by omega) h
    have IH := Lib.hid ihm
    have HKS := Lib.hid hks
    have HLS := Lib.hid hls
    have HW := Lib.hid hW
    have hln1 : ln ≤ 9223372036854775807 := hln
    have hkn1 : kn ≤ 9223372036854775807 := hkn
    obtain ⟨dp, hdp⟩ : ∃ dp, dp = m + 1 := ⟨_, rfl⟩
    rw [← hdp]
    have hdp1 : (dp : Int) - 1 = (m : Int) := by omega
    have hd0 : decide ((dp : Int) < 1) = false := by simp; omega
    have hdp2 : dp ≤ 20 := by omega
    clear ih ihm hks hls hW hln hkn hdp
    obtain ⟨N, hN⟩ : ∃ N, N = W.heap.size := ⟨_, rfl⟩
    obtain ⟨W1, hW1⟩ : ∃ W1, W1 = W.alloc (.cells (valC k0 k1 tx (.slice LA ln lc) (.slice KA kn kc)).toArray 87) := ⟨_, rfl⟩
    have hrow : W1.heap[N]? = some (.cells (valC k0 k1 tx (.slice LA ln lc) (.slice KA kn kc)).toArray 87 (0, 0)) := by rw [hW1, hN]; exact World.alloc_heap_new W _
    have hr2 : W1.cell? ⟨N, 2, none⟩ = some (.string tx) := cell_of_row W1 N 2 _ _ _ hrow
    have hr3 : W1.cell? ⟨N, 3, none⟩ = some (.slice LA ln lc) := cell_of_row W1 N 3 _ _ _ hrow
    have hr4 : W1.cell? ⟨N, 4, none⟩ = some (.slice KA kn kc) := cell_of_row W1 N 4 _ _ _ hrow
    have hbel : Below W.heap.size W W1 := by rw [hW1]; exact (Below.refl _ W).alloc (Nat.le_refl _) _
    have HROW := Lib.hid hrow
    have HBEL := Lib.hid hbel
    have HN := Lib.hid hN
    clear hrow hbel
    go_enter Try.func49, Try.ntmps49
    go_upto_region 1 with fail
    rw [← HN.out, ← hW1]
    clear hN hW1
    by_cases c1 : 3000 < ln
    · have hd1 : decide ((3000 : Int) < (ln : Int)) = true := by simp; omega
      go_wp2_with fail
      go_ret
      exact ⟨⟨_, rfl⟩, HBEL.out⟩
    have hd1 : decide ((3000 : Int) < (ln : Int)) = false := by simp; omega
    by_cases c2 : 3000 < kn
    · have hd2 : decide ((3000 : Int) < (kn : Int)) = true := by simp; omega
      go_wp2_with fail
      go_ret
      exact ⟨⟨_, rfl⟩, HBEL.out⟩
    have hd2 : decide ((3000 : Int) < (kn : Int)) = false := by simp; omega
    by_cases c3 : 4000 < tx.size
    · have hd3 : decide ((4000 : Int) < (tx.size : Int)) = true := by simp; omega
      go_wp2_with fail
      go_ret
      exact ⟨⟨_, rfl⟩, HBEL.out⟩
    have hd3 : decide ((4000 : Int) < (tx.size : Int)) = false := by simp; omega
    go_wp2_with fail
    clear hd0 hd1 hd2 hd3
    go_loopw [5, 6] (fun vn vi wr => ∃ (n : Int) (k : Nat), vn = .int .i64 n ∧ vi = .int .i64 (k : Int) ∧ k ≤ kn ∧ wr = W1) (fun _ vi _ => kn - (intOf vi).toNat)
    case atStart => exact ⟨_, 0, rfl, rfl, Nat.zero_le _, rfl⟩
    case round =>
      obtain ⟨n, k, rfl, rfl, hk, hwr⟩ := hrel
      subst wr
      rcases (show k = kn ∨ k < kn by omega) with rfl | hlt
      · have hd : decide ((k : Int) < (k : Int)) = false := by simp
        go_wp2_with fail
        clear hd hr4
        go_loopw [5, 7] (fun vn vi wq => ∃ (n : Int) (j : Nat), vn = .int .i64 n ∧ vi = .int .i64 (j : Int) ∧ j ≤ ln ∧ Below W1.heap.size W1 wq) (fun _ vi _ => ln - (intOf vi).toNat)
        case atStart => exact ⟨_, 0, rfl, rfl, Nat.zero_le _, Below.refl _ _⟩
        case round =>
          obtain ⟨n2, j, rfl, rfl, hj, hbq⟩ := hrel
          have HBQ := Lib.hid hbq
          clear hbq
          have hr3q := below_cell HBQ.out hr3
          rcases (show j = ln ∨ j < ln by omega) with rfl | hlt
          · have hd : decide ((j : Int) < (j : Int)) = false := by simp
            go_wp2_with fail
            go_ret
            exact ⟨⟨_, rfl⟩, HBEL.out.trans (HBQ.out.mono HBEL.out.size)⟩
          · have hd : decide ((j : Int) < (ln : Int)) = true := by simp; omega
            have hd' : decide (j < ln) = true := by simp; omega
            by_cases hn : n2 < 100000
            · have hn' : decide (n2 < 100000) = true := by simp; omega
              obtain ⟨b, o, rfl, hc⟩ := HLS.out.resolve_left (by omega)
              obtain ⟨cs', hcs, hvt⟩ := hc j hlt
              obtain ⟨q0, q1, qt, QA, qn, qc, RA, rn, rc, hcs'⟩ : ∃ q0 q1 qt QA qn qc RA rn rc, cs' = valC q0 q1 qt (.slice QA qn qc) (.slice RA rn rc) := by
                cases m with
                | zero => obtain ⟨q0, q1, qt, QA, qn, qc, RA, rn, rc, h, _⟩ := hvt; exact ⟨q0, q1, qt, QA, qn, qc, RA, rn, rc, h⟩
                | succ m => obtain ⟨q0, q1, qt, QA, qn, qc, RA, rn, rc, h, _⟩ := hvt; exact ⟨q0, q1, qt, QA, qn, qc, RA, rn, rc, h⟩
              subst hcs'
              have hall := HW.out.trans (HBEL.out.mono HW.out.size)
              have hallq := hall.trans (HBQ.out.mono hall.size)
              have HC := Lib.hid (show ∀ i v, (valC q0 q1 qt (.slice QA qn qc) (.slice RA rn rc))[i]? = some v → wr.cell? ⟨b, o + j * 5 + i, none⟩ = some v from fun i v hi => below_cell hallq (hcs i v hi))
              have hpt := IH.out _ hvt wr hallq
              have HPT := Lib.hid hpt
              clear hc hcs hvt hall hallq hpt HKS
              go_wp2_with (first
                | (refine wpList_index_n rfl _ _ 87 85 5 rfl b o ln lc j rfl rfl hlt Try.underlying85 info87 ?_)
                | (refine wpList_load_at rfl 87 _ rfl b (o + j * 5) rfl (valC q0 q1 qt (.slice QA qn qc) (.slice RA rn rc)) _ HC.out Try.underlying87 rfl (by kernel_rfl) ?_))
              refine HPT.out.mono ?_
              rintro e wz ⟨⟨n3, rfl⟩, hbz⟩
              have HBZ := Lib.hid (HBQ.out.trans (hbz.mono HBQ.out.size))
              clear hbz hr3q HC HPT
              go_wp2_with fail
              go_roundw
              case rel => exact ⟨_, j + 1, rfl, rfl, by omega, HBZ.out⟩
              case measure => simp [intOf]; omega
            · have hn' : decide (n2 < 100000) = false := by simp; omega
              go_wp2_with fail
              go_ret
              exact ⟨⟨_, rfl⟩, HBEL.out.trans (HBQ.out.mono HBEL.out.size)⟩
      · have hd : decide ((k : Int) < (kn : Int)) = true := by simp; omega
        have hd' : decide (k < kn) = true := by simp; omega
        obtain ⟨b, o, rfl, hc⟩ := HKS.out.resolve_left (by omega)
        obtain ⟨s, hs⟩ := hc k hlt
        have hck := below_cell (HW.out.trans (HBEL.out.mono HW.out.size)) hs
        clear hc hs
        go_wp2_with fail
        go_roundw
        case rel => exact ⟨_, k + 1, rfl, rfl, by omega, trivial⟩
        case measure => simp [intOf]; omega
end Go.Proofs.Ytncjgfhipflokaa
