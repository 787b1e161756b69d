/-
  The methods of texts.
-/
import Derived.Test.YtncjgfhipflokaaOp
import Derived.Test.YtncjgfhipflokaaRows
import Derived.WalkKit
import Derived.ProofKit
import Derived.WalkLawsBesides
import Derived.WalkSpells
import Derived.BigQuiet
import Derived.Deep.QuietTactic
import Derived.Lib.Hide
import Derived.Lib.BufferRead
import Derived.Lib.SmallJoins
import Derived.Deep.DeepCutAuto
import Derived.Sort.KeysCollected
namespace Go.Proofs.Ytncjgfhipflokaa
open Go.RowKit Hp

/-- texts in a row that the call owns -/
def TX (w : World) (B : Nat) (v : Value) (ts : List S) : Prop := w.ownsRow B 9 1 v ts.length (ts.map encStr)
theorem TX.at_ {w : World} {B : Nat} {v : Value} {ts : List S} (h : TX w B v ts) (hp : 0 < ts.length) : ∃ g c cur, v = .slice (some ⟨g, 0, none⟩) ts.length c ∧ B ≤ g ∧ w.heap[g]? = some (.cells cur 9 (0, 0)) ∧ ts.length ≤ c ∧ c ≤ maxLen ∧ cur.size = c ∧ cur.toList.take ts.length = ts.map encStr ∧ ∀ k, k < ts.length → w.cell? ⟨g, k, none⟩ = some (encStr (at_ ts k)) := by
  rcases h.2 with ⟨_, h0⟩ | ⟨g, cap, cur, rfl, hb, hg, h1, h2, h3, h4⟩
  · omega
  · refine ⟨g, cap, cur, rfl, hb, hg, h1, h2, by omega, by simpa using h4, fun k hk => ?_⟩
    rw [cell_of_row w g k _ _ _ hg]
    have h5 : (cur.toList.take (ts.length * 1))[k]? = (ts.map encStr)[k]? := by rw [h4]
    rw [List.getElem?_take_of_lt (by omega)] at h5
    rw [← Array.getElem?_toList, h5, at_get hk]
    simp [hk]
theorem TX.shape {w : World} {B : Nat} {v : Value} {ts : List S} (h : TX w B v ts) : ∃ A c, v = .slice A ts.length c := by
  rcases h.2 with ⟨rfl, h0⟩ | ⟨g, cap, cur, rfl, _⟩
  · exact ⟨none, 0, by rw [h0]⟩
  · exact ⟨_, _, rfl⟩
theorem TX.below {A W : World} {B : Nat} {v : Value} {ts : List S} (h : TX A B v ts) (hb : Below A.heap.size A W) : TX W B v ts := own_below h hb
theorem bytesLess_eq : ∀ (x y : List UInt8), Op.bytesLess x y = decide (x < y)
  | _, [] => by simp [Op.bytesLess]
  | [], _ :: _ => by simp [Op.bytesLess]
  | a :: x, b :: y => by
    rw [Op.bytesLess, bytesLess_eq x y, Bool.eq_iff_iff]
    simp [List.cons_lt_cons_iff]
theorem ow_lss_str {Q : Exit → Act → World → Prop} {o : Oper} {a : Act} {w : World} {K : Act → World → Prop} (x y : Operand) (t : TypeId) (ho : o.op = .binOp .lss 9 x y t) (s u : S) (hx : a.eval x = encStr s) (hy : a.eval y = encStr u) (h : K (a.put o.dst (.bool (decide (s < u)))) w) : o.wp Try.prog a w K Q := by
  refine ow_value (v := .bool (decide (s < u))) ?_ h
  unfold execOp
  simp only [ho, hx, hy]
  have e : ∀ l : List UInt8, ByteArray.toList ⟨l.toArray⟩ = l := fun l => by simp
  simp [go_sem, e, bytesLess_eq]

theorem Len_any (w : World) (A : Option Addr) (n c : Nat) : Calls Try.prog 38 #[.slice A n c] w fun e w' => e = .returned (.int .i64 (n : Int)) ∧ w' = w := by
  go_enter Try.func38, Try.ntmps38
  go_wp2
  go_ret
  exact ⟨rfl, rfl⟩
theorem Less_any (w : World) (B : Nat) (v : Value) (ts : List S) (p q : Nat) (h : TX w B v ts) (hp : p < ts.length) (hq : q < ts.length) :
    Calls Try.prog 68 #[v, .int .i64 (p : Int), .int .i64 (q : Int)] w fun e w' => e = .returned (.bool (decide (at_ ts p < at_ ts q))) ∧ Below w.heap.size w w' := by
  obtain ⟨g, c, cur, rfl, hb, hg, _, _, _, _, hcell⟩ := h.at_ (by omega)
  have HC := Lib.hid hcell
  clear hcell hg h
  go_enter Try.func68, Try.ntmps68
  go_upto_region 1 with fail
  refine region_f 9 (fun i vs W => match i with
      | 0 => vs 0 = .slice (some ⟨g, 0, none⟩) ts.length c
      | 1 => vs 1 = .int .i64 (p : Int)
      | 2 => vs 2 = .pointer (some ⟨g, 0 + p, none⟩)
      | 3 => vs 3 = encStr (at_ ts p)
      | 4 => vs 4 = .slice (some ⟨g, 0, none⟩) ts.length c
      | 5 => vs 5 = .int .i64 (q : Int)
      | 6 => vs 6 = .pointer (some ⟨g, 0 + q, none⟩)
      | 7 => vs 7 = encStr (at_ ts q)
      | 8 => vs 8 = .bool (decide (at_ ts p < at_ ts q))
      | _ => True) (fun _ W W' => Below W.heap.size W W') (fun W => Below w.heap.size w W) (by kernel_rfl) (by kernel_rfl) ?hst1 ?h01 ?step1 ?fin1
  case hst1 =>
    intro i k vs W W' _ _ h hG
    match i, h with
    | 0, h => exact h
    | 1, h => exact h
    | 2, h => exact h
    | 3, h => exact h
    | 4, h => exact h
    | 5, h => exact h
    | 6, h => exact h
    | 7, h => exact h
    | 8, h => exact h
    | n + 9, _ => trivial
  case h01 => exact (Below.refl _ _).drew
  case step1 =>
    intro i op hi ho ac W hS hag hdep
    have hbr : Below W.heap.size W W := Below.refl _ _
    match i, hi, ho with
    | 0, _, rfl =>
      exact ow_move _ rfl (hag 0 rfl) ⟨_, rfl, fun vs' h _ => h (fun e => by cases e), hbr, hS⟩
    | 1, _, rfl =>
      exact ow_move _ rfl (hag 1 rfl) ⟨_, rfl, fun vs' h _ => h (fun e => by cases e), hbr, hS⟩
    | 2, _, rfl =>
      have h1 : ac.eval (.tmp 7) = .slice (some ⟨g, 0, none⟩) ts.length c := hdep 0 (by omega) (by kernel_rfl)
      have h2 : ac.eval (.tmp 8) = .int .i64 (p : Int) := hdep 1 (by omega) (by kernel_rfl)
      exact ow_index _ _ 9 77 rfl g 0 ts.length c p h1 h2 hp Try.underlying77 tag9 ⟨_, rfl, fun vs' h _ => h (fun e => by cases e), hbr, hS⟩
    | 3, _, rfl =>
      have h1 : ac.eval (.tmp 9) = .pointer (some ⟨g, 0 + p, none⟩) := hdep 2 (by omega) (by kernel_rfl)
      exact ow_load_str _ 9 rfl g (0 + p) h1 _ (by rw [Nat.zero_add]; exact cell_below hS (HC.out p hp)) Try.underlying9 ⟨_, rfl, fun vs' h _ => h (fun e => by cases e), hbr, hS⟩
    | 4, _, rfl =>
      exact ow_move _ rfl (hag 0 rfl) ⟨_, rfl, fun vs' h _ => h (fun e => by cases e), hbr, hS⟩
    | 5, _, rfl =>
      exact ow_move _ rfl (hag 2 rfl) ⟨_, rfl, fun vs' h _ => h (fun e => by cases e), hbr, hS⟩
    | 6, _, rfl =>
      have h1 : ac.eval (.tmp 11) = .slice (some ⟨g, 0, none⟩) ts.length c := hdep 4 (by omega) (by kernel_rfl)
      have h2 : ac.eval (.tmp 12) = .int .i64 (q : Int) := hdep 5 (by omega) (by kernel_rfl)
      exact ow_index _ _ 9 77 rfl g 0 ts.length c q h1 h2 hq Try.underlying77 tag9 ⟨_, rfl, fun vs' h _ => h (fun e => by cases e), hbr, hS⟩
    | 7, _, rfl =>
      have h1 : ac.eval (.tmp 13) = .pointer (some ⟨g, 0 + q, none⟩) := hdep 6 (by omega) (by kernel_rfl)
      exact ow_load_str _ 9 rfl g (0 + q) h1 _ (by rw [Nat.zero_add]; exact cell_below hS (HC.out q hq)) Try.underlying9 ⟨_, rfl, fun vs' h _ => h (fun e => by cases e), hbr, hS⟩
    | 8, _, rfl =>
      have h1 : ac.eval (.tmp 10) = encStr (at_ ts p) := hdep 3 (by omega) (by kernel_rfl)
      have h2 : ac.eval (.tmp 14) = encStr (at_ ts q) := hdep 7 (by omega) (by kernel_rfl)
      exact ow_lss_str _ _ 9 rfl _ _ h1 h2 ⟨_, rfl, fun vs' h _ => h (fun e => by cases e), hbr, hS⟩
    | n + 9, hi, _ => exact absurd hi (by omega)
  case fin1 =>
    intro vs W hS hF
    have e8 : vs 8 = .bool (decide (at_ ts p < at_ ts q)) := hF 8 (by omega)
    clear hF
    change wpList _ _ _ _ (Act.put (Act.put (Act.put (Act.put (Act.put (Act.put (Act.put (Act.put (Act.put _ (some 7) (vs 0)) (some 8) (vs 1)) (some 9) (vs 2)) (some 10) (vs 3)) (some 11) (vs 4)) (some 12) (vs 5)) (some 13) (vs 6)) (some 14) (vs 7)) (some 15) (vs 8)) W
    rw [e8]
    clear e8
    generalize vs 0 = z0
    generalize vs 1 = z1
    generalize vs 2 = z2
    generalize vs 3 = z3
    generalize vs 4 = z4
    generalize vs 5 = z5
    generalize vs 6 = z6
    generalize vs 7 = z7
    simp only [putAll, List.drop_succ_cons, List.drop_zero, Act.put, List.setIfInBounds_toArray, List.set_cons_zero, List.set_cons_succ]
    clear vs
    go_wp2_with fail
    go_ret
    exact ⟨rfl, hS⟩

theorem ow_store_str {Q : Exit → Act → World → Prop} {o : Oper} {a : Act} {w : World} {K : Act → World → Prop} (x y : Operand) (ho : o.op = .store 9 x y) (g k : Nat) (hx : a.eval x = .pointer (some ⟨g, k, none⟩)) (s : ByteArray) (hy : a.eval y = .string s) (u : Value) (hc : w.cell? ⟨g, k, none⟩ = some u) (hf : w.frozen? ⟨g, k, none⟩ = false)
    (h : K (a.put o.dst undef) (w.setCell ⟨g, k, none⟩ (.string s))) : o.wp Try.prog a w K Q := by
  unfold Oper.wp execOp
  simp only [ho, hx, hy, Instr.storeAt, Instr.sureAddr, Sem.run_bind, Sem.run_pure, Result.andThen_ok]
  simp [go_sem, hc, hf]
  exact h

theorem take_set2 (cur : Array Value) (ts : List S) (p q : Nat) (h : cur.toList.take ts.length = ts.map encStr) :
    ((cur.setIfInBounds p (encStr (at_ ts q))).setIfInBounds q (encStr (at_ ts p))).toList.take ts.length = (swapL ts p q).map encStr := by
  rw [Array.toList_setIfInBounds, Array.toList_setIfInBounds, List.take_set, List.take_set, h]
  simp [swapL, List.map_set]
theorem Swap_any (w : World) (B : Nat) (v : Value) (ts : List S) (p q : Nat) (h : TX w B v ts) (hp : p < ts.length) (hq : q < ts.length) :
    Calls Try.prog 71 #[v, .int .i64 (p : Int), .int .i64 (q : Int)] w fun e w' => e = .returned (.tuple #[]) ∧ TX w' B v (swapL ts p q) ∧ w.grownBy w' v.ownBlock := by
  obtain ⟨g, c, cur, rfl, hb, hg, hlc, hcm, hsz, htk, -⟩ := h.at_ (by omega)
  have HC := Lib.hid (show ∀ (_ : Act) (w1 : World), w1.heap[g]? = some (.cells cur 9 (0, 0)) → ∀ k, k < ts.length → w1.cell? ⟨g, k, none⟩ = some (encStr (at_ ts k)) from fun _ w1 h1 k hk => by
    rw [cell_of_row w1 g k _ _ _ h1]
    have h5 : (cur.toList.take ts.length)[k]? = (ts.map encStr)[k]? := by rw [htk]
    rw [List.getElem?_take_of_lt hk] at h5
    rw [← Array.getElem?_toList, h5, at_get hk]
    simp [hk])
  have HG := Lib.hid hg
  clear h hg
  go_enter Try.func71, Try.ntmps71
  refine region_f_p 14 (fun i vs W => match i with
      | 0 => vs 0 = .slice (some ⟨g, 0, none⟩) ts.length c
      | 1 => vs 1 = .int .i64 (p : Int)
      | 2 => vs 2 = .slice (some ⟨g, 0, none⟩) ts.length c
      | 3 => vs 3 = .int .i64 (q : Int)
      | 4 => vs 4 = .slice (some ⟨g, 0, none⟩) ts.length c
      | 5 => vs 5 = .int .i64 (q : Int)
      | 6 => vs 6 = .pointer (some ⟨g, 0 + q, none⟩)
      | 7 => vs 7 = encStr (at_ ts q)
      | 8 => vs 8 = .slice (some ⟨g, 0, none⟩) ts.length c
      | 9 => vs 9 = .int .i64 (p : Int)
      | 10 => vs 10 = .pointer (some ⟨g, 0 + p, none⟩)
      | 11 => vs 11 = encStr (at_ ts p)
      | 12 => vs 12 = .pointer (some ⟨g, 0 + p, none⟩)
      | 13 => W.heap[g]? = some (.cells (cur.setIfInBounds p (encStr (at_ ts q))) 9 (0, 0))
      | _ => True) (fun k W W' => k ≠ 13 → Below W.heap.size W W') (fun W => w.grownBy W (some g)) (fun j _ W => (j = 7 ∨ j = 11 ∨ j = 13) → W.heap[g]? = some (.cells cur 9 (0, 0))) (by kernel_rfl) (by kernel_rfl) ?hst ?h0 ?hp0 ?step ?fin
  case hst =>
    intro i k vs W W' hki _ h hG
    match i, h with
    | 0, h => exact h
    | 1, h => exact h
    | 2, h => exact h
    | 3, h => exact h
    | 4, h => exact h
    | 5, h => exact h
    | 6, h => exact h
    | 7, h => exact h
    | 8, h => exact h
    | 9, h => exact h
    | 10, h => exact h
    | 11, h => exact h
    | 12, h => exact h
    | 13, h => exact blk_below h (hG hki)
    | n + 14, _ => trivial
  case h0 => exact grown_drew (grown_refl _ _)
  case hp0 => exact fun _ _ _ => HG.out
  case step =>
   intro i op hi ho ac w1 hS hPd hag hdep
   have hbr : Below w1.heap.size w1 w1 := Below.refl _ _
   match i, hi, ho with
   | 0, _, rfl =>
     exact ow_move _ rfl (hag 0 rfl) ⟨_, rfl, fun vs' h _ => h (fun e => by cases e), fun _ => hbr, hS, fun _ _ _ _ h => h⟩
   | 1, _, rfl =>
     exact ow_move _ rfl (hag 1 rfl) ⟨_, rfl, fun vs' h _ => h (fun e => by cases e), fun _ => hbr, hS, fun _ _ _ _ h => h⟩
   | 2, _, rfl =>
     exact ow_move _ rfl (hag 0 rfl) ⟨_, rfl, fun vs' h _ => h (fun e => by cases e), fun _ => hbr, hS, fun _ _ _ _ h => h⟩
   | 3, _, rfl =>
     exact ow_move _ rfl (hag 2 rfl) ⟨_, rfl, fun vs' h _ => h (fun e => by cases e), fun _ => hbr, hS, fun _ _ _ _ h => h⟩
   | 4, _, rfl =>
     exact ow_move _ rfl (hag 0 rfl) ⟨_, rfl, fun vs' h _ => h (fun e => by cases e), fun _ => hbr, hS, fun _ _ _ _ h => h⟩
   | 5, _, rfl =>
     exact ow_move _ rfl (hag 2 rfl) ⟨_, rfl, fun vs' h _ => h (fun e => by cases e), fun _ => hbr, hS, fun _ _ _ _ h => h⟩
   | 6, _, rfl =>
     have h1 : ac.eval (.tmp 10) = .slice (some ⟨g, 0, none⟩) ts.length c := hdep 4 (by omega) (by kernel_rfl)
     have h2 : ac.eval (.tmp 11) = .int .i64 (q : Int) := hdep 5 (by omega) (by kernel_rfl)
     exact ow_index _ _ 9 77 rfl g 0 ts.length c q h1 h2 hq Try.underlying77 tag9 ⟨_, rfl, fun vs' h _ => h (fun e => by cases e), fun _ => hbr, hS, fun _ _ _ _ h => h⟩
   | 7, _, rfl =>
     have h1 : ac.eval (.tmp 12) = .pointer (some ⟨g, 0 + q, none⟩) := hdep 6 (by omega) (by kernel_rfl)
     have hrow := hPd (by decide)
     exact ow_load_str _ 9 rfl g (0 + q) h1 _ (by rw [Nat.zero_add]; exact HC.out ac w1 hrow q hq) Try.underlying9 ⟨_, rfl, fun vs' h _ => h (fun e => by cases e), fun _ => hbr, hS, fun _ _ _ _ h => h⟩
   | 8, _, rfl =>
     exact ow_move _ rfl (hag 0 rfl) ⟨_, rfl, fun vs' h _ => h (fun e => by cases e), fun _ => hbr, hS, fun _ _ _ _ h => h⟩
   | 9, _, rfl =>
     exact ow_move _ rfl (hag 1 rfl) ⟨_, rfl, fun vs' h _ => h (fun e => by cases e), fun _ => hbr, hS, fun _ _ _ _ h => h⟩
   | 10, _, rfl =>
     have h1 : ac.eval (.tmp 14) = .slice (some ⟨g, 0, none⟩) ts.length c := hdep 8 (by omega) (by kernel_rfl)
     have h2 : ac.eval (.tmp 15) = .int .i64 (p : Int) := hdep 9 (by omega) (by kernel_rfl)
     exact ow_index _ _ 9 77 rfl g 0 ts.length c p h1 h2 hp Try.underlying77 tag9 ⟨_, rfl, fun vs' h _ => h (fun e => by cases e), fun _ => hbr, hS, fun _ _ _ _ h => h⟩
   | 11, _, rfl =>
     have h1 : ac.eval (.tmp 16) = .pointer (some ⟨g, 0 + p, none⟩) := hdep 10 (by omega) (by kernel_rfl)
     have hrow := hPd (by decide)
     exact ow_load_str _ 9 rfl g (0 + p) h1 _ (by rw [Nat.zero_add]; exact HC.out ac w1 hrow p hp) Try.underlying9 ⟨_, rfl, fun vs' h _ => h (fun e => by cases e), fun _ => hbr, hS, fun _ _ _ _ h => h⟩
   | 12, _, rfl =>
     have h1 : ac.eval (.tmp 6) = .slice (some ⟨g, 0, none⟩) ts.length c := hdep 0 (by omega) (by kernel_rfl)
     have h2 : ac.eval (.tmp 7) = .int .i64 (p : Int) := hdep 1 (by omega) (by kernel_rfl)
     exact ow_index _ _ 9 77 rfl g 0 ts.length c p h1 h2 hp Try.underlying77 tag9 ⟨_, rfl, fun vs' h _ => h (fun e => by cases e), fun _ => hbr, hS, fun _ _ _ _ h => h⟩
   | 13, _, rfl =>
     have h1 : ac.eval (.tmp 18) = .pointer (some ⟨g, 0 + p, none⟩) := hdep 12 (by omega) (by kernel_rfl)
     have h2 : ac.eval (.tmp 13) = encStr (at_ ts q) := hdep 7 (by omega) (by kernel_rfl)
     have hrow := hPd (by decide)
     have hcv := HC.out ac w1 hrow p hp
     have hfz : w1.frozen? ⟨g, p, none⟩ = false := frozen_of_row w1 g _ _ _ hrow
     rw [Nat.zero_add] at h1
     refine ow_store_str _ _ rfl g p h1 _ h2 _ hcv hfz ⟨_, rfl, fun vs' _ _ => blk_setCell hrow _, fun h => absurd rfl h, grown_setCell hS _ _, fun j _ hj hdj hPj => ?_⟩
     intro hj3
     rcases hj3 with rfl | rfl | rfl
     · exact absurd (hdj.symm.trans (by kernel_rfl)) Bool.false_ne_true
     · exact absurd (hdj.symm.trans (by kernel_rfl)) Bool.false_ne_true
     · exact absurd rfl hj
   | n + 14, hi, _ => exact absurd hi (by omega)
  case fin =>
    intro vs W hS hF
    have e2 : vs 2 = .slice (some ⟨g, 0, none⟩) ts.length c := hF 2 (by omega)
    have e3 : vs 3 = .int .i64 (q : Int) := hF 3 (by omega)
    have e11 : vs 11 = encStr (at_ ts p) := hF 11 (by omega)
    have hrow : W.heap[g]? = some (.cells (cur.setIfInBounds p (encStr (at_ ts q))) 9 (0, 0)) := hF 13 (by omega)
    clear hF
    change wpList _ _ _ _ (Act.put (Act.put (Act.put (Act.put (Act.put (Act.put (Act.put (Act.put (Act.put (Act.put (Act.put (Act.put (Act.put (Act.put _ (some 6) (vs 0)) (some 7) (vs 1)) (some 8) (vs 2)) (some 9) (vs 3)) (some 10) (vs 4)) (some 11) (vs 5)) (some 12) (vs 6)) (some 13) (vs 7)) (some 14) (vs 8)) (some 15) (vs 9)) (some 16) (vs 10)) (some 17) (vs 11)) (some 18) (vs 12)) none (vs 13)) W
    rw [e2, e3, e11]
    clear e2 e3 e11
    generalize vs 0 = z0
    generalize vs 1 = z1
    generalize vs 4 = z4
    generalize vs 5 = z5
    generalize vs 6 = z6
    generalize vs 7 = z7
    generalize vs 8 = z8
    generalize vs 9 = z9
    generalize vs 10 = z10
    generalize vs 12 = z12
    generalize vs 13 = z13
    simp only [putAll, List.drop_succ_cons, List.drop_zero, Act.put, List.setIfInBounds_toArray, List.set_cons_zero, List.set_cons_succ]
    clear vs
    have hq2 : q < (cur.setIfInBounds p (encStr (at_ ts q))).size := by simp; omega
    have hcv : W.cell? ⟨g, q, none⟩ = some ((cur.setIfInBounds p (encStr (at_ ts q)))[q]) := by
      rw [cell_of_row W g q _ _ _ hrow]; exact Array.getElem?_eq_getElem hq2
    have hfz : W.frozen? ⟨g, q, none⟩ = false := frozen_of_row W g _ _ _ hrow
    have HROW := Lib.hid hrow
    have HS := Lib.hid hS
    obtain ⟨u, hu⟩ : ∃ u, u = (cur.setIfInBounds p (encStr (at_ ts q)))[q] := ⟨_, rfl⟩
    rw [← hu] at hcv
    obtain ⟨z, hz⟩ : ∃ z, z = at_ ts p := ⟨_, rfl⟩
    rw [← hz]
    have HZ := Lib.hid hz
    clear hrow hS hu hz
    go_wp2_with fail
    go_end0
    refine ⟨rfl, ⟨by simp [swap_length], .inr ⟨g, c, _, by rw [swap_length], hb, blk_setCell (i := q) HROW.out _, by rw [swap_length]; exact hlc, hcm, by simpa using hsz, ?_⟩⟩, grown_setCell HS.out _ _⟩
    rw [swap_length, Nat.mul_one, HZ.out]
    exact take_set2 cur ts p q htk
end Go.Proofs.Ytncjgfhipflokaa
