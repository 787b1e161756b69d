/-
  A heap of texts behind an interface: Push and Pop.
-/
import Derived.Test.YtncjgfhipflokaaGc
namespace Go.Proofs.Ytncjgfhipflokaa
open Go.RowKit Hp

theorem run_build77 (s : S) (w : World) : (Instr.buildSlice 77 1 #[(0, encStr s)]).run Try.prog w = .ok (.slice (some ⟨w.heap.size, 0, none⟩) 1 1) (w.alloc (.cells #[encStr s] 9)) := by kernel_rfl
theorem ow_build77 {Q : Exit → Act → World → Prop} {o : Oper} {a : Act} {w : World} {K : Act → World → Prop} (x : Operand) (ho : o.op = .buildSlice 77 1 #[(0, x)]) (s : S) (hx : a.eval x = encStr s) (h : K (a.put o.dst (.slice (some ⟨w.heap.size, 0, none⟩) 1 1)) (w.alloc (.cells #[encStr s] 9))) : o.wp Try.prog a w K Q := by
  refine ow_value' ?_ h
  unfold execOp
  simp only [ho, List.map_toArray, List.map_cons, List.map_nil, hx, Sem.run_bind, run_build77, Result.andThen_ok]
  rfl
theorem ow_assert9 {Q : Exit → Act → World → Prop} {o : Oper} {a : Act} {w : World} {K : Act → World → Prop} (x : Operand) (ho : o.op = .typeAssert x 20 9 false) (s : S) (hx : a.eval x = .iface 9 (encStr s)) (h : K (a.put o.dst (encStr s)) w) : o.wp Try.prog a w K Q := by
  refine ow_value (v := encStr s) ?_ h
  unfold execOp
  simp only [ho, hx]
  kernel_rfl
theorem own_lt {w : World} {B : Nat} {v : Value} {ts : List S} (h : TX w B v ts) : ∀ k, v.ownBlock = some k → k < w.heap.size := by
  intro k e
  rcases h.2 with ⟨rfl, _⟩ | ⟨g, cap, cur, rfl, _, hg, _⟩
  · cases e
  · have : g = k := by simpa [Value.ownBlock] using e
    rw [← this]; exact blk_lt hg

set_option maxHeartbeats 1000000 in
set_option maxRecDepth 4000 in
theorem PushM_any (B p : Nat) (X : Nat → Prop) (ts : List S) (s : S) (w : World) (h : HT w B X p ts) (hX2 : ∀ k, w.heap.size ≤ k → X k) (hl : ts.length ≤ 100000) :
    Calls Try.prog 70 #[.pointer (some ⟨p, 0, none⟩), .iface 9 (encStr s)] w fun e w' => e = .returned (.tuple #[]) ∧ HT w' B X p (ts ++ [s]) ∧ Fr X p w w' := by
  obtain ⟨hle, v, hrow, htx, hX⟩ := h
  obtain ⟨A, c, rfl⟩ := htx.shape
  have HT0 := Lib.hid htx
  have HR0 := Lib.hid hrow
  have hplt : p < w.heap.size := blk_lt hrow
  obtain ⟨i0, hi0, hz0, hz1, hz2⟩ := info_parts info9
  have HI0 := Lib.hid hi0
  have HZ0 := Lib.hid hz0
  have HZ1 := Lib.hid hz1
  have HZ2 := Lib.hid hz2
  clear hi0 hz0 hz1 hz2 htx hrow
  go_enter Try.func70, Try.ntmps70
  refine region_f_p 8 (fun i vs W => match i with
      | 0 => vs 0 = .pointer (some ⟨p, 0, none⟩)
      | 1 => vs 1 = .pointer (some ⟨p, 0, none⟩)
      | 2 => vs 2 = .pointer (some ⟨p, 0, none⟩)
      | 3 => vs 3 = .slice A ts.length c
      | 4 => vs 4 = .iface 9 (encStr s)
      | 5 => vs 5 = encStr s
      | 6 => ∃ y, vs 6 = .slice (some ⟨y, 0, none⟩) 1 1 ∧ w.heap.size ≤ y ∧ W.heap[y]? = some (.cells #[encStr s] 9 (0, 0))
      | 7 => TX W B (vs 7) (ts ++ [s]) ∧ ∀ k, (vs 7).ownBlock = some k → X k
      | _ => True) (fun k W W' => (k ≠ 7 → Below W.heap.size W W') ∧ (k = 7 → W.grownBy W' (Value.slice A ts.length c).ownBlock)) (fun W => w.grownBy W (Value.slice A ts.length c).ownBlock) (fun j _ W => j = 7 → Below w.heap.size w W) (by kernel_rfl) (by kernel_rfl) ?hst ?h0 ?hp0 ?step ?fin
  case hst =>
    intro i k vs W W' hki _ h hG
    match i, h with
    | 0, h => exact h
    | 1, h => exact h
    | 2, h => exact h
    | 3, h => exact h
    | 4, h => exact h
    | 5, h => exact h
    | 6, ⟨y, e1, e2, e3⟩ =>
      by_cases hk : k = 7
      · exact ⟨y, e1, e2, blk_grown e3 (hG.2 hk) (fun e => by have := own_lt HT0.out y e.symm; omega)⟩
      · exact ⟨y, e1, e2, blk_below e3 (hG.1 hk)⟩
    | 7, h => exact ⟨TX.below h.1 (hG.1 hki), h.2⟩
    | n + 8, _ => trivial
  case h0 => exact grown_drew (grown_refl _ _)
  case hp0 => exact fun _ _ _ => (Below.refl _ _).drew
  case step =>
    intro i op hi ho ac W hS hPd hag hdep
    have hbr : Below W.heap.size W W := Below.refl _ _
    have hrowW := own_keep HT0.out hS HR0.out (by decide)
    match i, hi, ho with
    | 0, _, rfl => exact ow_move _ rfl (hag 0 rfl) ⟨_, rfl, fun vs' h _ => h (fun e => by cases e), ⟨fun _ => hbr, fun h => absurd h (by decide)⟩, hS, fun _ _ _ _ h => h⟩
    | 1, _, rfl => exact ow_move _ rfl (hag 0 rfl) ⟨_, rfl, fun vs' h _ => h (fun e => by cases e), ⟨fun _ => hbr, fun h => absurd h (by decide)⟩, hS, fun _ _ _ _ h => h⟩
    | 2, _, rfl =>
      have h1 : ac.eval (.tmp 5) = .pointer (some ⟨p, 0, none⟩) := hdep 1 (by omega) (by kernel_rfl)
      exact ow_nilCheck _ rfl _ h1 ⟨_, rfl, fun vs' h _ => h (fun e => by cases e), ⟨fun _ => hbr, fun h => absurd h (by decide)⟩, hS, fun _ _ _ _ h => h⟩
    | 3, _, rfl =>
      have h1 : ac.eval (.tmp 6) = .pointer (some ⟨p, 0, none⟩) := hdep 2 (by omega) (by kernel_rfl)
      exact ow_load_slice' _ 9 77 rfl p 0 h1 A ts.length c (row_cell hrowW) Try.underlying77 ⟨_, rfl, fun vs' h _ => h (fun e => by cases e), ⟨fun _ => hbr, fun h => absurd h (by decide)⟩, hS, fun _ _ _ _ h => h⟩
    | 4, _, rfl => exact ow_move _ rfl (hag 1 rfl) ⟨_, rfl, fun vs' h _ => h (fun e => by cases e), ⟨fun _ => hbr, fun h => absurd h (by decide)⟩, hS, fun _ _ _ _ h => h⟩
    | 5, _, rfl =>
      have h1 : ac.eval (.tmp 8) = .iface 9 (encStr s) := hdep 4 (by omega) (by kernel_rfl)
      exact ow_assert9 _ rfl s h1 ⟨_, rfl, fun vs' h _ => h (fun e => by cases e), ⟨fun _ => hbr, fun h => absurd h (by decide)⟩, hS, fun _ _ _ _ h => h⟩
    | 6, _, rfl =>
      have h1 : ac.eval (.tmp 9) = encStr s := hdep 5 (by omega) (by kernel_rfl)
      have hba := below_alloc1 W (.cells #[encStr s] 9)
      exact ow_build77 _ rfl s h1 ⟨_, rfl, fun vs' h _ => ⟨_, h (fun e => by cases e), hS.size, World.alloc_heap_new W _⟩, ⟨fun _ => hba, fun h => absurd h (by decide)⟩, grown_alloc hS _, fun j _ _ _ h e => (h e).trans (hba.mono hS.size)⟩
    | 7, _, rfl =>
      have h1 : ac.eval (.tmp 7) = .slice A ts.length c := hdep 3 (by omega) (by kernel_rfl)
      obtain ⟨y, h2, h2b, h2c⟩ := hdep 6 (by omega) (by kernel_rfl)
      have h2 : ac.eval (.tmp 10) = .slice (some ⟨y, 0, none⟩) 1 1 := h2
      have htW := HT0.out.below (hPd rfl)
      refine wp_append_src W (.tmp 7) (.tmp 10) 77 rfl B 9 i0 (.string ⟨#[]⟩) 16 Try.underlying77 HI0.out HZ0.out HZ1.out HZ2.out rfl _ ts.length (ts.map encStr) h1 htW (some ⟨y, 0, none⟩) 1 1 [encStr s] h2 rfl (by simp) (one_cell h2c) (by intro u hu; rw [List.mem_singleton.1 hu]; rfl) (by unfold maxLen; omega) (by omega) (by have := hS.size; omega) (fun v' w' hown' hgr hat => ?_)
      exact ⟨_, rfl, fun vs' h _ => by
        rw [h (fun e => by cases e)]
        refine ⟨by unfold TX; simpa using hown', fun k hk => ?_⟩
        rcases hat with hat | hat
        · exact hX k (by rw [← hat]; exact hk)
        · rw [hat] at hk
          injection hk with hk
          exact hX2 k (by have := hS.size; omega), ⟨fun h => absurd rfl h, fun _ => hgr⟩, hS.trans hgr, fun j _ hj _ _ e => absurd e hj⟩
    | n + 8, hi, _ => exact absurd hi (by omega)
  case fin =>
    intro vs W hS hF
    have e0 : vs 0 = .pointer (some ⟨p, 0, none⟩) := hF 0 (by omega)
    have t7 : TX W B (vs 7) (ts ++ [s]) ∧ ∀ k, (vs 7).ownBlock = some k → X k := hF 7 (by omega)
    obtain ⟨t7, hX7⟩ := t7
    clear hF
    change wpList _ _ _ _ (Act.put (Act.put (Act.put (Act.put (Act.put (Act.put (Act.put (Act.put _ (some 4) (vs 0)) (some 5) (vs 1)) (some 6) (vs 2)) (some 7) (vs 3)) (some 8) (vs 4)) (some 9) (vs 5)) (some 10) (vs 6)) (some 11) (vs 7)) W
    rw [e0]
    clear e0
    generalize vs 1 = z1
    generalize vs 2 = z2
    generalize vs 3 = z3
    generalize vs 4 = z4
    generalize vs 5 = z5
    generalize vs 6 = z6
    generalize vs 7 = z7 at t7 hX7 ⊢
    simp only [putAll, List.drop_succ_cons, List.drop_zero, Act.put, List.setIfInBounds_toArray, List.set_cons_zero, List.set_cons_succ]
    clear vs
    have hrowW := own_keep HT0.out hS HR0.out (by decide)
    obtain ⟨A', c', rfl⟩ := t7.shape
    have hlen : (ts ++ [s]).length = ts.length + 1 := by simp
    rw [hlen] at t7 hX7 ⊢
    have hcv := row_cell hrowW
    have hfz : W.frozen? ⟨p, 0, none⟩ = false := frozen_of_row W p _ _ _ hrowW
    have HS := Lib.hid hS
    have HRW := Lib.hid hrowW
    have HT7 := Lib.hid t7
    clear hS hrowW t7
    go_wp2_with fail
    go_end0
    have hset := blk_setCell (i := 0) HRW.out (.slice A' (ts.length + 1) c')
    refine ⟨rfl, ⟨hle, _, hset, own_move HT7.out (fun k cs _ h0 => blk_grown h0 (grown_setCell (grown_refl W (some p)) _ _) (fun e => ?_)), hX7⟩, (Fr.of_own HT0.out hX HS.out).trans (Fr.of_p (grown_setCell (grown_refl _ _) _ _))⟩
    injection e with e
    subst e
    rw [HRW.out] at h0
    injection h0 with h0
    injection h0 with _ h0
    cases h0

set_option maxRecDepth 4000 in
theorem hpush_any (B p : Nat) (X : Nat → Prop) (ts : List S) (s : S) (w : World) (h : HT w B X p ts) (hX2 : ∀ k, w.heap.size ≤ k → X k) (hh : HP ts ts.length) (hl : ts.length < 100000) :
    Calls Try.prog 37 #[.iface 76 (.pointer (some ⟨p, 0, none⟩)), .iface 9 (encStr s)] w fun e w' => e = .returned (.tuple #[]) ∧ ∃ ts', ts'.Perm (ts ++ [s]) ∧ HP ts' ts'.length ∧ HT w' B X p ts' ∧ Fr X p w w' := by
  have HH := Lib.hid h
  have HHP := Lib.hid hh
  clear h hh
  have hm := meth_Push p w
  go_enter Try.func37, Try.ntmps37
  go_wp2_with fail
  refine (PushM_any B p X ts s w HH.out hX2 (by omega)).mono ?_
  rintro e w1 ⟨rfl, h1, hf1⟩
  have H1 := Lib.hid h1
  have HF1 := Lib.hid hf1
  obtain ⟨v, hrow, htx, _⟩ := h1.at_
  obtain ⟨A, c, rfl⟩ := htx.shape
  have hml := meth_Len (row_cell hrow)
  clear h1 hf1 hm hrow htx
  go_wp2_with fail
  refine (Len_any w1 A _ c).mono ?_
  rintro e w2 ⟨rfl, rfl⟩
  have hl1 : ((ts ++ [s]).length : Int) - 1 = (ts.length : Int) := by simp
  have hl2 : (ts.length : Int) + 1 - 1 = (ts.length : Int) := by omega
  clear hml
  go_wp2_with fail
  refine (up_any B p X (ts ++ [s]) ts.length w2 H1.out (by have := UpI.start HHP.out s; simpa using this) (by simp) (by simp; omega)).mono ?_
  rintro e w3 ⟨rfl, ts', hp', hh', ht', hf'⟩
  have HX := Lib.hid (show ∃ ts', ts'.Perm (ts ++ [s]) ∧ HP ts' ts'.length ∧ HT w3 B X p ts' ∧ Fr X p w w3 from ⟨ts', hp', hh', ht', HF1.out.trans hf'⟩)
  clear hp' hh' ht' hf'
  go_wp2_with fail
  go_end0
  exact ⟨rfl, HX.out⟩
end Go.Proofs.Ytncjgfhipflokaa
