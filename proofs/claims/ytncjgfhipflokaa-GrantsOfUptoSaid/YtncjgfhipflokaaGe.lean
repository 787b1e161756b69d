/-
  A heap of texts behind an interface: Pop.
-/
import Derived.Test.YtncjgfhipflokaaGd
namespace Go.Proofs.Ytncjgfhipflokaa
open Go.RowKit Hp

theorem wpList_slice_to77 {Q : Exit → Act → World → Prop} {o : Oper} {a : Act} {w : World} {ops : Array Oper} {rest : List Oper} (hgd : o.guard = none) (x y : Operand) (ho : o.op = .slice 77 x none (some y) none) (g m c n : Nat) (hx : a.eval x = .slice (some ⟨g, 0, none⟩) m c) (hy : a.eval y = .int .i64 (n : Int)) (hn : n ≤ c) (hc : 0 < c)
    (h : wpList Try.prog ops Q rest (a.put o.dst (.slice (some ⟨g, 0, none⟩) n c)) w) : wpList Try.prog ops Q (o :: rest) a w := by
  refine wpList_plain hgd fun K hK => ow_value (v := .slice (some ⟨g, 0, none⟩) n c) ?_ (hK _ _ h)
  obtain ⟨i, hi1, hi2⟩ := Option.map_eq_some_iff.1 tag9
  unfold execOp
  simp only [ho, hx, hy, Sem.run_bind, Option.map_some, Option.map_none]
  have h4 : ¬ c = 0 := by omega
  simp [go_sem, Try.underlying77, hn, h4, sizeOf, typeInfo, Sem.run_bind, hi1, hi2]

set_option maxRecDepth 4000 in
theorem PopM_any (B p : Nat) (X : Nat → Prop) (ts : List S) (s : S) (w : World) (h : HT w B X p (ts ++ [s])) (hl : ts.length ≤ 100000) :
    Calls Try.prog 69 #[.pointer (some ⟨p, 0, none⟩)] w fun e w' => e = .returned (.iface 9 (encStr s)) ∧ HT w' B X p ts ∧ Fr X p w w' := by
  obtain ⟨hle, v, hrow, htx, hX⟩ := h
  obtain ⟨g, c, cur, rfl, hb, hg, hlc, hcm, hsz, htk, hcell⟩ := htx.at_ (by simp)
  have hlen : (ts ++ [s]).length = ts.length + 1 := by simp
  have hcv := hcell ts.length (by rw [hlen]; omega)
  have hat : at_ (ts ++ [s]) ts.length = s := by simp [Hp.at_, List.getD_eq_getElem?_getD]
  rw [hat] at hcv
  rw [hlen] at hrow hlc htk
  have hcp := row_cell hrow
  have hfp : w.frozen? ⟨p, 0, none⟩ = false := frozen_of_row w p _ _ _ hrow
  have HR0 := Lib.hid hrow
  have HG0 := Lib.hid hg
  have HTK := Lib.hid htk
  have hsz' : c = cur.size := hsz.symm
  have HSZ := Lib.hid hsz'
  clear hcell hat hlen hg htk htx hsz hsz' hrow
  have hl1 : (ts.length : Int) + 1 - 1 = (ts.length : Int) := by omega
  go_enter Try.func69, Try.ntmps69
  go_wp2_with (refine wpList_slice_to77 rfl _ _ rfl g (ts.length + 1) c ts.length rfl rfl (by omega) (by omega) ?_)
  go_ret
  have hset := blk_setCell (i := 0) HR0.out (.slice (some ⟨g, 0, none⟩) ts.length c)
  have hgr : w.grownBy (w.setCell ⟨p, 0, none⟩ (.slice (some ⟨g, 0, none⟩) ts.length c)) (some p) := grown_setCell (grown_refl _ _) _ _
  have hgne : g ≠ p := by
    rintro rfl
    have h1 := HG0.out
    rw [HR0.out] at h1
    injection h1 with h1
    injection h1 with _ h1
    cases h1
  refine ⟨rfl, ⟨hle, _, hset, ⟨by simp, .inr ⟨g, c, cur, rfl, hb, blk_grown HG0.out hgr (fun e => by injection e with e; exact hgne e), by omega, hcm, by rw [← HSZ.out]; omega, ?_⟩⟩, fun k e => hX k e⟩, Fr.of_p hgr⟩
  have h5 := congrArg (List.take ts.length) HTK.out
  rw [List.take_take, Nat.min_eq_left (by omega)] at h5
  rw [Nat.mul_one, h5]
  simp

theorem mem_at {l : List S} {y : S} (h : y ∈ l) : ∃ k, k < l.length ∧ Hp.at_ l k = y := by
  obtain ⟨k, hk, rfl⟩ := List.getElem_of_mem h
  exact ⟨k, hk, at_get hk⟩
theorem take_last {l : List S} {n : Nat} (h : l.length = n + 1) : l = l.take n ++ [Hp.at_ l n] := by
  rw [at_get (by omega : n < l.length)]
  apply List.ext_getElem (by simp; omega)
  intro k h1 h2
  by_cases hk : k < n
  · rw [List.getElem_append_left (by simp; omega)]; simp
  · have : k = n := by omega
    subst this
    rw [List.getElem_append_right (by simp; omega)]; simp

set_option maxHeartbeats 1000000 in
set_option maxRecDepth 4000 in
theorem hpop_any (B p : Nat) (X : Nat → Prop) (ts : List S) (w : World) (h : HT w B X p ts) (hh : HP ts ts.length) (hp : 0 < ts.length) (hl : ts.length ≤ 100000) :
    Calls Try.prog 39 #[.iface 76 (.pointer (some ⟨p, 0, none⟩))] w fun e w' => ∃ x ts', e = .returned (.iface 9 (encStr x)) ∧ (x :: ts').Perm ts ∧ HP ts' ts'.length ∧ (∀ y ∈ ts', x ≤ y) ∧ HT w' B X p ts' ∧ Fr X p w w' := by
  have HH := Lib.hid h
  have HHP := Lib.hid hh
  obtain ⟨v, hrow, htx, hX⟩ := h.at_
  obtain ⟨A, c, rfl⟩ := htx.shape
  have hml := meth_Len (row_cell hrow)
  have hms := meth_Swap (row_cell hrow)
  have HT0 := Lib.hid htx
  have HR0 := Lib.hid hrow
  clear h hh htx hrow
  obtain ⟨n, hn⟩ : ∃ n, ts.length = n + 1 := ⟨ts.length - 1, by omega⟩
  have hl1 : (ts.length : Int) - 1 = (n : Int) := by omega
  have HN := Lib.hid hn
  clear hn
  go_enter Try.func39, Try.ntmps39
  go_wp2_with fail
  refine (Len_any w A _ c).mono ?_
  rintro e w1 ⟨rfl, rfl⟩
  clear hml
  go_wp2_with fail
  refine (Swap_any w1 B _ ts 0 n HT0.out hp (by rw [HN.out]; omega)).mono ?_
  rintro e w2 ⟨rfl, htx2, hgr⟩
  have HH2 := Lib.hid (HT.own hX HH.out.le HR0.out HT0.out htx2 hgr)
  have HF2 := Lib.hid (Fr.of_own (p := p) HT0.out hX hgr)
  clear htx2 hgr hms hl1
  go_wp2_with fail
  refine (down_any B p X (swapL ts 0 n) n w2 HH2.out (DnI.start (by rw [← HN.out]; exact HHP.out) HN.out) (by rw [swap_length, HN.out]; omega) (by rw [swap_length]; exact hl)).mono ?_
  rintro e w3 ⟨b, us, rfl, hpm, hhp, hk, hht, hf⟩
  have hul : us.length = n + 1 := by rw [hpm.length_eq, swap_length, HN.out]
  have hlast : Hp.at_ us n = Hp.at_ ts 0 := by
    rw [hk n (Nat.le_refl _), at_swap ts 0 n n hp (by rw [HN.out]; omega), if_pos rfl]
  have htl := take_last hul
  rw [hlast] at htl
  rw [htl] at hht
  have hperm : (Hp.at_ ts 0 :: us.take n).Perm ts := by
    have h1 : (Hp.at_ ts 0 :: us.take n).Perm us := by
      have h2 : (us.take n ++ [Hp.at_ ts 0]).Perm us := by rw [← htl]
      exact (List.perm_append_comm (l₁ := [Hp.at_ ts 0]) (l₂ := us.take n)).trans h2
    exact (h1.trans hpm).trans (swap_perm ts 0 n hp (by rw [HN.out]; omega))
  have HX := Lib.hid (show (Hp.at_ ts 0 :: us.take n).Perm ts ∧ HP (us.take n) (us.take n).length ∧ ∀ y ∈ us.take n, Hp.at_ ts 0 ≤ y from ⟨hperm, by
    have hln : (us.take n).length = n := by simp; omega
    rw [hln]; exact hhp.take, fun y hy => by
    obtain ⟨k, hk1, rfl⟩ := mem_at (hperm.mem_iff.1 (List.mem_cons_of_mem _ hy))
    exact HHP.out.min k hk1⟩)
  have HH3 := Lib.hid hht
  have HF3 := Lib.hid (HF2.out.trans hf)
  clear hpm hhp hk hht hf hul hlast htl hperm
  have hmp := meth_Pop p w3
  go_wp2_with fail
  refine (PopM_any B p X (us.take n) (Hp.at_ ts 0) w3 HH3.out (by have := HN.out; simp; omega)).mono ?_
  rintro e w4 ⟨rfl, hht, hf⟩
  have HH4 := Lib.hid hht
  have HF4 := Lib.hid (HF3.out.trans hf)
  clear hht hf hmp
  go_wp2_with fail
  go_ret
  exact ⟨_, _, rfl, HX.out.1, HX.out.2.1, HX.out.2.2, HH4.out, HF4.out⟩
end Go.Proofs.Ytncjgfhipflokaa
