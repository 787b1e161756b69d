/-
  slices.DeleteFunc.
-/
import Derived.Test.YtncjgfhipflokaaSg
namespace Go.Proofs.Ytncjgfhipflokaa
open Go.RowKit Go.Shelf Hp Go.Maps

theorem TX.set {w : World} {B g c i : Nat} {ys : List S} (h : TX w B (.slice (some ⟨g, 0, none⟩) ys.length c) ys) (x : S) : TX (w.setCell ⟨g, i, none⟩ (encStr x)) B (.slice (some ⟨g, 0, none⟩) (ys.set i x).length c) (ys.set i x) ∧ w.grownBy (w.setCell ⟨g, i, none⟩ (encStr x)) (some g) := by
  refine ⟨⟨by simp, ?_⟩, grown_setCell (grown_refl _ _) _ _⟩
  rcases h.2 with ⟨h1, _⟩ | ⟨g', cap, cur, h1, h2, h3, h4, h5, h6, h7⟩
  · cases h1
  · injection h1 with h1 _ h1'
    injection h1 with h1
    injection h1 with h1
    subst h1 h1'
    refine .inr ⟨g, c, _, by simp, h2, blk_setCell h3 _, by simpa using h4, h5, by simpa using h6, ?_⟩
    rw [Array.toList_setIfInBounds, List.take_set, List.length_set, h7]
    simp [List.map_set]
theorem DelAt.kept {w w' : World} {p B : Nat} {v : Value} {ks l : List S} (h : DelAt w p ks) (ht : TX w B v l) (hg : w.grownBy w' v.ownBlock) : DelAt w' p ks := by
  obtain ⟨b, n, D, h1, h2, h3⟩ := h
  refine ⟨b, n, D, own_keep ht hg h1 (by decide), h2.kept hg (fun e => ?_), h3⟩
  obtain ⟨es, c, h4, _⟩ := h2
  rcases ht.2 with ⟨rfl, _⟩ | ⟨g, cap, cur, rfl, _, hgb, _⟩
  · cases e
  · have : b = g := by injection e
    subst this
    rw [h4] at hgb
    cases hgb
theorem blk_setCells {g : Nat} {t : TypeId} : ∀ (vs : List Value) (o : Nat) (w : World) (cs : Array Value), w.heap[g]? = some (.cells cs t (0, 0)) → ∃ cs', (w.setCells g o vs).heap[g]? = some (.cells cs' t (0, 0)) ∧ cs'.size = cs.size ∧ cs'.toList.take o = cs.toList.take o ∧ w.grownBy (w.setCells g o vs) (some g)
  | [], o, w, cs, h => ⟨cs, h, rfl, rfl, grown_refl _ _⟩
  | v :: vs, o, w, cs, h => by
    obtain ⟨cs', h1, h2, h3, h4⟩ := blk_setCells vs (o + 1) _ _ (blk_setCell (i := o) h v)
    refine ⟨cs', h1, by simpa using h2, ?_, (grown_setCell (grown_refl w (some g)) o v).trans h4⟩
    have h5 := congrArg (List.take o) h3
    rw [List.take_take, Nat.min_eq_left (by omega), Array.toList_setIfInBounds, List.take_take, Nat.min_eq_left (by omega), List.take_set_of_le (Nat.le_refl _)] at h5
    exact h5
theorem wpList_slice_from35 {Q : Exit → Act → World → Prop} {o : Oper} {a : Act} {w : World} {ops : Array Oper} {rest : List Oper} (hgd : o.guard = none) (x y : Operand) (ho : o.op = .slice 35 x (some y) none none) (g m c n : Nat) (hx : a.eval x = .slice (some ⟨g, 0, none⟩) m c) (hy : a.eval y = .int .i64 (n : Int)) (hn : n < m) (hm : m ≤ c)
    (h : wpList Try.prog ops Q rest (a.put o.dst (.slice (some ⟨g, n, none⟩) (m - n) (c - n))) w) : wpList Try.prog ops Q (o :: rest) a w := by
  refine wpList_plain hgd fun K hK => ow_value (v := .slice (some ⟨g, n, none⟩) (m - n) (c - n)) ?_ (hK _ _ h)
  obtain ⟨i, hi1, hi2⟩ := Option.map_eq_some_iff.1 tag9
  unfold execOp
  simp only [ho, hx, hy, Sem.run_bind, Option.map_some, Option.map_none]
  have h1 : n ≤ m := by omega
  have h3 : ¬ c = n := by omega
  simp [go_sem, Try.underlying35, h1, h3, sizeOf, typeInfo, Sem.run_bind, hi1, hi2, add_plain]
theorem wpList_slice_to35 {Q : Exit → Act → World → Prop} {o : Oper} {a : Act} {w : World} {ops : Array Oper} {rest : List Oper} (hgd : o.guard = none) (x y : Operand) (ho : o.op = .slice 35 x none (some y) none) (g m c n : Nat) (hx : a.eval x = .slice (some ⟨g, 0, none⟩) m c) (hy : a.eval y = .int .i64 (n : Int)) (hn : n ≤ c) (hc : 0 < c)
    (h : wpList Try.prog ops Q rest (a.put o.dst (.slice (some ⟨g, 0, none⟩) n c)) w) : wpList Try.prog ops Q (o :: rest) a w := by
  refine wpList_plain hgd fun K hK => ow_value (v := .slice (some ⟨g, 0, none⟩) n c) ?_ (hK _ _ h)
  obtain ⟨i, hi1, hi2⟩ := Option.map_eq_some_iff.1 tag9
  unfold execOp
  simp only [ho, hx, hy, Sem.run_bind, Option.map_some, Option.map_none]
  have h4 : ¬ c = 0 := by omega
  simp [go_sem, Try.underlying35, hn, h4, sizeOf, typeInfo, Sem.run_bind, hi1, hi2]
theorem zero9 (w : World) : (zeroValue 9).run Try.prog w = .ok (.string ⟨#[]⟩) w := by kernel_rfl

set_option maxHeartbeats 2000000 in
set_option maxRecDepth 4000 in
theorem delete_any (p B : Nat) (ks : List S) (v : Value) (l : List S) (w : World) (h : DelAt w p ks) (ht : TX w B v l) (hl : l.length ≤ 99999) (hm : ∀ c ∈ l, c.length ≤ maxLen) :
    Calls Try.prog 33 #[v, delF p] w fun e w' => ∃ v', e = .returned v' ∧ TX w' B v' (kp ks l) ∧ w.grownBy w' v.ownBlock := by
  have eg : ∀ args w, (callFunc 35 args).run Try.prog w = .ok (.enter 35 args) w := enters_of Try.func35 (by kernel_rfl) rfl
  obtain ⟨A, c, rfl⟩ := ht.shape
  have H := Lib.hid h
  have HT := Lib.hid ht
  have HM := Lib.hid hm
  have hix := index_any p B ks _ l w h ht hl hm
  have HIX := Lib.hid hix
  clear h ht hm hix
  go_enter Try.func33, Try.ntmps33
  go_wp2_with fail
  refine HIX.out.mono ?_
  rintro e w1 ⟨rfl, hix⟩
  clear HIX
  rcases hix with ⟨rfl, hall⟩ | ⟨i, hi, rfl, hkp⟩
  · have HALL := Lib.hid hall
    clear hall
    go_wp2_with fail
    go_ret
    exact ⟨_, rfl, by rw [HALL.out]; exact HT.out, grown_refl _ _⟩
  · have HKP := Lib.hid hkp
    clear hkp
    obtain ⟨g, c', cur, e, hb, hg, hlc, hcm, hcs, htk, hcell⟩ := HT.out.at_ (by omega)
    injection e with e1 e2 e3
    subst e1 e3
    clear hcell htk hg hcs e2
    have hne : ((i : Int) == -1) = false := by simp
    go_wp2_with fail
    go_loopw [5, 6] (fun vi vj wr => ∃ (i j : Nat) (ys : List S), vi = .int .i64 (i : Int) ∧ vj = .int .i64 (j : Int) ∧ i < j ∧ j ≤ l.length ∧ ys.length = l.length ∧ TX wr B (.slice (some ⟨g, 0, none⟩) ys.length c) ys ∧ ys.take i = kp ks (l.take j) ∧ ys.drop j = l.drop j ∧ w1.grownBy wr (some g)) (fun _ vj _ => l.length - (intOf vj).toNat)
    case atStart => exact ⟨i, i + 1, l, rfl, rfl, by omega, by omega, rfl, HT.out, HKP.out.symm, rfl, grown_refl _ _⟩
    case round =>
      clear HKP hi hne
      obtain ⟨i, j, ys, rfl, rfl, hij, hjl, hyl, hty, hyt, hyd, hgr⟩ := hrel
      have HTY := Lib.hid hty
      have HYT := Lib.hid hyt
      have HYD := Lib.hid hyd
      have HGR := Lib.hid hgr
      have HYL := Lib.hid hyl
      have hdel := H.out.kept HT.out hgr
      have HDEL := Lib.hid hdel
      obtain ⟨_, _, cur, e, _, hg, hlc', _, hcs, htk, hcell⟩ := hty.at_ (by omega)
      have HTK := Lib.hid htk
      injection e with e1 e2 e3
      injection e1 with e1
      injection e1 with e1
      subst e1 e3
      have HCELL := Lib.hid hcell
      have HG := Lib.hid hg
      have HCS := Lib.hid hcs
      clear hty hyt hyd hgr hyl hdel hcell htk hg hcs e2 hlc'
      rcases (show j = l.length ∨ j < l.length by omega) with rfl | hlt
      · have hd : decide ((l.length : Int) < (l.length : Int)) = false := by simp
        have hclr : (Builtin.clear_ #[35] 0 #[.slice (some ⟨g, i, none⟩) (l.length - i) (c - i)]).run Try.prog wr = .ok (.tuple #[]) (wr.setCells g i (List.replicate (l.length - i) (.string ⟨#[]⟩))) := by
          refine Go.Lib.run_clear_slice wr 35 9 0 (.string ⟨#[]⟩) Try.underlying35 zero9 rfl rfl g i _ _ (by omega) (fun k hk => ?_) (fun k hk => frozen_of_row wr g _ _ _ HG.out)
          rw [HCELL.out (i + k) (by have := HYL.out; omega)]
          rfl
        obtain ⟨cs', hb1, hb2, hb3, hb4⟩ := blk_setCells (List.replicate (l.length - i) (.string ⟨#[]⟩)) i wr cur HG.out
        have HB1 := Lib.hid hb1
        have HB2 := Lib.hid hb2
        have HB3 := Lib.hid hb3
        have HB4 := Lib.hid hb4
        clear hb1 hb2 hb3 hb4
        go_wp2_with (first
          | (refine wpList_slice_from35 rfl _ _ rfl g l.length c i rfl rfl hij hlc ?_)
          | (refine wpList_slice_to35 rfl _ _ rfl g l.length c i rfl rfl (by omega) (by omega) ?_))
        go_ret
        have hyt := HYT.out
        rw [List.take_length] at hyt
        have hkl : (kp ks l).length = i := by rw [← hyt, List.length_take]; have := HYL.out; omega
        refine ⟨.slice (some ⟨g, 0, none⟩) i c, rfl, ⟨by simp, .inr ⟨g, c, cs', by rw [hkl], hb, HB1.out, by rw [hkl]; omega, hcm, by rw [HB2.out, HCS.out]; simp, ?_⟩⟩, HGR.out.trans HB4.out⟩
        rw [hkl, Nat.mul_one, HB3.out, ← hyt, List.map_take, ← HTK.out, List.take_take, Nat.min_eq_left (by have := HYL.out; omega)]
      · have hd : decide ((j : Int) < (l.length : Int)) = true := by simp; omega
        have hd' : decide (j < l.length) = true := by simp; omega
        have hat : at_ ys j = at_ l j := by
          have h1 : (ys.drop j)[0]? = (l.drop j)[0]? := by rw [HYD.out]
          rw [List.getElem?_drop, List.getElem?_drop] at h1
          unfold at_
          rw [List.getD_eq_getElem?_getD, List.getD_eq_getElem?_getD]
          simpa using congrArg (fun o => o.getD []) h1
        have hcj := HCELL.out j (by have := HYL.out; omega)
        have hci := HCELL.out i (by have := HYL.out; omega)
        rw [hat] at hcj
        have hfi : wr.frozen? ⟨g, i, none⟩ = false := frozen_of_row wr g _ _ _ HG.out
        have hcl : (at_ l j).length ≤ maxLen := HM.out _ (by rw [at_get hlt]; exact List.getElem_mem hlt)
        have hdelc := del_any p ks (at_ l j) wr HDEL.out hcl
        have HDC := Lib.hid hdelc
        have hkt := kp_take ks l j hlt
        have HKT := Lib.hid hkt
        have hset := HTY.out.set (i := i) (at_ l j)
        have HSET := Lib.hid hset
        have HAT := Lib.hid hat
        have hjc : j < c := by omega
        have hic : i < l.length := by omega
        have hd2 : decide (i < l.length) = true := by simp; omega
        clear hat hdelc hkt hset
        go_wp2_with fail
        refine HDC.out.mono ?_
        rintro e w3 ⟨rfl, rfl⟩
        by_cases hmem : at_ l j ∈ ks
        · have hdm : (!decide (at_ l j ∈ ks)) = false := by simp [hmem]
          rw [if_pos hmem] at HKT
          clear hdm
          have hdm : (!!decide (at_ l j ∈ ks)) = true := by simp [hmem]
          go_wp2_with fail
          go_roundw
          case rel =>
            refine ⟨i + 1, j + 1, ys.set i (at_ l j), rfl, rfl, by omega, by omega, by simpa using HYL.out, HSET.out.1, ?_, ?_, HGR.out.trans HSET.out.2⟩
            · rw [HKT.out, ← HYT.out]
              have hil : i < ys.length := by have := HYL.out; omega
              rw [List.take_succ_eq_append_getElem (by simpa using hil)]
              simp [List.take_set_of_le]
            · have h1 := congrArg (List.drop 1) HYD.out
              rw [List.drop_drop, List.drop_drop] at h1
              rw [List.drop_set_of_lt (by omega), h1]
          case measure => simp [intOf]; omega
        · have hdm : (!!decide (at_ l j ∈ ks)) = false := by simp [hmem]
          rw [if_neg hmem] at HKT
          go_wp2_with fail
          go_roundw
          case rel =>
            refine ⟨i, j + 1, ys, rfl, rfl, by omega, by omega, HYL.out, HTY.out, by rw [HKT.out, HYT.out], ?_, HGR.out⟩
            have h1 := congrArg (List.drop 1) HYD.out
            rw [List.drop_drop, List.drop_drop] at h1
            exact h1
          case measure => simp [intOf]; omega
end Go.Proofs.Ytncjgfhipflokaa
