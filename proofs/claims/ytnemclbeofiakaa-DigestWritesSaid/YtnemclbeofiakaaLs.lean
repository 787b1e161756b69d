/-
  DigestSizes' walk.
-/
import Derived.Test.YtnemclbeofiakaaWq
import Derived.ChangeKeysEq
namespace Go.Proofs.Ytnemclbeofiakaa
open Go.RowKit Bl

theorem wpList_load_words {Q : Exit → Act → World → Prop} {o : Oper} {a : Act} {w : World} {ops : Array Oper} {rest : List Oper} (hgd : o.guard = none) (x : Operand) (ho : o.op = .load 23 x) (g : Nat) {h : List Nat} {n : Nat} {size : Int} {sl : Value} {r : List UInt8} (H : DgAt g h n size sl r w) (hx : a.eval x = .pointer (some ⟨g, 0, none⟩)) (hK : wpList Try.prog ops Q rest (a.put o.dst (.agg (wordsV h).toArray)) w) : wpList Try.prog ops Q (o :: rest) a w :=
  wpList_plain hgd fun _ hK' => ow_load_words x ho g H hx (hK' _ _ hK)
theorem part_words (l : List Nat) (hl : l.length = 8) (i : Nat) (hi : i < 8) (w : World) : (part 22 (wordsV l).toArray (i * Try.prog.cellsOf 22)).run Try.prog w = .ok (.int .u32 ((l.getD i 0 : Nat) : Int)) w := by
  obtain ⟨z0, z1, z2, z3, z4, z5, z6, z7, rfl⟩ : ∃ z0 z1 z2 z3 z4 z5 z6 z7, l = [z0, z1, z2, z3, z4, z5, z6, z7] := by
    match l, hl with
    | [z0, z1, z2, z3, z4, z5, z6, z7], _ => exact ⟨_, _, _, _, _, _, _, _, rfl⟩
  rcases (show i = 0 ∨ i = 1 ∨ i = 2 ∨ i = 3 ∨ i = 4 ∨ i = 5 ∨ i = 6 ∨ i = 7 by omega) with rfl | rfl | rfl | rfl | rfl | rfl | rfl | rfl <;> kernel_rfl
theorem items_words (x y : List Nat) (hx : x.length = 8) (hy : y.length = 8) (w : World) : ∀ is : List Nat, (∀ i ∈ is, i < 8) →
    (Op.eqItems 9999 22 (Try.prog.cellsOf 22) (wordsV x).toArray (wordsV y).toArray is).run Try.prog w = .ok (is.all fun i => x.getD i 0 == y.getD i 0) w := by
  intro is
  induction is with
  | nil => intro _; rfl
  | cons i is ih =>
    intro h
    have hi := h i List.mem_cons_self
    have hb : (((x.getD i 0 : Nat) : Int) == ((y.getD i 0 : Nat) : Int)) = (x.getD i 0 == y.getD i 0) := by
      rw [Bool.eq_iff_iff, beq_iff_eq, beq_iff_eq]; omega
    simp only [Op.eqItems, Sem.run_bind, part_words x hx i hi, part_words y hy i hi, Result.andThen_ok, run_equalIn_int w 9998 22 .u32 .u32 _ _ Try.underlying22, hb, List.all_cons]
    cases x.getD i 0 == y.getD i 0 with
    | false => rfl
    | true => simpa using ih (fun j hj => h j (List.mem_cons_of_mem _ hj))
theorem eq_words (x y : List Nat) (hx : x.length = 8) (hy : y.length = 8) (w : World) : (Op.equalIn 10000 23 (.agg (wordsV x).toArray) (.agg (wordsV y).toArray)).run Try.prog w = .ok (decide (x = y)) w := by
  obtain ⟨i22, hi22, _⟩ := Option.map_eq_some_iff.1 tag22
  rw [run_equalIn_array w 9999 _ _ Try.underlying23 hi22, items_words x y hx hy w _ (fun i hi => List.mem_range.1 hi)]
  congr 1
  rw [Bool.eq_iff_iff, decide_eq_true_iff, List.all_eq_true]
  constructor
  · intro h
    apply List.ext_getElem (by omega)
    intro i h1 h2
    have := h i (List.mem_range.2 (by omega))
    rw [beq_iff_eq, List.getD_eq_getElem?_getD, List.getD_eq_getElem?_getD, List.getElem?_eq_getElem h1, List.getElem?_eq_getElem h2] at this
    exact this
  · rintro rfl i _
    exact beq_self_eq_true _
theorem begin_inj {p q : Nat} (h : beginF p = beginF q) : p = q := by
  unfold beginF at h
  have h1 := (List.cons.inj h).1
  have h2 : (1779033703 ^^^ (1779033703 ^^^ (16842752 ^^^ p)) : Nat) = 1779033703 ^^^ (1779033703 ^^^ (16842752 ^^^ q)) := by rw [h1]
  rw [← Nat.xor_assoc, Nat.xor_self, Nat.zero_xor, ← Nat.xor_assoc, Nat.xor_self, Nat.zero_xor] at h2
  have h3 : (16842752 ^^^ (16842752 ^^^ p) : Nat) = 16842752 ^^^ (16842752 ^^^ q) := by rw [h2]
  rwa [← Nat.xor_assoc, Nat.xor_self, Nat.zero_xor, ← Nat.xor_assoc, Nat.xor_self, Nat.zero_xor] at h3
/-- Begin, whatever the size -/
theorem Begin_any (s : Int) (w : World) : Calls Try.prog 16 #[.int .i64 s] w fun e w' => ∃ cs, e = .returned (.tuple #[.agg cs, .int .i64 (if 1 ≤ s ∧ s ≤ 32 then 0 else 1)]) ∧ cs.size = 11 ∧ (∀ u ∈ cs.toList, u.oneCell' = true) ∧ ((1 ≤ s ∧ s ≤ 32) → cs = dgV (beginF s.toNat) nilS 0 s) ∧ Below w.heap.size w w' := by
  by_cases h : 1 ≤ s ∧ s ≤ 32
  · obtain ⟨k, rfl⟩ : ∃ k : Nat, s = (k : Int) := ⟨s.toNat, by omega⟩
    refine (Begin_yes k (by omega) (by omega) w).mono ?_
    rintro e w' ⟨rfl, hb⟩
    exact ⟨dgV (beginF k) nilS 0 (k : Int), by rw [if_pos h], dgV_size rfl _ _ _, dgV_one _ _ rfl, fun _ => rfl, hb⟩
  · refine (Begin_no s h w).mono ?_
    rintro e w' ⟨rfl, hb⟩
    exact ⟨dgV (List.replicate 8 0) nilS 0 0, by rw [if_neg h], dgV_size rfl _ _ _, dgV_one _ _ rfl, fun h' => absurd h' h, hb⟩

set_option maxHeartbeats 1000000 in
set_option maxRecDepth 4000 in
theorem DigestSizes_any (a b : Int) (A : Option Addr) (n c : Nat) (w : World) (hs : n ≤ 64 → ∃ bs, n = bs.length ∧ SB w (.slice A n c) bs) :
    Calls Try.prog 7 #[.int .i64 a, .int .i64 b, .slice A n c] w fun e w' => e = .returned (.bool true) ∧ Below w.heap.size w w' := by
  have HSB := Lib.hid hs
  clear hs
  go_enter Try.func7, Try.ntmps7
  go_wp2_with fail
  refine (Begin_any a w).mono ?_
  rintro e w1 ⟨cs1, rfl, hz1, ho1, he1, hb1⟩
  have HZ1 := Lib.hid hz1
  have HO1 := Lib.hid ho1
  have HE1 := Lib.hid he1
  have HB1 := Lib.hid hb1
  clear hz1 ho1 he1 hb1
  obtain ⟨ea, hea⟩ : ∃ x : Int, x = if 1 ≤ a ∧ a ≤ 32 then 0 else 1 := ⟨_, rfl⟩
  rw [← hea]
  have HEA := Lib.hid hea
  clear hea
  obtain ⟨g1, hg1⟩ : ∃ g, g = w1.heap.size := ⟨_, rfl⟩
  have HG1 := Lib.hid hg1
  clear hg1
  go_upto_region 2 with (first
    | (refine wpList_alloc_row rfl 33 rfl _ (zero33 _) ?_; rw [← HG1.out]; intro w2 hT hS hG; have HT2 := Lib.hid hT; have HG2 := Lib.hid (below_of_grown hG); clear hT hG hS)
    | (refine wpList_store_row rfl 33 _ _ rfl g1 rfl 33 _ _ rfl HT2.out (by rw [HZ1.out]; rfl) (by rw [HZ1.out]; kernel_rfl) HO1.out ?_; intro w3 hT3 hS3 hG3; have HT3 := Lib.hid hT3; have HG3 := Lib.hid hG3; clear hT3 hS3 hG3))
  have HB3 := Lib.hid ((HB1.out.trans (HG2.out.mono HB1.out.size)).grown HG3.out (by have := HB1.out.size; have := HG2.out.size; omega) (fun k e => by injection e with e; have := HB1.out.size; have := HG1.out; omega))
  have hg1w : w.heap.size ≤ g1 := by have := HB1.out.size; have := HG1.out; omega
  clear HB1 HG2 HG3 HT2 HG1
  go_wp2_with fail
  refine (Begin_any b w3).mono ?_
  rintro e w4 ⟨cs2, rfl, hz2, ho2, he2, hb4⟩
  have HZ2 := Lib.hid hz2
  have HO2 := Lib.hid ho2
  have HE2 := Lib.hid he2
  have HT4 := Lib.hid (blk_below HT3.out hb4)
  have HB4 := Lib.hid (HB3.out.trans (hb4.mono HB3.out.size))
  clear hz2 ho2 he2 hb4 HT3 HB3
  obtain ⟨eb, heb⟩ : ∃ x : Int, x = if 1 ≤ b ∧ b ≤ 32 then 0 else 1 := ⟨_, rfl⟩
  rw [← heb]
  have HEB := Lib.hid heb
  clear heb
  obtain ⟨g2, hg2⟩ : ∃ g, g = w4.heap.size := ⟨_, rfl⟩
  have HG2 := Lib.hid hg2
  clear hg2
  go_upto_region 3 with (first
    | (refine wpList_alloc_row rfl 33 rfl _ (zero33 _) ?_; rw [← HG2.out]; intro w5 hT hS hG; have HT5 := Lib.hid hT; have HG5 := Lib.hid (below_of_grown hG); clear hT hG hS)
    | (refine wpList_store_row rfl 33 _ _ rfl g2 rfl 33 _ _ rfl HT5.out (by rw [HZ2.out]; rfl) (by rw [HZ2.out]; kernel_rfl) HO2.out ?_; intro w6 hT3 hS3 hG3; have HT6 := Lib.hid hT3; have HG6 := Lib.hid hG3; clear hT3 hS3 hG3))
  have hg12 : g1 < g2 := by have := blk_lt HT4.out; have := HG2.out; omega
  have HT61 := Lib.hid (blk_grown (blk_below HT4.out HG5.out) HG6.out (fun e => by injection e with e; omega))
  have HB6 := Lib.hid ((HB4.out.trans (HG5.out.mono HB4.out.size)).grown HG6.out (by have := HB4.out.size; have := HG5.out.size; omega) (fun k e => by injection e with e; have := HB4.out.size; have := HG2.out; omega))
  clear HB4 HG5 HG6 HT5 HG2 HT4
  by_cases ha : 1 ≤ a ∧ a ≤ 32
  · have hea0 : ea = 0 := by rw [HEA.out, if_pos ha]
    subst hea0
    by_cases hb : 1 ≤ b ∧ b ≤ 32
    · have heb0 : eb = 0 := by rw [HEB.out, if_pos hb]
      subst heb0
      by_cases hn : n ≤ 64
      · have hd : decide ((64 : Int) < (n : Int)) = false := by simp; omega
        obtain ⟨bs, rfl, hsb⟩ := HSB.out hn
        have HS6 := Lib.hid (hsb.below HB6.out)
        have hcs1 := HE1.out ha
        have hcs2 := HE2.out hb
        subst hcs1
        subst hcs2
        obtain ⟨p, rfl⟩ : ∃ k : Nat, a = (k : Int) := ⟨a.toNat, by omega⟩
        obtain ⟨q, rfl⟩ : ∃ k : Nat, b = (k : Int) := ⟨b.toNat, by omega⟩
        simp only [Int.toNat_natCast] at HT6 HT61 ⊢
        clear hsb HE1 HE2 HO1 HO2 HZ1 HZ2 HEA HEB HSB
        go_wp2_with fail
        have HWP := Lib.hid (wds_begin (s := p) (by omega))
        have HWQ := Lib.hid (wds_begin (s := q) (by omega))
        refine region_d 10 (fun k => decide (6 ≤ k ∧ k < 8)) (fun k j => decide (8 ≤ k ∧ k < 10 ∧ j + 2 = k)) (fun i vs W => match i with
            | 0 => vs 0 = .agg (dgV (beginF p) nilS 0 (p : Int))
            | 1 => vs 1 = .slice A bs.length c
            | 2 => ∃ A' c', vs 2 = .agg (dgV (beginF p) (.slice A' bs.length c') 0 (p : Int)) ∧ SB W (.slice A' bs.length c') bs
            | 3 => vs 3 = .agg (dgV (beginF q) nilS 0 (q : Int))
            | 4 => vs 4 = .slice A bs.length c
            | 5 => ∃ A' c', vs 5 = .agg (dgV (beginF q) (.slice A' bs.length c') 0 (q : Int)) ∧ SB W (.slice A' bs.length c') bs
            | 6 => ∃ x, vs 6 = .pointer (some ⟨x, 0, none⟩) ∧ w6.heap.size ≤ x ∧ W.heap[x]? = some (.cells (dgV (List.replicate 8 0) nilS 0 0) 33 (0, 0))
            | 7 => ∃ x, vs 7 = .pointer (some ⟨x, 0, none⟩) ∧ w6.heap.size ≤ x ∧ W.heap[x]? = some (.cells (dgV (List.replicate 8 0) nilS 0 0) 33 (0, 0))
            | 8 => ∃ x A' c', vs 6 = .pointer (some ⟨x, 0, none⟩) ∧ w6.heap.size ≤ x ∧ W.heap[x]? = some (.cells (dgV (beginF p) (.slice A' bs.length c') 0 (p : Int)) 33 (0, 0)) ∧ SB W (.slice A' bs.length c') bs
            | 9 => ∃ x A' c', vs 7 = .pointer (some ⟨x, 0, none⟩) ∧ w6.heap.size ≤ x ∧ W.heap[x]? = some (.cells (dgV (beginF q) (.slice A' bs.length c') 0 (q : Int)) 33 (0, 0)) ∧ SB W (.slice A' bs.length c') bs
            | _ => True) (fun k vs W W' => (¬ (8 ≤ k ∧ k < 10) → Below W.heap.size W W') ∧ (8 ≤ k ∧ k < 10 → ∃ x cs, vs (k - 2) = .pointer (some ⟨x, 0, none⟩) ∧ W.heap[x]? = some (.cells cs 33 (0, 0)) ∧ (∀ (i : Nat) (y : Int), cs[i]? ≠ some (Value.int .u8 y)) ∧ W.grownBy W' (some x))) (fun W => Below w6.heap.size w6 W) (by kernel_rfl) (by kernel_rfl) ?hAl ?hst ?h0 ?step ?fin
        case hAl =>
          intro i hi
          have hi : 6 ≤ i ∧ i < 8 := of_decide_eq_true hi
          have h : i = 6 ∨ i = 7 := by omega
          rcases h with rfl | rfl <;> exact ⟨by decide, by decide⟩
        case hst =>
          intro i k vs va W W' hki hnd hnc hag hdis h hG
          by_cases hk : 8 ≤ k ∧ k < 10
          · obtain ⟨x, cs, hvp, hx, hnb, hgr⟩ := hG.2 hk
            have hkk : k = 8 ∨ k = 9 := by omega
            rcases hkk with rfl | rfl
            · match i, h with
              | 0, h => exact h
              | 1, h => exact h
              | 3, h => exact h
              | 4, h => exact h
              | 2, ⟨A', c', h1, h2⟩ => exact ⟨A', c', h1, h2.grown33 hx hnb hgr⟩
              | 5, ⟨A', c', h1, h2⟩ => exact ⟨A', c', h1, h2.grown33 hx hnb hgr⟩
              | 6, _ => exact absurd hnc (by decide)
              | 7, ⟨x', e', hB', hc'⟩ =>
                refine ⟨x', e', hB', blk_grown hc' hgr (fun e => ?_)⟩
                have e1 := Option.some.inj e
                exact hdis 7 6 (by decide) (by decide) (by decide) (.inl (.inl rfl)) (.inr (.inr (by kernel_rfl))) (by rw [← hag 7 (.inl rfl), e', e1]; exact hvp.symm)
              | 8, _ => exact absurd rfl hki
              | 9, _ => exact absurd (hnd.symm.trans (by kernel_rfl)) Bool.false_ne_true
              | n + 10, _ => trivial
            · match i, h with
              | 0, h => exact h
              | 1, h => exact h
              | 3, h => exact h
              | 4, h => exact h
              | 2, ⟨A', c', h1, h2⟩ => exact ⟨A', c', h1, h2.grown33 hx hnb hgr⟩
              | 5, ⟨A', c', h1, h2⟩ => exact ⟨A', c', h1, h2.grown33 hx hnb hgr⟩
              | 6, ⟨x', e', hB', hc'⟩ =>
                refine ⟨x', e', hB', blk_grown hc' hgr (fun e => ?_)⟩
                have e1 := Option.some.inj e
                exact hdis 6 7 (by decide) (by decide) (by decide) (.inl (.inl rfl)) (.inr (.inr (by kernel_rfl))) (by rw [← hag 6 (.inl rfl), e', e1]; exact hvp.symm)
              | 7, _ => exact absurd hnc (by decide)
              | 8, ⟨x', A', c', e', hB', hc', h5⟩ =>
                refine ⟨x', A', c', e', hB', blk_grown hc' hgr (fun e => ?_), h5.grown33 hx hnb hgr⟩
                have e1 := Option.some.inj e
                exact hdis 6 7 (by decide) (by decide) (by decide) (.inl (.inr (by kernel_rfl))) (.inr (.inr (by kernel_rfl))) (by rw [← hag 6 (.inr (by kernel_rfl)), e', e1]; exact hvp.symm)
              | 9, _ => exact absurd rfl hki
              | n + 10, _ => trivial
          · have hbb := hG.1 hk
            match i, h with
            | 0, h => exact h
            | 1, h => exact h
            | 3, h => exact h
            | 4, h => exact h
            | 2, ⟨A', c', h1, h2⟩ => exact ⟨A', c', h1, h2.below hbb⟩
            | 5, ⟨A', c', h1, h2⟩ => exact ⟨A', c', h1, h2.below hbb⟩
            | 6, ⟨x', e', hB', hc'⟩ => exact ⟨x', e', hB', blk_below hc' hbb⟩
            | 7, ⟨x', e', hB', hc'⟩ => exact ⟨x', e', hB', blk_below hc' hbb⟩
            | 8, ⟨x', A', c', e', hB', hc', h5⟩ => exact ⟨x', A', c', e', hB', blk_below hc' hbb, h5.below hbb⟩
            | 9, ⟨x', A', c', e', hB', hc', h5⟩ => exact ⟨x', A', c', e', hB', blk_below hc' hbb, h5.below hbb⟩
            | n + 10, _ => trivial
        case h0 => exact (Below.refl _ _).drew
        case step =>
          intro i op hi ho ac W hS hag hdep
          have hbr : Below W.heap.size W W := Below.refl _ _
          match i, hi, ho with
          | 0, _, rfl => exact ow_load_row 33 _ rfl g1 (hag 7 rfl) 33 _ (0, 0) _ (blk_below HT61.out hS) Try.underlying33 rfl (by rw [dgV_size HWP.out.1]; kernel_rfl) ⟨_, rfl, fun vs' h _ => h (fun e => by cases e), fun _ _ _ => ⟨fun _ => hbr, fun h => absurd h (by decide)⟩, hS, Nat.le_refl _, fun h => absurd h (by decide)⟩
          | 1, _, rfl => exact ow_move _ rfl (hag 2 rfl) ⟨_, rfl, fun vs' h _ => h (fun e => by cases e), fun _ _ _ => ⟨fun _ => hbr, fun h => absurd h (by decide)⟩, hS, Nat.le_refl _, fun h => absurd h (by decide)⟩
          | 2, _, rfl =>
            have h1 : ac.eval (.tmp 35) = .agg (dgV (beginF p) nilS 0 (p : Int)) := hdep 0 (by omega) (by kernel_rfl) (fun k _ h => by have h := of_decide_eq_true h; omega)
            have h2 : ac.eval (.tmp 36) = .slice A bs.length c := hdep 1 (by omega) (by kernel_rfl) (fun k _ h => by have h := of_decide_eq_true h; omega)
            refine ow_call Try.func11 (by kernel_rfl) rfl _ _ rfl (vs := #[.agg (dgV (beginF p) nilS 0 (p : Int)), .slice A bs.length c]) (by simp only [List.map_toArray, List.map_cons, List.map_nil, h1, h2]) ?_
            refine (Write_any (beginF p) HWP.out 0 (by decide) (p : Int) nilS _ [] bs W (SB_nil _) (HS6.out.below hS) (by simp; omega)).mono ?_
            rintro e w' ⟨sl', rfl, hown, hbb⟩
            simp only [List.nil_append] at hown ⊢
            rw [writeL_stop _ _ _ _ hn] at hown ⊢
            simp only at hown ⊢
            obtain ⟨A', c', rfl, hs', -⟩ := (SB_of_own hown (by omega)).shape
            exact ⟨_, rfl, _, rfl, fun vs' h _ => ⟨A', c', h (fun e => by cases e), hs'⟩, fun _ _ _ => ⟨fun _ => hbb, fun h => absurd h (by decide)⟩, hS.trans (hbb.mono hS.size), hbb.size, fun h => absurd h (by decide)⟩
          | 3, _, rfl => exact ow_load_row 33 _ rfl g2 (hag 9 rfl) 33 _ (0, 0) _ (blk_below HT6.out hS) Try.underlying33 rfl (by rw [dgV_size HWQ.out.1]; kernel_rfl) ⟨_, rfl, fun vs' h _ => h (fun e => by cases e), fun _ _ _ => ⟨fun _ => hbr, fun h => absurd h (by decide)⟩, hS, Nat.le_refl _, fun h => absurd h (by decide)⟩
          | 4, _, rfl => exact ow_move _ rfl (hag 2 rfl) ⟨_, rfl, fun vs' h _ => h (fun e => by cases e), fun _ _ _ => ⟨fun _ => hbr, fun h => absurd h (by decide)⟩, hS, Nat.le_refl _, fun h => absurd h (by decide)⟩
          | 5, _, rfl =>
            have h1 : ac.eval (.tmp 38) = .agg (dgV (beginF q) nilS 0 (q : Int)) := hdep 3 (by omega) (by kernel_rfl) (fun k _ h => by have h := of_decide_eq_true h; omega)
            have h2 : ac.eval (.tmp 39) = .slice A bs.length c := hdep 4 (by omega) (by kernel_rfl) (fun k _ h => by have h := of_decide_eq_true h; omega)
            refine ow_call Try.func11 (by kernel_rfl) rfl _ _ rfl (vs := #[.agg (dgV (beginF q) nilS 0 (q : Int)), .slice A bs.length c]) (by simp only [List.map_toArray, List.map_cons, List.map_nil, h1, h2]) ?_
            refine (Write_any (beginF q) HWQ.out 0 (by decide) (q : Int) nilS _ [] bs W (SB_nil _) (HS6.out.below hS) (by simp; omega)).mono ?_
            rintro e w' ⟨sl', rfl, hown, hbb⟩
            simp only [List.nil_append] at hown ⊢
            rw [writeL_stop _ _ _ _ hn] at hown ⊢
            simp only at hown ⊢
            obtain ⟨A', c', rfl, hs', -⟩ := (SB_of_own hown (by omega)).shape
            exact ⟨_, rfl, _, rfl, fun vs' h _ => ⟨A', c', h (fun e => by cases e), hs'⟩, fun _ _ _ => ⟨fun _ => hbb, fun h => absurd h (by decide)⟩, hS.trans (hbb.mono hS.size), hbb.size, fun h => absurd h (by decide)⟩
          | 6, _, rfl => exact ow_alloc_row 33 rfl _ (zero33 W) (fun w' hn hb => ⟨_, rfl, fun vs' h _ => ⟨_, h (fun e => by cases e), hS.size, hn⟩, fun vs' _ _ => ⟨fun _ => hb, fun h => absurd h (by decide)⟩, hS.trans (hb.mono hS.size), hb.size, fun _ => ⟨_, rfl, Nat.le_refl _, blk_lt hn⟩⟩)
          | 7, _, rfl => exact ow_alloc_row 33 rfl _ (zero33 W) (fun w' hn hb => ⟨_, rfl, fun vs' h _ => ⟨_, h (fun e => by cases e), hS.size, hn⟩, fun vs' _ _ => ⟨fun _ => hb, fun h => absurd h (by decide)⟩, hS.trans (hb.mono hS.size), hb.size, fun _ => ⟨_, rfl, Nat.le_refl _, blk_lt hn⟩⟩)
          | 8, _, rfl =>
            obtain ⟨x, h1, h2, h3⟩ := hdep 6 (by omega) (by kernel_rfl) (fun k _ h => by have h := of_decide_eq_true h; left; omega)
            have h1 : ac.eval (.tmp 11) = .pointer (some ⟨x, 0, none⟩) := h1
            obtain ⟨A', c', h4, h5⟩ := hdep 2 (by omega) (by kernel_rfl) (fun k _ h => by have h := of_decide_eq_true h; omega)
            have h4 : ac.eval (.tmp 37) = .agg (dgV (beginF p) (.slice A' bs.length c') 0 (p : Int)) := h4
            refine wp_store_row 33 _ _ rfl x h1 33 _ _ h4 h3 (by rw [dgV_size HWP.out.1]; rfl) (by rw [dgV_size HWP.out.1]; kernel_rfl) (dgV_one _ _ rfl) (fun w' hT hsz hgr => ?_)
            refine ⟨_, rfl, fun vs' _ hv => ⟨x, A', c', (hv 6 (by kernel_rfl)).trans h1, h2, hT, h5.grown33 h3 (dgV_nobyte _ _) hgr⟩, fun vs' _ hv => ⟨fun h => absurd h (by decide), fun _ => ⟨x, _, (hv 6 (by kernel_rfl)).trans h1, h3, dgV_nobyte _ _, hgr⟩⟩, hS.grown hgr hS.size (fun j e => by injection e with e; omega), by omega, fun h => absurd h (by decide)⟩
          | 9, _, rfl =>
            obtain ⟨x, h1, h2, h3⟩ := hdep 7 (by omega) (by kernel_rfl) (fun k _ h => by have h := of_decide_eq_true h; left; omega)
            have h1 : ac.eval (.tmp 12) = .pointer (some ⟨x, 0, none⟩) := h1
            obtain ⟨A', c', h4, h5⟩ := hdep 5 (by omega) (by kernel_rfl) (fun k _ h => by have h := of_decide_eq_true h; omega)
            have h4 : ac.eval (.tmp 40) = .agg (dgV (beginF q) (.slice A' bs.length c') 0 (q : Int)) := h4
            refine wp_store_row 33 _ _ rfl x h1 33 _ _ h4 h3 (by rw [dgV_size HWQ.out.1]; rfl) (by rw [dgV_size HWQ.out.1]; kernel_rfl) (dgV_one _ _ rfl) (fun w' hT hsz hgr => ?_)
            refine ⟨_, rfl, fun vs' _ hv => ⟨x, A', c', (hv 7 (by kernel_rfl)).trans h1, h2, hT, h5.grown33 h3 (dgV_nobyte _ _) hgr⟩, fun vs' _ hv => ⟨fun h => absurd h (by decide), fun _ => ⟨x, _, (hv 7 (by kernel_rfl)).trans h1, h3, dgV_nobyte _ _, hgr⟩⟩, hS.grown hgr hS.size (fun j e => by injection e with e; omega), by omega, fun h => absurd h (by decide)⟩
          | n + 10, hi, _ => exact absurd hi (by omega)
        case fin =>
          intro vs W hS hF
          obtain ⟨x, A1, c1, e6, hx0, hx1, hx2⟩ := hF 8 (by omega) (fun k hk => decide_eq_false (by omega))
          obtain ⟨y, A2, c2, e7, hy0, hy1, hy2⟩ := hF 9 (by omega) (fun k hk => decide_eq_false (by omega))
          clear hF
          change wpList _ _ _ _ (Act.put (Act.put (Act.put (Act.put (Act.put (Act.put (Act.put (Act.put (Act.put (Act.put _ (some 35) (vs 0)) (some 36) (vs 1)) (some 37) (vs 2)) (some 38) (vs 3)) (some 39) (vs 4)) (some 40) (vs 5)) (some 11) (vs 6)) (some 12) (vs 7)) none (vs 8)) none (vs 9)) W
          rw [e6, e7]
          clear e6 e7
          generalize vs 0 = z0
          generalize vs 1 = z1
          generalize vs 2 = z2
          generalize vs 3 = z3
          generalize vs 4 = z4
          generalize vs 5 = z5
          generalize vs 8 = z8
          generalize vs 9 = z9
          simp only [putAll, List.drop_succ_cons, List.drop_zero, Act.put, List.setIfInBounds_toArray, List.set_cons_zero, List.set_cons_succ]
          clear vs
          have DX := Lib.hid (show DgAt x (beginF p) 0 (p : Int) (.slice A1 bs.length c1) bs W from ⟨hx1, hx2, HWP.out, by decide⟩)
          have DY := Lib.hid (show DgAt y (beginF q) 0 (q : Int) (.slice A2 bs.length c2) bs W from ⟨hy1, hy2, HWQ.out, by decide⟩)
          have DG := Lib.hid (show DgAt g1 (beginF p) 0 (p : Int) nilS [] W from ⟨blk_below HT61.out hS, SB_nil W, HWP.out, by decide⟩)
          have HBW := Lib.hid (HB6.out.trans (hS.mono HB6.out.size))
          have HSW := Lib.hid (HS6.out.below hS)
          have hx8 := DX.out.c8
          have hx9 := DX.out.c9
          have hx10 := DX.out.c10
          clear hS hx0 hx1 hx2 hy0 hy1 hy2 HS6 HB6 HT61 HT6
          have hq1 := eq_words (beginF p) (beginF q) HWP.out.1 HWQ.out.1 W
          obtain ⟨b0, hb0⟩ : ∃ b0, b0 = (beginF p).getD 0 0 := ⟨_, rfl⟩
          have hq2 : (Op.equalIn 10000 23 (.agg #[.int .u32 (b0 : Int), .int .u32 3144134277, .int .u32 1013904242, .int .u32 2773480762, .int .u32 1359893119, .int .u32 2600822924, .int .u32 528734635, .int .u32 1541459225]) (.agg #[.int .u32 (b0 : Int), .int .u32 3144134277, .int .u32 1013904242, .int .u32 2773480762, .int .u32 1359893119, .int .u32 2600822924, .int .u32 528734635, .int .u32 1541459225])).run Try.prog W = .ok true W := by
            have h := eq_words (b0 :: iv.drop 1) (b0 :: iv.drop 1) rfl rfl W
            rw [decide_eq_true rfl] at h
            exact h
          have hxc0 : W.cell? ⟨x, 0, none⟩ = some (.int .u32 (b0 : Int)) := by rw [hb0]; exact (cell_of_row _ _ 0 _ _ _ DX.out.row).trans (dgV_word (h := beginF p) _ _ _ 0 (by show 0 < 8; decide))
          have hxc1 : W.cell? ⟨x, 1, none⟩ = some (.int .u32 3144134277) := (cell_of_row _ _ 1 _ _ _ DX.out.row).trans (dgV_word (h := beginF p) _ _ _ 1 (by show 1 < 8; decide))
          have hxc2 : W.cell? ⟨x, 2, none⟩ = some (.int .u32 1013904242) := (cell_of_row _ _ 2 _ _ _ DX.out.row).trans (dgV_word (h := beginF p) _ _ _ 2 (by show 2 < 8; decide))
          have hxc3 : W.cell? ⟨x, 3, none⟩ = some (.int .u32 2773480762) := (cell_of_row _ _ 3 _ _ _ DX.out.row).trans (dgV_word (h := beginF p) _ _ _ 3 (by show 3 < 8; decide))
          have hxc4 : W.cell? ⟨x, 4, none⟩ = some (.int .u32 1359893119) := (cell_of_row _ _ 4 _ _ _ DX.out.row).trans (dgV_word (h := beginF p) _ _ _ 4 (by show 4 < 8; decide))
          have hxc5 : W.cell? ⟨x, 5, none⟩ = some (.int .u32 2600822924) := (cell_of_row _ _ 5 _ _ _ DX.out.row).trans (dgV_word (h := beginF p) _ _ _ 5 (by show 5 < 8; decide))
          have hxc6 : W.cell? ⟨x, 6, none⟩ = some (.int .u32 528734635) := (cell_of_row _ _ 6 _ _ _ DX.out.row).trans (dgV_word (h := beginF p) _ _ _ 6 (by show 6 < 8; decide))
          have hxc7 : W.cell? ⟨x, 7, none⟩ = some (.int .u32 1541459225) := (cell_of_row _ _ 7 _ _ _ DX.out.row).trans (dgV_word (h := beginF p) _ _ _ 7 (by show 7 < 8; decide))
          have hg1c0 : W.cell? ⟨g1, 0, none⟩ = some (.int .u32 (b0 : Int)) := by rw [hb0]; exact (cell_of_row _ _ 0 _ _ _ DG.out.row).trans (dgV_word (h := beginF p) _ _ _ 0 (by show 0 < 8; decide))
          have hg1c1 : W.cell? ⟨g1, 1, none⟩ = some (.int .u32 3144134277) := (cell_of_row _ _ 1 _ _ _ DG.out.row).trans (dgV_word (h := beginF p) _ _ _ 1 (by show 1 < 8; decide))
          have hg1c2 : W.cell? ⟨g1, 2, none⟩ = some (.int .u32 1013904242) := (cell_of_row _ _ 2 _ _ _ DG.out.row).trans (dgV_word (h := beginF p) _ _ _ 2 (by show 2 < 8; decide))
          have hg1c3 : W.cell? ⟨g1, 3, none⟩ = some (.int .u32 2773480762) := (cell_of_row _ _ 3 _ _ _ DG.out.row).trans (dgV_word (h := beginF p) _ _ _ 3 (by show 3 < 8; decide))
          have hg1c4 : W.cell? ⟨g1, 4, none⟩ = some (.int .u32 1359893119) := (cell_of_row _ _ 4 _ _ _ DG.out.row).trans (dgV_word (h := beginF p) _ _ _ 4 (by show 4 < 8; decide))
          have hg1c5 : W.cell? ⟨g1, 5, none⟩ = some (.int .u32 2600822924) := (cell_of_row _ _ 5 _ _ _ DG.out.row).trans (dgV_word (h := beginF p) _ _ _ 5 (by show 5 < 8; decide))
          have hg1c6 : W.cell? ⟨g1, 6, none⟩ = some (.int .u32 528734635) := (cell_of_row _ _ 6 _ _ _ DG.out.row).trans (dgV_word (h := beginF p) _ _ _ 6 (by show 6 < 8; decide))
          have hg1c7 : W.cell? ⟨g1, 7, none⟩ = some (.int .u32 1541459225) := (cell_of_row _ _ 7 _ _ _ DG.out.row).trans (dgV_word (h := beginF p) _ _ _ 7 (by show 7 < 8; decide))
          have HBP := Lib.hid (show b0 :: iv.drop 1 = beginF p by rw [hb0]; rfl)
          clear hb0
          have hpq : decide (beginF p = beginF q) = ((p : Int) == (q : Int)) := by
            rw [Bool.eq_iff_iff, decide_eq_true_iff, beq_iff_eq]
            exact ⟨fun h => by have := begin_inj h; omega, fun h => by rw [show p = q from by omega]⟩
          rw [hpq] at hq1
          obtain ⟨bq, hbq⟩ : ∃ x : Bool, x = ((p : Int) == (q : Int)) := ⟨_, rfl⟩
          rw [← hbq] at hq1
          have hbq' := hbq.symm
          have hbb : (bq == bq) = true := beq_self_eq_true _
          clear hbq hpq
          have hcx := conv_str W _ bs DX.out.data
          have hcl := conv_str W _ bs HSW.out
          go_wp2_with (first
            | (refine wpList_load_words rfl _ rfl x DX.out rfl ?_)
            | (refine wpList_load_words rfl _ rfl y DY.out rfl ?_)
            | (refine wpList_load_words rfl _ rfl g1 DG.out rfl ?_))
          have hagg : (Value.agg #[.int .u32 (b0 : Int), .int .u32 3144134277, .int .u32 1013904242, .int .u32 2773480762, .int .u32 1359893119, .int .u32 2600822924, .int .u32 528734635, .int .u32 1541459225, .slice A1 bs.length c1, .int .u64 0, .int .i64 (p : Int)]) = .agg (dgV (beginF p) (.slice A1 bs.length c1) 0 (p : Int)) := by rw [← HBP.out]; rfl
          rw [hagg]
          refine (Sum_any (beginF p) HWP.out 0 (by decide) (p : Int) _ bs W DX.out.data p rfl (by omega) (by omega)).mono ?_
          rintro e w7 ⟨v', rfl, hown, hb7⟩
          have hlo := outF_length (lastF (writeL bs.length (beginF p) 0 bs).1 (writeL bs.length (beginF p) 0 bs).2.1 (writeL bs.length (beginF p) 0 bs).2.2) p
          obtain ⟨A5, c5, rfl, -, -⟩ := (SB_of_own (bs := outF (lastF (writeL bs.length (beginF p) 0 bs).1 (writeL bs.length (beginF p) 0 bs).2.1 (writeL bs.length (beginF p) 0 bs).2.2) p) (by rw [hlo]; exact hown) (by rw [hlo]; omega)).shape
          rw [hlo]
          have HB7 := Lib.hid (HBW.out.trans (hb7.mono HBW.out.size))
          clear hown hb7 hlo hagg hq1 hq2 hcx hcl
          go_wp2_with fail
          refine (awake_any w7).mono ?_
          rintro e w8 ⟨rfl, hb8⟩
          go_wp2_with fail
          go_ret
          exact ⟨rfl, HB7.out.trans (hb8.mono HB7.out.size)⟩
      · have hd : decide ((64 : Int) < (n : Int)) = true := by simp; omega
        go_wp2_with fail
        refine (awake_any w6).mono ?_
        rintro e w7 ⟨rfl, hb7⟩
        go_wp2_with fail
        go_ret
        exact ⟨rfl, HB6.out.trans (hb7.mono HB6.out.size)⟩
    · have heb1 : eb = 1 := by rw [HEB.out, if_neg hb]
      subst heb1
      go_wp2_with fail
      refine (awake_any w6).mono ?_
      rintro e w7 ⟨rfl, hb7⟩
      go_wp2_with fail
      go_ret
      exact ⟨rfl, HB6.out.trans (hb7.mono HB6.out.size)⟩
  · have hea1 : ea = 1 := by rw [HEA.out, if_neg ha]
    subst hea1
    go_wp2_with fail
    refine (awake_any w6).mono ?_
    rintro e w7 ⟨rfl, hb7⟩
    go_wp2_with fail
    go_ret
    exact ⟨rfl, HB6.out.trans (hb7.mono HB6.out.size)⟩
end Go.Proofs.Ytnemclbeofiakaa
