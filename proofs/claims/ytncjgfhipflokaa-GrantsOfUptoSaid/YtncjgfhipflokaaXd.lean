/-
  tidewrackref17.Of, tidewrackref17.Users.
-/
import Derived.Test.YtncjgfhipflokaaXa
namespace Go.Proofs.Ytncjgfhipflokaa
open Go.RowKit Go.Shelf Hp Go.Maps

set_option maxHeartbeats 4000000 in
set_option maxRecDepth 4000 in
theorem refOf_any (docs : List Doc) (sq : Int) (dv lv sv : Value) (w : World) (u : S) (B0 : Nat) (hds : DS (fun _ _ => True) B0 w dv docs) (hfit : (pairs docs).length ≤ 99999) :
    Calls Try.prog 15 #[.agg (stV sq dv lv sv), encStr u] w fun e w' => ∃ v l, e = .returned v ∧ RT w' v l ∧ Keys l (chansOf docs u) ∧ Below w.heap.size w w' := by
  have hple := pairs_le hds
  obtain ⟨DA, dc, rfl, hdc1, hdc2, hel⟩ := hds
  have hdl1 : docs.length ≤ 9223372036854775807 := by unfold maxLen at hdc2; omega
  obtain ⟨N, hN⟩ : ∃ N, N = w.heap.size := ⟨_, rfl⟩
  obtain ⟨W0, hW0⟩ : ∃ W0, W0 = w.alloc (.cells (stV sq (.slice DA docs.length dc) lv sv) 27) := ⟨_, rfl⟩
  have hrow : W0.heap[N]? = some (.cells (stV sq (.slice DA docs.length dc) lv sv) 27 (0, 0)) := by rw [hW0, hN]; exact World.alloc_heap_new w _
  have hbel : Below w.heap.size w W0 := by rw [hW0]; exact (Below.refl _ w).alloc (Nat.le_refl _) _
  have HROW := Lib.hid hrow
  have HBEL := Lib.hid hbel
  have HN := Lib.hid hN
  have HEL := Lib.hid hel
  have HFIT := Lib.hid hfit
  have HPLE := Lib.hid hple
  clear hrow hbel hel hdc1 hdc2 hfit hple
  go_enter Try.func15, Try.ntmps15
  go_upto_region 1 with fail
  rw [← HN.out, ← hW0]
  clear hN hW0
  go_wp2_with fail
  go_loopw [5, 6] (fun vl vi wr => ∃ (q : Nat) (lq : List S), vi = .int .i64 (q : Int) ∧ q ≤ docs.length ∧ RT wr vl lq ∧ Keys lq (chF u (pairs (docs.take q))) ∧ lq.length ≤ (pairs (docs.take q)).length ∧ Below W0.heap.size W0 wr) (fun _ vi _ => docs.length - (intOf vi).toNat)
  case atStart => exact ⟨0, [], rfl, Nat.zero_le _, ⟨none, 0, rfl, Nat.zero_le _, .inl rfl⟩, ⟨List.Pairwise.nil, fun x => by simp [pairs, chF]⟩, Nat.zero_le _, Below.refl _ _⟩
  case round =>
    obtain ⟨q, lq, rfl, hq, hrt, hk, hlen, hbe⟩ := hrel
    have hr1 : wr.cell? ⟨N, 1, none⟩ = some (.slice DA docs.length dc) := cell_of_row wr N 1 _ _ _ (blk_below HROW.out hbe)
    have HBE := Lib.hid hbe
    clear hbe
    rcases (show q = docs.length ∨ q < docs.length by omega) with rfl | hql
    · have hd : decide ((docs.length : Int) < (docs.length : Int)) = false := by simp
      rw [List.take_length] at hk
      have HK := Lib.hid hk
      have HRT := Lib.hid hrt
      obtain ⟨QA, qc, rfl, -, -⟩ := hrt
      clear hk hlen
      go_wp2_with fail
      go_ret
      exact ⟨_, _, rfl, HRT.out, HK.out, HBEL.out.trans (HBE.out.mono HBEL.out.size)⟩
    · have hd : decide ((q : Int) < (docs.length : Int)) = true := by simp; omega
      have hd' : decide (q < docs.length) = true := by simp; omega
      obtain ⟨bd, od, rfl, hrows⟩ := HEL.out.resolve_left (by omega)
      obtain ⟨cs, hcsl, hcells, d, hdk, hdr⟩ := hrows q hql
      obtain ⟨sq', nd, ch, gr, gn, rfl, -, -, hgs, -, -⟩ := hdr
      obtain ⟨GA, gc, rfl, hgl0, hgcm, -, hgel⟩ := hgs
      have hgl : d.grants.length ≤ 9223372036854775807 := by unfold maxLen at hgcm; omega
      have HC4 := Lib.hid (show ∀ W', Below W0.heap.size W0 W' → W'.cell? ⟨bd, od + q * 6 + 4, none⟩ = some (.slice GA d.grants.length gc) from fun W' hb => below_cell hb (below_cell HBEL.out (hcells.2 4 _ rfl)))
      have HGE := Lib.hid hgel
      have hdk' : docs[q] = d := by rw [List.getElem?_eq_getElem hql] at hdk; injection hdk
      have HTK := Lib.hid (show pairs (docs.take (q + 1)) = pairs (docs.take q) ++ d.grants from by rw [pairs_take docs q hql, hdk'])
      have HPRE := Lib.hid (show ∀ j, j ≤ d.grants.length → ∃ k, pairs (docs.take q) ++ d.grants.take j = (pairs docs).take k from fun j hj => by rw [← hdk'] at hj ⊢; exact pairs_prefix docs q hql j hj)
      have HK := Lib.hid hk
      have HRT := Lib.hid hrt
      have HLEN := Lib.hid hlen
      obtain ⟨QA, qc, rfl, -, -⟩ := hrt
      clear hrows hcells hgel hdk hdk' hk hlen hcsl hgcm hgl0
      go_wp2_with fail
      go_loopw [5, 7] (fun vl vj wq => ∃ (j : Nat) (lq : List S), vj = .int .i64 (j : Int) ∧ j ≤ d.grants.length ∧ RT wq vl lq ∧ Keys lq (chF u (pairs (docs.take q) ++ d.grants.take j)) ∧ lq.length ≤ (pairs (docs.take q)).length + j ∧ Below W0.heap.size W0 wq) (fun _ vj _ => d.grants.length - (intOf vj).toNat)
      case atStart => exact ⟨0, lq, rfl, Nat.zero_le _, HRT.out, by rw [List.take_zero, List.append_nil]; exact HK.out, HLEN.out, HBE.out⟩
      case round =>
        clear HK HRT HLEN hr1
        obtain ⟨j, lq, rfl, hj, hrt, hk, hlen, hbq⟩ := hrel
        have HBQ := Lib.hid hbq
        have hr1 : wr.cell? ⟨N, 1, none⟩ = some (.slice (some ⟨bd, od, none⟩) docs.length dc) := cell_of_row wr N 1 _ _ _ (blk_below HROW.out hbq)
        have hc4 := HC4.out wr hbq
        clear hbq
        rcases (show j = d.grants.length ∨ j < d.grants.length by omega) with rfl | hjl
        · have hdd : decide ((d.grants.length : Int) < (d.grants.length : Int)) = false := by simp
          rw [List.take_length, ← HTK.out] at hk
          have HKQ := Lib.hid hk
          have HRQ := Lib.hid hrt
          have HLQ := Lib.hid (show lq.length ≤ (pairs (docs.take (q + 1))).length from by rw [HTK.out, List.length_append]; exact hlen)
          obtain ⟨QA, qc, rfl, -, -⟩ := hrt
          clear hk hlen
          go_wp2_with (refine wpList_index_n rfl _ _ 45 23 6 rfl bd od docs.length dc q rfl rfl hql Try.underlying23 info45 ?_)
          go_roundw
          case rel => exact ⟨q + 1, _, rfl, by omega, HRQ.out, HKQ.out, HLQ.out, HBQ.out⟩
          case measure => simp [intOf]; omega
        · have hdd : decide ((j : Int) < (d.grants.length : Int)) = true := by simp; omega
          have hdd' : decide (j < d.grants.length) = true := by simp; omega
          obtain ⟨bg, og, rfl, hgr⟩ := HGE.out.resolve_left (by omega)
          obtain ⟨csg, -, hcg, x, hxj, rfl⟩ := hgr j hjl
          have hg0 : wr.cell? ⟨bg, og + j * 2, none⟩ = some (encStr x.1) := below_cell HBQ.out (below_cell HBEL.out (hcg.2 0 _ rfl))
          have hg1 : wr.cell? ⟨bg, og + j * 2 + 1, none⟩ = some (encStr x.2) := below_cell HBQ.out (below_cell HBEL.out (hcg.2 1 _ rfl))
          have HXJ := Lib.hid (show d.grants.take (j + 1) = d.grants.take j ++ [x] by rw [List.take_add_one, hxj]; rfl)
          obtain ⟨kp, hkp⟩ := HPRE.out (j + 1) (by omega)
          have hsub : ∀ p ∈ pairs (docs.take q) ++ d.grants.take (j + 1), p ∈ pairs docs := fun p hp => List.mem_of_mem_take (by rw [hkp] at hp; exact hp)
          have HXL := Lib.hid (show x.2.length ≤ maxLen from (HPLE.out x (hsub x (by rw [HXJ.out]; simp))).2)
          have HPL := Lib.hid (show lq.length ≤ (pairs docs).length from by
            have h1 := congrArg List.length hkp
            rw [List.length_append, List.length_take, List.length_take, Nat.min_eq_left (by omega)] at h1
            omega)
          have HLE := Lib.hid (show ∀ y ∈ (chF u (pairs (docs.take q) ++ d.grants.take j)), y.length ≤ maxLen from fun y hy => by
            obtain ⟨p, hp, rfl⟩ := List.mem_map.1 hy
            have hp' : p ∈ pairs (docs.take q) ++ d.grants.take j := (List.mem_filter.1 hp).1
            exact (HPLE.out p (hsub p (by rw [HXJ.out, ← List.append_assoc]; exact List.mem_append.2 (.inl hp')))).2)
          clear hgr hcg hxj hkp hsub
          by_cases hxu : x.1 = u
          · have hqq : (x.1 == u) = true := by simpa using hxu
            have HXU := Lib.hid hxu
            clear hxu
            have hpt := put_any lq _ x.2 wr hrt (by have := HPL.out; have := HFIT.out; omega) (fun y hy => HLE.out y ((hk.2 y).1 hy)) HXL.out
            have HPT := Lib.hid hpt
            have HKQ := Lib.hid hk
            have HLQ := Lib.hid hlen
            obtain ⟨QA, qc, rfl, -, -⟩ := hrt
            clear hk hlen hpt
            go_wp2_with (first
              | (refine wpList_index_n rfl _ _ 45 23 6 rfl bd od docs.length dc q rfl rfl hql Try.underlying23 info45 ?_)
              | (refine wpList_index_n rfl _ _ 48 43 2 rfl bg og d.grants.length gc j rfl rfl hjl Try.underlying43 info48 ?_))
            refine HPT.out.mono ?_
            rintro e w2 ⟨v2, rfl, htx2, hb2⟩
            have HB2 := Lib.hid (HBQ.out.trans (hb2.mono HBQ.out.size))
            have HT2 := Lib.hid htx2.rt
            have HK2 := Lib.hid (show Keys (putL lq x.2) (chF u (pairs (docs.take q) ++ d.grants.take (j + 1))) from by
              rw [HXJ.out, ← List.append_assoc, chF_snoc, if_pos HXU.out]
              exact putL_keys HKQ.out)
            have HL2 := Lib.hid (show (putL lq x.2).length ≤ (pairs (docs.take q)).length + (j + 1) from by have := putL_len lq x.2; have := HLQ.out; omega)
            clear hb2 htx2 HPT HKQ HLQ hr1 hc4 hqq hg0 hg1
            go_wp2_with fail
            go_roundw
            case rel => exact ⟨j + 1, _, rfl, by omega, HT2.out, HK2.out, HL2.out, HB2.out⟩
            case measure => simp [intOf]; omega
          · have hqq : (x.1 == u) = false := by simpa using hxu
            have HKQ := Lib.hid (show Keys lq (chF u (pairs (docs.take q) ++ d.grants.take (j + 1))) from by rw [HXJ.out, ← List.append_assoc, chF_snoc, if_neg hxu]; exact hk)
            have HRQ := Lib.hid hrt
            have HLQ := Lib.hid (show lq.length ≤ (pairs (docs.take q)).length + (j + 1) from by omega)
            obtain ⟨QA, qc, rfl, -, -⟩ := hrt
            clear hxu hk hlen
            go_wp2_with (first
              | (refine wpList_index_n rfl _ _ 45 23 6 rfl bd od docs.length dc q rfl rfl hql Try.underlying23 info45 ?_)
              | (refine wpList_index_n rfl _ _ 48 43 2 rfl bg og d.grants.length gc j rfl rfl hjl Try.underlying43 info48 ?_))
            go_roundw
            case rel => exact ⟨j + 1, _, rfl, by omega, HRQ.out, HKQ.out, HLQ.out, HBQ.out⟩
            case measure => simp [intOf]; omega

set_option maxHeartbeats 4000000 in
set_option maxRecDepth 4000 in
theorem refUsers_any (docs : List Doc) (sq : Int) (dv lv sv : Value) (w : World) (B0 : Nat) (hds : DS (fun _ _ => True) B0 w dv docs) (hfit : (pairs docs).length ≤ 99999) :
    Calls Try.prog 17 #[.agg (stV sq dv lv sv)] w fun e w' => ∃ v l, e = .returned v ∧ RT w' v l ∧ Keys l ((pairs docs).map (·.1)) ∧ Below w.heap.size w w' := by
  have hple := pairs_le hds
  obtain ⟨DA, dc, rfl, hdc1, hdc2, hel⟩ := hds
  have hdl1 : docs.length ≤ 9223372036854775807 := by unfold maxLen at hdc2; omega
  obtain ⟨N, hN⟩ : ∃ N, N = w.heap.size := ⟨_, rfl⟩
  obtain ⟨W0, hW0⟩ : ∃ W0, W0 = w.alloc (.cells (stV sq (.slice DA docs.length dc) lv sv) 27) := ⟨_, rfl⟩
  have hrow : W0.heap[N]? = some (.cells (stV sq (.slice DA docs.length dc) lv sv) 27 (0, 0)) := by rw [hW0, hN]; exact World.alloc_heap_new w _
  have hbel : Below w.heap.size w W0 := by rw [hW0]; exact (Below.refl _ w).alloc (Nat.le_refl _) _
  have HROW := Lib.hid hrow
  have HBEL := Lib.hid hbel
  have HN := Lib.hid hN
  have HEL := Lib.hid hel
  have HFIT := Lib.hid hfit
  have HPLE := Lib.hid hple
  clear hrow hbel hel hdc1 hdc2 hfit hple
  go_enter Try.func17, Try.ntmps17
  go_upto_region 1 with fail
  rw [← HN.out, ← hW0]
  clear hN hW0
  go_wp2_with fail
  go_loopw [3, 4] (fun vl vi wr => ∃ (q : Nat) (lq : List S), vi = .int .i64 (q : Int) ∧ q ≤ docs.length ∧ RT wr vl lq ∧ Keys lq ((pairs (docs.take q)).map (·.1)) ∧ lq.length ≤ (pairs (docs.take q)).length ∧ Below W0.heap.size W0 wr) (fun _ vi _ => docs.length - (intOf vi).toNat)
  case atStart => exact ⟨0, [], rfl, Nat.zero_le _, ⟨none, 0, rfl, Nat.zero_le _, .inl rfl⟩, ⟨List.Pairwise.nil, fun x => by simp [pairs]⟩, Nat.zero_le _, Below.refl _ _⟩
  case round =>
    obtain ⟨q, lq, rfl, hq, hrt, hk, hlen, hbe⟩ := hrel
    have hr1 : wr.cell? ⟨N, 1, none⟩ = some (.slice DA docs.length dc) := cell_of_row wr N 1 _ _ _ (blk_below HROW.out hbe)
    have HBE := Lib.hid hbe
    clear hbe
    rcases (show q = docs.length ∨ q < docs.length by omega) with rfl | hql
    · have hd : decide ((docs.length : Int) < (docs.length : Int)) = false := by simp
      rw [List.take_length] at hk
      have HK := Lib.hid hk
      have HRT := Lib.hid hrt
      obtain ⟨QA, qc, rfl, -, -⟩ := hrt
      clear hk hlen
      go_wp2_with fail
      go_ret
      exact ⟨_, _, rfl, HRT.out, HK.out, HBEL.out.trans (HBE.out.mono HBEL.out.size)⟩
    · have hd : decide ((q : Int) < (docs.length : Int)) = true := by simp; omega
      have hd' : decide (q < docs.length) = true := by simp; omega
      obtain ⟨bd, od, rfl, hrows⟩ := HEL.out.resolve_left (by omega)
      obtain ⟨cs, hcsl, hcells, d, hdk, hdr⟩ := hrows q hql
      obtain ⟨sq', nd, ch, gr, gn, rfl, -, -, hgs, -, -⟩ := hdr
      obtain ⟨GA, gc, rfl, hgl0, hgcm, -, hgel⟩ := hgs
      have hgl : d.grants.length ≤ 9223372036854775807 := by unfold maxLen at hgcm; omega
      have HC4 := Lib.hid (show ∀ W', Below W0.heap.size W0 W' → W'.cell? ⟨bd, od + q * 6 + 4, none⟩ = some (.slice GA d.grants.length gc) from fun W' hb => below_cell hb (below_cell HBEL.out (hcells.2 4 _ rfl)))
      have HGE := Lib.hid hgel
      have hdk' : docs[q] = d := by rw [List.getElem?_eq_getElem hql] at hdk; injection hdk
      have HTK := Lib.hid (show pairs (docs.take (q + 1)) = pairs (docs.take q) ++ d.grants from by rw [pairs_take docs q hql, hdk'])
      have HPRE := Lib.hid (show ∀ j, j ≤ d.grants.length → ∃ k, pairs (docs.take q) ++ d.grants.take j = (pairs docs).take k from fun j hj => by rw [← hdk'] at hj ⊢; exact pairs_prefix docs q hql j hj)
      have HK := Lib.hid hk
      have HRT := Lib.hid hrt
      have HLEN := Lib.hid hlen
      obtain ⟨QA, qc, rfl, -, -⟩ := hrt
      clear hrows hcells hgel hdk hdk' hk hlen hcsl hgcm hgl0
      go_wp2_with fail
      go_loopw [3, 5] (fun vl vj wq => ∃ (j : Nat) (lq : List S), vj = .int .i64 (j : Int) ∧ j ≤ d.grants.length ∧ RT wq vl lq ∧ Keys lq ((pairs (docs.take q) ++ d.grants.take j).map (·.1)) ∧ lq.length ≤ (pairs (docs.take q)).length + j ∧ Below W0.heap.size W0 wq) (fun _ vj _ => d.grants.length - (intOf vj).toNat)
      case atStart => exact ⟨0, lq, rfl, Nat.zero_le _, HRT.out, by rw [List.take_zero, List.append_nil]; exact HK.out, HLEN.out, HBE.out⟩
      case round =>
        clear HK HRT HLEN hr1
        obtain ⟨j, lq, rfl, hj, hrt, hk, hlen, hbq⟩ := hrel
        have HBQ := Lib.hid hbq
        have hr1 : wr.cell? ⟨N, 1, none⟩ = some (.slice (some ⟨bd, od, none⟩) docs.length dc) := cell_of_row wr N 1 _ _ _ (blk_below HROW.out hbq)
        have hc4 := HC4.out wr hbq
        clear hbq
        rcases (show j = d.grants.length ∨ j < d.grants.length by omega) with rfl | hjl
        · have hdd : decide ((d.grants.length : Int) < (d.grants.length : Int)) = false := by simp
          rw [List.take_length, ← HTK.out] at hk
          have HKQ := Lib.hid hk
          have HRQ := Lib.hid hrt
          have HLQ := Lib.hid (show lq.length ≤ (pairs (docs.take (q + 1))).length from by rw [HTK.out, List.length_append]; exact hlen)
          obtain ⟨QA, qc, rfl, -, -⟩ := hrt
          clear hk hlen
          go_wp2_with (refine wpList_index_n rfl _ _ 45 23 6 rfl bd od docs.length dc q rfl rfl hql Try.underlying23 info45 ?_)
          go_roundw
          case rel => exact ⟨q + 1, _, rfl, by omega, HRQ.out, HKQ.out, HLQ.out, HBQ.out⟩
          case measure => simp [intOf]; omega
        · have hdd : decide ((j : Int) < (d.grants.length : Int)) = true := by simp; omega
          have hdd' : decide (j < d.grants.length) = true := by simp; omega
          obtain ⟨bg, og, rfl, hgr⟩ := HGE.out.resolve_left (by omega)
          obtain ⟨csg, -, hcg, x, hxj, rfl⟩ := hgr j hjl
          have hg0 : wr.cell? ⟨bg, og + j * 2, none⟩ = some (encStr x.1) := below_cell HBQ.out (below_cell HBEL.out (hcg.2 0 _ rfl))
          have hg1 : wr.cell? ⟨bg, og + j * 2 + 1, none⟩ = some (encStr x.2) := below_cell HBQ.out (below_cell HBEL.out (hcg.2 1 _ rfl))
          have HXJ := Lib.hid (show d.grants.take (j + 1) = d.grants.take j ++ [x] by rw [List.take_add_one, hxj]; rfl)
          obtain ⟨kp, hkp⟩ := HPRE.out (j + 1) (by omega)
          have hsub : ∀ p ∈ pairs (docs.take q) ++ d.grants.take (j + 1), p ∈ pairs docs := fun p hp => List.mem_of_mem_take (by rw [hkp] at hp; exact hp)
          have HXL := Lib.hid (show x.1.length ≤ maxLen from (HPLE.out x (hsub x (by rw [HXJ.out]; simp))).1)
          have HPL := Lib.hid (show lq.length ≤ (pairs docs).length from by
            have h1 := congrArg List.length hkp
            rw [List.length_append, List.length_take, List.length_take, Nat.min_eq_left (by omega)] at h1
            omega)
          have HLE := Lib.hid (show ∀ y ∈ ((pairs (docs.take q) ++ d.grants.take j).map (·.1)), y.length ≤ maxLen from fun y hy => by
            obtain ⟨p, hp, rfl⟩ := List.mem_map.1 hy
            have hp' : p ∈ pairs (docs.take q) ++ d.grants.take j := hp
            exact (HPLE.out p (hsub p (by rw [HXJ.out, ← List.append_assoc]; exact List.mem_append.2 (.inl hp')))).1)
          clear hgr hcg hxj hkp hsub
          have hpt := put_any lq _ x.1 wr hrt (by have := HPL.out; have := HFIT.out; omega) (fun y hy => HLE.out y ((hk.2 y).1 hy)) HXL.out
          have HPT := Lib.hid hpt
          have HKQ := Lib.hid hk
          have HLQ := Lib.hid hlen
          obtain ⟨QA, qc, rfl, -, -⟩ := hrt
          clear hk hlen hpt
          go_wp2_with (first
            | (refine wpList_index_n rfl _ _ 45 23 6 rfl bd od docs.length dc q rfl rfl hql Try.underlying23 info45 ?_)
            | (refine wpList_index_n rfl _ _ 48 43 2 rfl bg og d.grants.length gc j rfl rfl hjl Try.underlying43 info48 ?_))
          refine HPT.out.mono ?_
          rintro e w2 ⟨v2, rfl, htx2, hb2⟩
          have HB2 := Lib.hid (HBQ.out.trans (hb2.mono HBQ.out.size))
          have HT2 := Lib.hid htx2.rt
          have HK2 := Lib.hid (show Keys (putL lq x.1) ((pairs (docs.take q) ++ d.grants.take (j + 1)).map (·.1)) from by
            rw [HXJ.out, ← List.append_assoc, List.map_append, List.map_singleton]
            exact putL_keys HKQ.out)
          have HL2 := Lib.hid (show (putL lq x.1).length ≤ (pairs (docs.take q)).length + (j + 1) from by have := putL_len lq x.1; have := HLQ.out; omega)
          clear hb2 htx2 HPT HKQ HLQ hr1 hc4 hg0 hg1
          go_wp2_with fail
          go_roundw
          case rel => exact ⟨j + 1, _, rfl, by omega, HT2.out, HK2.out, HL2.out, HB2.out⟩
          case measure => simp [intOf]; omega
end Go.Proofs.Ytncjgfhipflokaa
