/-
  tidewrackref17.By.
  tidewrackref17.All.
-/
import Derived.Test.YtncjgfhipflokaaXd
namespace Go.Proofs.Ytncjgfhipflokaa
open Go.RowKit Go.Shelf Hp Go.Maps

theorem find_of {docs : List Doc} {k : Nat} {d : Doc} {id : S} (hk : docs[k]? = some d) (hd : d.id = id) (hf : ∀ e ∈ docs.take k, e.id ≠ id) : docs.find? (fun e => decide (e.id = id)) = some d := by
  have h1 : docs = docs.take k ++ ([d] ++ docs.drop (k + 1)) := by
    obtain ⟨hlt, he⟩ := List.getElem?_eq_some_iff.1 hk
    rw [← he, List.singleton_append, List.getElem_cons_drop, List.take_append_drop]
  have h2 : (docs.take k).find? (fun x => decide (x.id = id)) = none := by
    rw [List.find?_eq_none]
    intro x hx
    simpa using hf x hx
  have h3 := congrArg (fun l : List Doc => l.find? (fun x => decide (x.id = id))) h1
  simp only [List.find?_append, h2, Option.none_or] at h3
  rw [h3]
  simp [hd]
theorem byOf_at {docs : List Doc} {u id : S} {d : Doc} (h : docs.find? (fun e => decide (e.id = id)) = some d) : byOf docs u id = least (kp (chansOf docs u) d.chans) := by
  unfold byOf
  rw [h]
  rfl
theorem byOf_hit {docs : List Doc} {u id : S} {d : Doc} {l : List S} {i : Nat} (h : docs.find? (fun e => decide (e.id = id)) = some d) (hk : Keys l (chansOf docs u)) (hi : i < l.length) (hc : at_ l i ∈ d.chans) (hf : ∀ x ∈ l.take i, x ∉ d.chans) : byOf docs u id = some (at_ l i) := by
  rw [byOf_at h]
  refine least_of (List.mem_filter.2 ⟨hc, by simpa using hk.mem_at hi⟩) (fun x hx => ?_)
  obtain ⟨h1, h2⟩ := List.mem_filter.1 hx
  have h3 : x ∈ l := (hk.2 x).2 (by simpa using h2)
  obtain ⟨j, hj, rfl⟩ := List.getElem_of_mem h3
  rcases Nat.lt_or_ge j i with hlt | hge
  · refine absurd h1 (hf _ ?_)
    rw [List.mem_iff_getElem?]
    exact ⟨j, by rw [List.getElem?_take_of_lt hlt, List.getElem?_eq_getElem hj]⟩
  · rcases Nat.lt_or_ge i j with h5 | h5
    · rw [at_get hi]
      exact List.le_of_lt ((List.pairwise_iff_getElem.1 hk.1) i j hi hj h5)
    · obtain rfl : i = j := by omega
      rw [at_get hi]
      exact List.le_refl _
theorem byOf_miss {docs : List Doc} {u id : S} {d : Doc} {l : List S} (h : docs.find? (fun e => decide (e.id = id)) = some d) (hk : Keys l (chansOf docs u)) (hf : ∀ x ∈ l, x ∉ d.chans) : byOf docs u id = none := by
  rw [byOf_at h]
  have : kp (chansOf docs u) d.chans = [] := by
    unfold kp
    rw [List.filter_eq_nil_iff]
    intro c hc
    simp only [decide_eq_true_eq]
    intro h2
    exact hf c ((hk.2 c).2 h2) hc
  rw [this, least_nil]

set_option maxHeartbeats 4000000 in
set_option maxRecDepth 4000 in
theorem refBy_any (docs : List Doc) (sq : Int) (dv lv sv : Value) (w : World) (u id : S) (B0 : Nat) (hds : DS (fun _ _ => True) B0 w dv docs) (hfit : (pairs docs).length ≤ 99999) :
    Calls Try.prog 11 #[.agg (stV sq dv lv sv), encStr u, encStr id] w fun e w' => e = .returned (.tuple #[encStr ((byOf docs u id).getD []), .bool (byOf docs u id).isSome]) ∧ Below w.heap.size w w' := by
  have hds0 := hds
  obtain ⟨DA, dc, rfl, hdc1, hdc2, hel⟩ := hds
  have hdl1 : docs.length ≤ 9223372036854775807 := by unfold maxLen at hdc2; omega
  obtain ⟨N, hN⟩ : ∃ N, N = w.heap.size := ⟨_, rfl⟩
  obtain ⟨W0, hW0⟩ : ∃ W0, W0 = w.alloc (.cells (stV sq (.slice DA docs.length dc) lv sv) 27) := ⟨_, rfl⟩
  have hrow : W0.heap[N]? = some (.cells (stV sq (.slice DA docs.length dc) lv sv) 27 (0, 0)) := by rw [hW0, hN]; exact World.alloc_heap_new w _
  have hbel : Below w.heap.size w W0 := by rw [hW0]; exact (Below.refl _ w).alloc (Nat.le_refl _) _
  have HROW := Lib.hid hrow
  have HBEL := Lib.hid hbel
  have HN := Lib.hid hN
  have HEL := Lib.hid hel
  have HDS := Lib.hid hds0
  have HFIT := Lib.hid hfit
  have HFIND := Lib.hid (find_any docs sq _ lv sv W0 id B0 (hds0.low trueT (Low.of_all hbel)))
  clear hrow hbel hel hdc1 hdc2 hfit hds0
  go_enter Try.func11, Try.ntmps11
  go_upto_region 1 with fail
  rw [← HN.out, ← hW0]
  clear hN hW0
  go_wp2_with (refine wpList_load_row rfl 27 _ rfl N rfl 27 _ (0, 0) _ HROW.out Try.underlying27 rfl (by kernel_rfl) ?_)
  refine HFIND.out.mono ?_
  rintro e w1 ⟨⟨z, rfl, hz⟩, hb1⟩
  have HB1 := Lib.hid (HBEL.out.trans (hb1.mono HBEL.out.size))
  have HR1 := Lib.hid (blk_below HROW.out hb1)
  clear hb1 HFIND HROW
  rcases hz with ⟨rfl, hno⟩ | ⟨k, d, rfl, hkd, hid, hfk⟩
  · have hby : byOf docs u id = none := by
      unfold byOf
      rw [List.find?_eq_none.2 (fun x hx => by simpa using hno x hx)]
      rfl
    have HBY := Lib.hid hby
    clear hby hno
    go_wp2_with fail
    refine bodyPost_ret (results_tt (P := Try.prog) (p := 6) (q := 7) rfl _ _) rfl ?_
    exact ⟨by rw [HBY.out]; rfl, HB1.out⟩
  · have hdk : decide ((k : Int) < 0) = false := by simp
    have hkl : k < docs.length := (List.getElem?_eq_some_iff.1 hkd).1
    have HFD := Lib.hid (find_of hkd hid hfk)
    have HOF := Lib.hid (refOf_any docs sq _ lv sv w1 u B0 (HDS.out.low trueT (Low.of_all HB1.out)) HFIT.out)
    have HKD := Lib.hid hkd
    clear hid hfk hkd
    go_wp2_with (refine wpList_load_row rfl 27 _ rfl N rfl 27 _ (0, 0) _ HR1.out Try.underlying27 rfl (by kernel_rfl) ?_)
    refine HOF.out.mono ?_
    rintro e w2 ⟨v, l, rfl, hrt, hks, hb2⟩
    obtain ⟨OA, oc, rfl, holm, hol⟩ := hrt
    have hol1 : l.length ≤ 9223372036854775807 := holm
    have HOL := Lib.hid hol
    have HKS := Lib.hid hks
    have HB2 := Lib.hid (HB1.out.trans (hb2.mono HB1.out.size))
    have HR2 := Lib.hid (blk_below HR1.out hb2)
    clear hol hks holm hb2 HOF HB1 HR1 hdk
    obtain ⟨bd, od, rfl, hrows⟩ := HEL.out.resolve_left (by omega)
    obtain ⟨cs, hcsl, hcells, d', hdk', hdr⟩ := hrows k hkl
    obtain rfl : d = d' := by rw [HKD.out] at hdk'; injection hdk'
    obtain ⟨sq', nd, ch, gr, gn, rfl, -, hss, -, -, -⟩ := hdr
    obtain ⟨CA, cc, rfl, hcl0, hcm, -, hce⟩ := hss
    have hcl1 : d.chans.length ≤ 9223372036854775807 := by unfold maxLen at hcm; omega
    have HCH := Lib.hid (show ∀ W', Below w2.heap.size w2 W' → W'.cell? ⟨bd, od + k * 6 + 3, none⟩ = some (.slice CA d.chans.length cc) from fun W' hb => below_cell hb (below_cell HB2.out (hcells.2 3 _ rfl)))
    have HCE := Lib.hid hce
    clear hrows hcells hdk' hce hcsl hcl0 hcm
    go_wp2_with fail
    go_loopw [10] (fun vi wr => ∃ q : Nat, vi = .int .i64 (q : Int) ∧ q ≤ l.length ∧ Below w2.heap.size w2 wr ∧ ∀ x ∈ l.take q, x ∉ d.chans) (fun vi _ => l.length - (intOf vi).toNat)
    case atStart => exact ⟨0, rfl, Nat.zero_le _, Below.refl _ _, fun x hx => absurd hx (by simp)⟩
    case round =>
      obtain ⟨q, rfl, hq, hbl, hno⟩ := hrel
      have HBL := Lib.hid hbl
      have HNO := Lib.hid hno
      clear hbl hno
      rcases (show q = l.length ∨ q < l.length by omega) with rfl | hil
      · have hd : decide ((l.length : Int) < (l.length : Int)) = false := by simp
        rw [List.take_length] at HNO
        have HBY := Lib.hid (byOf_miss HFD.out HKS.out HNO.out)
        clear HNO
        go_wp2_with fail
        refine bodyPost_ret (results_tt (P := Try.prog) (p := 6) (q := 7) rfl _ _) rfl ?_
        exact ⟨by rw [HBY.out]; rfl, HB2.out.trans (HBL.out.mono HB2.out.size)⟩
      · have hd : decide ((q : Int) < (l.length : Int)) = true := by simp; omega
        have hd' : decide (q < l.length) = true := by simp; omega
        obtain ⟨bo, oo, rfl, hlo⟩ := HOL.out.resolve_left (by omega)
        have HLX := Lib.hid (hlo q hil)
        clear hlo
        go_wp2_with fail
        go_loopw [11] (fun vj wq => ∃ q2 : Nat, vj = .int .i64 (q2 : Int) ∧ q2 ≤ d.chans.length ∧ Below w2.heap.size w2 wq ∧ ∀ x ∈ d.chans.take q2, x ≠ at_ l q) (fun vj _ => d.chans.length - (intOf vj).toNat)
        case atStart => exact ⟨0, rfl, Nat.zero_le _, HBL.out, fun x hx => absurd hx (by simp)⟩
        case round =>
          clear HBL
          obtain ⟨q2, rfl, hq2, hbl, hnx⟩ := hrel
          have HBL := Lib.hid hbl
          have HNX := Lib.hid hnx
          have hr1 : wr.cell? ⟨N, 1, none⟩ = some (.slice (some ⟨bd, od, none⟩) docs.length dc) := cell_of_row wr N 1 _ _ _ (blk_below HR2.out hbl)
          have hch := HCH.out wr hbl
          clear hbl hnx
          rcases (show q2 = d.chans.length ∨ q2 < d.chans.length by omega) with rfl | hjl
          · have hdd : decide ((d.chans.length : Int) < (d.chans.length : Int)) = false := by simp
            rw [List.take_length] at HNX
            have HNO2 := Lib.hid (show ∀ x ∈ l.take (q + 1), x ∉ d.chans from fun x hx => by
              rcases (mem_take_succ hil x).1 hx with hx | hx
              · exact HNO.out x hx
              · rw [← hx]; exact fun hm => HNX.out _ hm rfl)
            go_wp2_with (refine wpList_index_n rfl _ _ 45 23 6 rfl bd od docs.length dc k rfl rfl hkl Try.underlying23 info45 ?_)
            go_roundw
            case rel => exact ⟨q + 1, rfl, by omega, HBL.out, HNO2.out⟩
            case measure => simp [intOf]; omega
          · have hdd : decide ((q2 : Int) < (d.chans.length : Int)) = true := by simp; omega
            have hdd' : decide (q2 < d.chans.length) = true := by simp; omega
            obtain ⟨bc, oc1, rfl, hcs⟩ := HCE.out.resolve_left (by omega)
            obtain ⟨cs1, -, hcc, rfl⟩ := hcs q2 hjl
            have hcx : wr.cell? ⟨bc, oc1 + q2, none⟩ = some (encStr (at_ d.chans q2)) := below_cell HBL.out (below_cell HB2.out (by have := hcc.2 0 _ rfl; simpa using this))
            have hlx : wr.cell? ⟨bo, oo + q, none⟩ = some (encStr (at_ l q)) := below_cell HBL.out HLX.out
            clear hcs hcc
            go_upto_region 11 with (refine wpList_index_n rfl _ _ 45 23 6 rfl bd od docs.length dc k rfl rfl hkl Try.underlying23 info45 ?_)
            refine region_f 14 (fun i vs W => match i with
                | 0 => vs 0 = .pointer (some ⟨N, 0 + 1, none⟩)
                | 1 => vs 1 = .slice (some ⟨bd, od, none⟩) docs.length dc
                | 2 => vs 2 = .int .i64 (k : Int)
                | 3 => vs 3 = .pointer (some ⟨bd, od + k * 6, none⟩)
                | 4 => vs 4 = .pointer (some ⟨bd, od + k * 6 + 3, none⟩)
                | 5 => vs 5 = .slice (some ⟨bc, oc1, none⟩) d.chans.length cc
                | 6 => vs 6 = .int .i64 (q2 : Int)
                | 7 => vs 7 = .pointer (some ⟨bc, oc1 + (q2), none⟩)
                | 8 => vs 8 = encStr (at_ d.chans q2)
                | 9 => vs 9 = .slice (some ⟨bo, oo, none⟩) l.length oc
                | 10 => vs 10 = .int .i64 (q : Int)
                | 11 => vs 11 = .pointer (some ⟨bo, oo + (q), none⟩)
                | 12 => vs 12 = encStr (at_ l q)
                | 13 => vs 13 = .bool (at_ d.chans q2 == at_ l q)
                | _ => True) (fun _ W W' => Below W.heap.size W W') (fun W => Below wr.heap.size wr W) (by kernel_rfl) (by kernel_rfl) ?hsta ?h0a ?stepa ?fina
            case hsta =>
              intro i k vs W W' _ _ h hG
              match i, h with
              | 0, h => exact h
              | 1, h => exact h
              | 2, h => exact h
              | 3, h => exact h
              | 4, h => exact h
              | 5, h => exact h
              | 6, h => exact h
              | 7, h => exact h
              | 8, h => exact h
              | 9, h => exact h
              | 10, h => exact h
              | 11, h => exact h
              | 12, h => exact h
              | 13, h => exact h
              | n + 14, _ => trivial
            case h0a => exact (Below.refl _ _).drew
            case stepa =>
              intro i op hi ho ac W hS hag hdep
              have hbr : Below W.heap.size W W := Below.refl _ _
              match i, hi, ho with
              | 0, _, rfl =>
                exact ow_field fld27_1 _ rfl N (0) (hag 3 rfl) ⟨_, rfl, fun vs' h _ => h (fun e => by cases e), hbr, hS⟩
              | 1, _, rfl =>
                have hp : ac.eval (.tmp 37) = .pointer (some ⟨N, 0 + 1, none⟩) := hdep 0 (by omega) (by kernel_rfl)
                exact ow_load_slice' _ 45 23 rfl N (0 + 1) hp (some ⟨bd, od, none⟩) docs.length dc (below_cell hS hr1) Try.underlying23 ⟨_, rfl, fun vs' h _ => h (fun e => by cases e), hbr, hS⟩
              | 2, _, rfl =>
                exact ow_move _ rfl (v := .int .i64 (k : Int)) (hag 8 rfl) ⟨_, rfl, fun vs' h _ => h (fun e => by cases e), hbr, hS⟩
              | 3, _, rfl =>
                have hs : ac.eval (.tmp 38) = .slice (some ⟨bd, od, none⟩) docs.length dc := hdep 1 (by omega) (by kernel_rfl)
                have hi : ac.eval (.tmp 39) = .int .i64 (k : Int) := hdep 2 (by omega) (by kernel_rfl)
                exact ow_index_n _ _ 45 23 6 rfl bd od docs.length dc k hs hi hkl Try.underlying23 info45 ⟨_, rfl, fun vs' h _ => h (fun e => by cases e), hbr, hS⟩
              | 4, _, rfl =>
                have hp : ac.eval (.tmp 40) = .pointer (some ⟨bd, od + k * 6, none⟩) := hdep 3 (by omega) (by kernel_rfl)
                exact ow_field fld45_3 _ rfl bd (od + k * 6) hp ⟨_, rfl, fun vs' h _ => h (fun e => by cases e), hbr, hS⟩
              | 5, _, rfl =>
                have hp : ac.eval (.tmp 41) = .pointer (some ⟨bd, od + k * 6 + 3, none⟩) := hdep 4 (by omega) (by kernel_rfl)
                exact ow_load_slice' _ 9 35 rfl bd (od + k * 6 + 3) hp (some ⟨bc, oc1, none⟩) d.chans.length cc (below_cell hS hch) Try.underlying35 ⟨_, rfl, fun vs' h _ => h (fun e => by cases e), hbr, hS⟩
              | 6, _, rfl =>
                exact ow_move _ rfl (v := .int .i64 (q2 : Int)) (hag 11 rfl) ⟨_, rfl, fun vs' h _ => h (fun e => by cases e), hbr, hS⟩
              | 7, _, rfl =>
                have hs : ac.eval (.tmp 42) = .slice (some ⟨bc, oc1, none⟩) d.chans.length cc := hdep 5 (by omega) (by kernel_rfl)
                have hi : ac.eval (.tmp 43) = .int .i64 (q2 : Int) := hdep 6 (by omega) (by kernel_rfl)
                exact ow_index _ _ 9 35 rfl bc oc1 d.chans.length cc (q2) hs hi hjl Try.underlying35 tag9 ⟨_, rfl, fun vs' h _ => h (fun e => by cases e), hbr, hS⟩
              | 8, _, rfl =>
                have hp : ac.eval (.tmp 44) = .pointer (some ⟨bc, oc1 + (q2), none⟩) := hdep 7 (by omega) (by kernel_rfl)
                exact ow_load_str _ 9 rfl bc (oc1 + (q2)) hp _ (below_cell hS hcx) Try.underlying9 ⟨_, rfl, fun vs' h _ => h (fun e => by cases e), hbr, hS⟩
              | 9, _, rfl =>
                exact ow_move _ rfl (v := .slice (some ⟨bo, oo, none⟩) l.length oc) (hag 9 rfl) ⟨_, rfl, fun vs' h _ => h (fun e => by cases e), hbr, hS⟩
              | 10, _, rfl =>
                exact ow_move _ rfl (v := .int .i64 (q : Int)) (hag 10 rfl) ⟨_, rfl, fun vs' h _ => h (fun e => by cases e), hbr, hS⟩
              | 11, _, rfl =>
                have hs : ac.eval (.tmp 46) = .slice (some ⟨bo, oo, none⟩) l.length oc := hdep 9 (by omega) (by kernel_rfl)
                have hi : ac.eval (.tmp 47) = .int .i64 (q : Int) := hdep 10 (by omega) (by kernel_rfl)
                exact ow_index _ _ 9 35 rfl bo oo l.length oc (q) hs hi hil Try.underlying35 tag9 ⟨_, rfl, fun vs' h _ => h (fun e => by cases e), hbr, hS⟩
              | 12, _, rfl =>
                have hp : ac.eval (.tmp 48) = .pointer (some ⟨bo, oo + (q), none⟩) := hdep 11 (by omega) (by kernel_rfl)
                exact ow_load_str _ 9 rfl bo (oo + (q)) hp _ (below_cell hS hlx) Try.underlying9 ⟨_, rfl, fun vs' h _ => h (fun e => by cases e), hbr, hS⟩
              | 13, _, rfl =>
                have h1 : ac.eval (.tmp 45) = encStr (at_ d.chans q2) := hdep 8 (by omega) (by kernel_rfl)
                have h2 : ac.eval (.tmp 49) = encStr (at_ l q) := hdep 12 (by omega) (by kernel_rfl)
                exact ow_eql_str _ _ _ rfl _ _ h1 h2 ⟨_, rfl, fun vs' h _ => h (fun e => by cases e), hbr, hS⟩
              | n + 14, hi, _ => exact absurd hi (by omega)
            case fina =>
              intro vs W hS hF
              have e13 : vs 13 = .bool (at_ d.chans q2 == at_ l q) := hF 13 (by omega)
              clear hF
              change wpList _ _ _ _ (Act.put (Act.put (Act.put (Act.put (Act.put (Act.put (Act.put (Act.put (Act.put (Act.put (Act.put (Act.put (Act.put (Act.put _ (some 37) (vs 0)) (some 38) (vs 1)) (some 39) (vs 2)) (some 40) (vs 3)) (some 41) (vs 4)) (some 42) (vs 5)) (some 43) (vs 6)) (some 44) (vs 7)) (some 45) (vs 8)) (some 46) (vs 9)) (some 47) (vs 10)) (some 48) (vs 11)) (some 49) (vs 12)) (some 50) (vs 13)) W
              rw [e13]
              clear e13
              generalize vs 0 = z0
              generalize vs 1 = z1
              generalize vs 2 = z2
              generalize vs 3 = z3
              generalize vs 4 = z4
              generalize vs 5 = z5
              generalize vs 6 = z6
              generalize vs 7 = z7
              generalize vs 8 = z8
              generalize vs 9 = z9
              generalize vs 10 = z10
              generalize vs 11 = z11
              generalize vs 12 = z12
              simp only [putAll, List.drop_succ_cons, List.drop_zero, Act.put, List.setIfInBounds_toArray, List.set_cons_zero, List.set_cons_succ]
              clear vs
              have HBL2 := Lib.hid (HBL.out.trans (hS.mono HBL.out.size))
              replace hlx := below_cell hS hlx
              clear hS hr1 hch hcx HBL
              by_cases hxu : at_ d.chans q2 = at_ l q
              · have hqq : (at_ d.chans q2 == at_ l q) = true := by simpa using hxu
                rw [hqq]
                have HBY := Lib.hid (byOf_hit HFD.out HKS.out hil (by rw [← hxu, at_get hjl]; exact List.getElem_mem hjl) HNO.out)
                clear hqq hxu
                go_wp2_with fail
                refine bodyPost_ret (results_tt (P := Try.prog) (p := 6) (q := 7) rfl _ _) rfl ?_
                exact ⟨by rw [HBY.out]; rfl, HB2.out.trans (HBL2.out.mono HB2.out.size)⟩
              · have hqq : (at_ d.chans q2 == at_ l q) = false := by simpa using hxu
                rw [hqq]
                have HNX2 := Lib.hid (show ∀ x ∈ d.chans.take (q2 + 1), x ≠ at_ l q from fun x hx => by
                  rcases (mem_take_succ hjl x).1 hx with hx | hx
                  · exact HNX.out x hx
                  · rw [← hx]; exact hxu)
                clear hqq hxu hlx
                go_wp2_with fail
                go_roundw
                case rel => exact ⟨q2 + 1, rfl, by omega, HBL2.out, HNX2.out⟩
                case measure => simp [intOf]; omega
end Go.Proofs.Ytncjgfhipflokaa

namespace Go.Proofs.Ytncjgfhipflokaa
open Go.RowKit Go.Shelf Hp Go.Maps

set_option maxHeartbeats 4000000 in
set_option maxRecDepth 4000 in
theorem refAll_any (docs : List Doc) (sq : Int) (dv lv sv : Value) (w : World) (u : S) (B0 : Nat) (hds : DS (fun _ _ => True) B0 w dv docs) (hfit : (pairs docs).length ≤ 99999) (hdl : docs.length ≤ 99999) :
    Calls Try.prog 19 #[.agg (stV sq dv lv sv), encStr u] w fun e w' => ∃ v l, e = .returned v ∧ RT w' v l ∧ Keys l (seenOf docs u) ∧ Below w.heap.size w w' := by
  have hds0 := hds
  obtain ⟨DA, dc, rfl, hdc1, hdc2, hel⟩ := hds
  have hdl1 : docs.length ≤ 9223372036854775807 := by omega
  obtain ⟨N, hN⟩ : ∃ N, N = w.heap.size := ⟨_, rfl⟩
  obtain ⟨W0, hW0⟩ : ∃ W0, W0 = w.alloc (.cells (stV sq (.slice DA docs.length dc) lv sv) 27) := ⟨_, rfl⟩
  have hrow : W0.heap[N]? = some (.cells (stV sq (.slice DA docs.length dc) lv sv) 27 (0, 0)) := by rw [hW0, hN]; exact World.alloc_heap_new w _
  have hbel : Below w.heap.size w W0 := by rw [hW0]; exact (Below.refl _ w).alloc (Nat.le_refl _) _
  have HROW := Lib.hid hrow
  have HBEL := Lib.hid hbel
  have HN := Lib.hid hN
  have HEL := Lib.hid hel
  have HDS := Lib.hid (hds0.low trueT (Low.of_all hbel))
  have HFIT := Lib.hid hfit
  clear hrow hbel hel hdc1 hdc2 hfit hds0
  go_enter Try.func19, Try.ntmps19
  go_upto_region 1 with fail
  rw [← HN.out, ← hW0]
  clear hN hW0
  go_wp2_with fail
  go_loopw [5, 6] (fun vl vi wr => ∃ (q : Nat) (lq : List S), vi = .int .i64 (q : Int) ∧ q ≤ docs.length ∧ RT wr vl lq ∧ Keys lq (seenF docs u (docs.take q)) ∧ lq.length ≤ q ∧ Below W0.heap.size W0 wr) (fun _ vi _ => docs.length - (intOf vi).toNat)
  case atStart => exact ⟨0, [], rfl, Nat.zero_le _, ⟨none, 0, rfl, Nat.zero_le _, .inl rfl⟩, ⟨List.Pairwise.nil, fun x => by simp [seenF]⟩, Nat.zero_le _, Below.refl _ _⟩
  case round =>
    obtain ⟨q, lq, rfl, hq, hrt, hk, hlen, hbe⟩ := hrel
    have hr1 : wr.cell? ⟨N, 1, none⟩ = some (.slice DA docs.length dc) := cell_of_row wr N 1 _ _ _ (blk_below HROW.out hbe)
    have HBE := Lib.hid hbe
    have HRT := Lib.hid hrt
    have HK := Lib.hid hk
    obtain ⟨QA, qc, rfl, -, -⟩ := hrt
    clear hbe hk
    rcases (show q = docs.length ∨ q < docs.length by omega) with rfl | hql
    · have hd : decide ((docs.length : Int) < (docs.length : Int)) = false := by simp
      rw [List.take_length] at HK
      clear hlen
      go_wp2_with fail
      go_ret
      exact ⟨_, _, rfl, HRT.out, HK.out, HBEL.out.trans (HBE.out.mono HBEL.out.size)⟩
    · have hd : decide ((q : Int) < (docs.length : Int)) = true := by simp; omega
      have hd' : decide (q < docs.length) = true := by simp; omega
      obtain ⟨bd, od, rfl, hrows⟩ := HEL.out.resolve_left (by omega)
      obtain ⟨cs, hcsl, hcells, e, hdk, hdr⟩ := hrows q hql
      obtain ⟨sq', nd, ch, gr, gn, rfl, hidl, -, -, -, -⟩ := hdr
      have HEX := Lib.hid (show ∀ W', Below W0.heap.size W0 W' → W'.cell? ⟨bd, od + q * 6 + 0, none⟩ = some (encStr e.id) from fun W' hb => below_cell hb (below_cell HBEL.out (hcells.2 0 _ rfl)))
      have hex := HEX.out wr HBE.out
      have hdk' : docs[q] = e := by rw [List.getElem?_eq_getElem hql] at hdk; injection hdk
      have HTK := Lib.hid (show docs.take (q + 1) = docs.take q ++ [e] from by rw [← List.take_append_getElem hql, hdk'])
      have HLE := Lib.hid (show ∀ y ∈ lq, y.length ≤ maxLen from fun y hy => by
        have h1 := (HK.out.2 y).1 hy
        obtain ⟨d2, h2, rfl⟩ := List.mem_map.1 h1
        have h3 := List.mem_of_mem_take (List.mem_filter.1 h2).1
        obtain ⟨i2, hi2, rfl⟩ := List.getElem_of_mem h3
        obtain ⟨cs2, _, _, d3, h4, h5⟩ := hrows i2 hi2
        rw [List.getElem?_eq_getElem hi2] at h4
        injection h4 with h4
        subst h4
        obtain ⟨_, _, _, _, _, _, h6, _⟩ := h5
        exact h6)
      have HIDL := Lib.hid hidl
      obtain ⟨c, hc⟩ : ∃ c, c = (byOf docs u e.id).getD [] := ⟨_, rfl⟩
      obtain ⟨b, hb⟩ : ∃ b, b = (byOf docs u e.id).isSome := ⟨_, rfl⟩
      have HC := Lib.hid hc
      have HBB := Lib.hid hb
      clear hrows hcells hdk hdk' hcsl hidl hc hb
      go_upto_region 5 with fail
      refine region_f 14 (fun i vs W => match i with
          | 0 => vs 0 = .agg (stV sq (.slice (some ⟨bd, od, none⟩) docs.length dc) lv sv)
          | 1 => vs 1 = encStr u
          | 2 => vs 2 = .pointer (some ⟨N, 0 + 1, none⟩)
          | 3 => vs 3 = .slice (some ⟨bd, od, none⟩) docs.length dc
          | 4 => vs 4 = .int .i64 (q : Int)
          | 5 => vs 5 = .pointer (some ⟨bd, od + q * 6, none⟩)
          | 6 => vs 6 = .pointer (some ⟨bd, od + q * 6 + 0, none⟩)
          | 7 => vs 7 = encStr e.id
          | 8 => vs 8 = .tuple #[encStr c, .bool b]
          | 9 => vs 9 = .tuple #[encStr c, .bool b]
          | 10 => vs 10 = encStr c
          | 11 => vs 11 = .bool b
          | 12 => vs 12 = encStr c
          | 13 => vs 13 = .bool b
          | _ => True) (fun _ W W' => Below W.heap.size W W') (fun W => Below wr.heap.size wr W) (by kernel_rfl) (by kernel_rfl) ?hsta ?h0a ?stepa ?fina
      case hsta =>
        intro i k vs W W' _ _ h hG
        match i, h with
        | 0, h => exact h
        | 1, h => exact h
        | 2, h => exact h
        | 3, h => exact h
        | 4, h => exact h
        | 5, h => exact h
        | 6, h => exact h
        | 7, h => exact h
        | 8, h => exact h
        | 9, h => exact h
        | 10, h => exact h
        | 11, h => exact h
        | 12, h => exact h
        | 13, h => exact h
        | n + 14, _ => trivial
      case h0a => exact (Below.refl _ _).drew
      case stepa =>
        intro i op hi ho ac W hS hag hdep
        have hbr : Below W.heap.size W W := Below.refl _ _
        match i, hi, ho with
        | 0, _, rfl =>
          exact ow_load_row 27 _ rfl N (hag 2 rfl) 27 _ (0, 0) _ (blk_below HROW.out (HBE.out.trans (hS.mono HBE.out.size))) Try.underlying27 rfl (by kernel_rfl) ⟨_, rfl, fun vs' h _ => h (fun e => by cases e), hbr, hS⟩
        | 1, _, rfl =>
          exact ow_move _ rfl (v := encStr u) (hag 1 rfl) ⟨_, rfl, fun vs' h _ => h (fun e => by cases e), hbr, hS⟩
        | 2, _, rfl =>
          exact ow_field fld27_1 _ rfl N (0) (hag 2 rfl) ⟨_, rfl, fun vs' h _ => h (fun e => by cases e), hbr, hS⟩
        | 3, _, rfl =>
          have hp : ac.eval (.tmp 19) = .pointer (some ⟨N, 0 + 1, none⟩) := hdep 2 (by omega) (by kernel_rfl)
          exact ow_load_slice' _ 45 23 rfl N (0 + 1) hp (some ⟨bd, od, none⟩) docs.length dc (below_cell hS hr1) Try.underlying23 ⟨_, rfl, fun vs' h _ => h (fun e => by cases e), hbr, hS⟩
        | 4, _, rfl =>
          exact ow_move _ rfl (v := .int .i64 (q : Int)) (hag 6 rfl) ⟨_, rfl, fun vs' h _ => h (fun e => by cases e), hbr, hS⟩
        | 5, _, rfl =>
          have hs : ac.eval (.tmp 20) = .slice (some ⟨bd, od, none⟩) docs.length dc := hdep 3 (by omega) (by kernel_rfl)
          have hi : ac.eval (.tmp 21) = .int .i64 (q : Int) := hdep 4 (by omega) (by kernel_rfl)
          exact ow_index_n _ _ 45 23 6 rfl bd od docs.length dc q hs hi hql Try.underlying23 info45 ⟨_, rfl, fun vs' h _ => h (fun e => by cases e), hbr, hS⟩
        | 6, _, rfl =>
          have hp : ac.eval (.tmp 22) = .pointer (some ⟨bd, od + q * 6, none⟩) := hdep 5 (by omega) (by kernel_rfl)
          exact ow_field fld45_0 _ rfl bd (od + q * 6) hp ⟨_, rfl, fun vs' h _ => h (fun e => by cases e), hbr, hS⟩
        | 7, _, rfl =>
          have hp : ac.eval (.tmp 23) = .pointer (some ⟨bd, od + q * 6 + 0, none⟩) := hdep 6 (by omega) (by kernel_rfl)
          exact ow_load_str _ 9 rfl bd (od + q * 6 + 0) hp _ (below_cell hS hex) Try.underlying9 ⟨_, rfl, fun vs' h _ => h (fun e => by cases e), hbr, hS⟩
        | 8, _, rfl =>
          have h1 : ac.eval (.tmp 17) = .agg (stV sq (.slice (some ⟨bd, od, none⟩) docs.length dc) lv sv) := hdep 0 (by omega) (by kernel_rfl)
          have h2 : ac.eval (.tmp 18) = encStr u := hdep 1 (by omega) (by kernel_rfl)
          have h3 : ac.eval (.tmp 24) = encStr e.id := hdep 7 (by omega) (by kernel_rfl)
          refine ow_call Try.func11 (by kernel_rfl) rfl _ _ rfl (vs := #[.agg (stV sq (.slice (some ⟨bd, od, none⟩) docs.length dc) lv sv), encStr u, encStr e.id]) (by simp only [List.map_toArray, List.map_cons, List.map_nil, h1, h2, h3]) ?_
          refine (refBy_any docs sq _ lv sv W u e.id B0 (HDS.out.low trueT (Low.of_all (HBE.out.trans (hS.mono HBE.out.size)))) HFIT.out).mono ?_
          rw [← HC.out, ← HBB.out]
          rintro e' w' ⟨rfl, hbb⟩
          exact ⟨_, rfl, ⟨_, rfl, fun vs' h _ => h (fun e => by cases e), hbb, hS.trans (hbb.mono hS.size)⟩⟩
        | 9, _, rfl =>
          have h1 : ac.eval (.tmp 25) = .tuple #[encStr c, .bool b] := hdep 8 (by omega) (by kernel_rfl)
          exact ow_move _ rfl h1 ⟨_, rfl, fun vs' h _ => h (fun e => by cases e), hbr, hS⟩
        | 10, _, rfl =>
          have h1 : ac.eval (.tmp 16) = .tuple #[encStr c, .bool b] := hdep 9 (by omega) (by kernel_rfl)
          exact ow_extract _ 0 rfl h1 rfl ⟨_, rfl, fun vs' h _ => h (fun e => by cases e), hbr, hS⟩
        | 11, _, rfl =>
          have h1 : ac.eval (.tmp 16) = .tuple #[encStr c, .bool b] := hdep 9 (by omega) (by kernel_rfl)
          exact ow_extract _ 1 rfl h1 rfl ⟨_, rfl, fun vs' h _ => h (fun e => by cases e), hbr, hS⟩
        | 12, _, rfl =>
          have h1 : ac.eval (.tmp 26) = encStr c := hdep 10 (by omega) (by kernel_rfl)
          exact ow_assign _ rfl h1 ⟨_, rfl, fun vs' h _ => h (fun e => by cases e), hbr, hS⟩
        | 13, _, rfl =>
          have h1 : ac.eval (.tmp 27) = .bool b := hdep 11 (by omega) (by kernel_rfl)
          exact ow_assign _ rfl h1 ⟨_, rfl, fun vs' h _ => h (fun e => by cases e), hbr, hS⟩
        | n + 14, hi, _ => exact absurd hi (by omega)
      case fina =>
        intro vs W hS hF
        have e12 : vs 12 = encStr c := hF 12 (by omega)
        have e13 : vs 13 = .bool b := hF 13 (by omega)
        clear hF
        change wpList _ _ _ _ (Act.put (Act.put (Act.put (Act.put (Act.put (Act.put (Act.put (Act.put (Act.put (Act.put (Act.put (Act.put (Act.put (Act.put _ (some 17) (vs 0)) (some 18) (vs 1)) (some 19) (vs 2)) (some 20) (vs 3)) (some 21) (vs 4)) (some 22) (vs 5)) (some 23) (vs 6)) (some 24) (vs 7)) (some 25) (vs 8)) (some 16) (vs 9)) (some 26) (vs 10)) (some 27) (vs 11)) (some 7) (vs 12)) (some 8) (vs 13)) W
        rw [e12, e13]
        clear e12 e13
        generalize vs 0 = z0
        generalize vs 1 = z1
        generalize vs 2 = z2
        generalize vs 3 = z3
        generalize vs 4 = z4
        generalize vs 5 = z5
        generalize vs 6 = z6
        generalize vs 7 = z7
        generalize vs 8 = z8
        generalize vs 9 = z9
        generalize vs 10 = z10
        generalize vs 11 = z11
        simp only [putAll, List.drop_succ_cons, List.drop_zero, Act.put, List.setIfInBounds_toArray, List.set_cons_zero, List.set_cons_succ]
        clear vs
        rename World => w3
        have hr1 := below_cell hS hr1
        have HBE3 := Lib.hid (HBE.out.trans (hS.mono HBE.out.size))
        have hex3 : w3.cell? ⟨bd, od + q * 6, none⟩ = some (encStr e.id) := HEX.out w3 HBE3.out
        have HRT3 := Lib.hid (HRT.out.below hS)
        clear hS HBE HRT hex
        cases b with
        | true =>
          have hpt := put_any lq _ e.id w3 HRT3.out (by omega) HLE.out HIDL.out
          have HPT := Lib.hid hpt
          have HK2 := Lib.hid (show Keys (putL lq e.id) (seenF docs u (docs.take (q + 1))) from by
            rw [HTK.out, seenF_snoc, if_pos HBB.out.symm]
            exact putL_keys HK.out)
          have HL2 := Lib.hid (show (putL lq e.id).length ≤ q + 1 from by have := putL_len lq e.id; omega)
          clear hpt
          go_wp2_with (refine wpList_index_n rfl _ _ 45 23 6 rfl bd od docs.length dc q rfl rfl hql Try.underlying23 info45 ?_)
          refine HPT.out.mono ?_
          rintro e' w4 ⟨v4, rfl, htx, hb4⟩
          have HB4 := Lib.hid (HBE3.out.trans (hb4.mono HBE3.out.size))
          have HT4 := Lib.hid htx.rt
          clear hb4 htx HPT hr1 hex3
          go_wp2_with fail
          go_roundw
          case rel => exact ⟨q + 1, _, rfl, by omega, HT4.out, HK2.out, HL2.out, HB4.out⟩
          case measure => simp [intOf]; omega
        | false =>
          have HK2 := Lib.hid (show Keys lq (seenF docs u (docs.take (q + 1))) from by
            rw [HTK.out, seenF_snoc, if_neg (by rw [← HBB.out]; simp)]
            exact HK.out)
          clear hr1 hex3
          go_wp2_with fail
          go_roundw
          case rel => exact ⟨q + 1, _, rfl, by omega, HRT3.out, HK2.out, by omega, HBE3.out⟩
          case measure => simp [intOf]; omega
end Go.Proofs.Ytncjgfhipflokaa
