/-
  grants.By.
-/
import Derived.Test.YtncjgfhipflokaaSi
namespace Go.Proofs.Ytncjgfhipflokaa
open Go.RowKit Go.Shelf Hp Go.Maps

/-- by which channel a user sees a document -/
def byOf (docs : List Doc) (u id : S) : Option S := ((docs.find? fun d => decide (d.id = id)).bind fun d => least (kp (chansOf docs u) d.chans))

set_option maxHeartbeats 1000000 in
set_option maxRecDepth 4000 in
theorem By_any (T : World → Value → Prop) (hT : ∀ B0 w w' v, Low B0 w w' → T w v → T w' v) (docs : List Doc) (sq : Int) (dv lv sv : Value) (w : World) (u id : S) (B0 : Nat) (hB : B0 ≤ w.heap.size) (hds : DS T B0 w dv docs) (hpl : (pairs docs).length ≤ 99999) (hcl : ∀ d ∈ docs, d.chans.length ≤ 99999) :
    Calls Try.prog 10 #[.agg (stV sq dv lv sv), encStr u, encStr id] w fun e w' => e = .returned (.tuple #[encStr ((byOf docs u id).getD []), .bool (byOf docs u id).isSome]) ∧ Below w.heap.size w w' := by
  obtain ⟨N, hN⟩ : ∃ N, N = w.heap.size := ⟨_, rfl⟩
  have HN := Lib.hid hN
  obtain ⟨W0, hW0⟩ : ∃ W0, W0 = w.alloc (.cells (stV sq dv lv sv) 27) := ⟨_, rfl⟩
  have hrow : W0.heap[N]? = some (.cells (stV sq dv lv sv) 27 (0, 0)) := by rw [hW0, hN]; exact World.alloc_heap_new w _
  have hbel : Below w.heap.size w W0 := by rw [hW0]; exact (Below.refl _ w).alloc (Nat.le_refl _) _
  have hds0 := hds.low hT (Low.of_below hbel hB)
  have hsW : W0.heap.size = N + 1 := by rw [hW0, hN]; simp
  rw [← hN] at hB hbel
  have HSW := Lib.hid hsW
  have HROW := Lib.hid hrow
  have HBEL := Lib.hid hbel
  have HDS := Lib.hid hds0
  have HCL := Lib.hid hcl
  have HPL := Lib.hid hpl
  obtain ⟨A, c, rfl, hlc, hcm, -⟩ := (show DS T B0 w dv docs from hds)
  have hc1 : W0.cell? ⟨N, 1, none⟩ = some (.slice A docs.length c) := cell_of_row W0 N 1 _ _ _ hrow
  have hdl : docs.length ≤ 9223372036854775807 := by unfold maxLen at hcm; omega
  clear hrow hbel hds0 hds hcl hpl hlc hcm hsW
  go_enter Try.func10, Try.ntmps10
  go_upto_region 1 with fail
  rw [← HN.out, ← hW0]
  have HW0 := Lib.hid hW0
  clear hN hW0
  go_wp2_with fail
  clear hc1
  go_loopw [13] (fun i wr => ∃ k : Nat, k ≤ docs.length ∧ i = .int .i64 (k : Int) ∧ Below W0.heap.size W0 wr ∧ (docs.take k).find? (fun d => decide (d.id = id)) = none) (fun i _ => docs.length - (intOf i).toNat)
  case atStart => exact ⟨0, Nat.zero_le _, rfl, Below.refl _ _, rfl⟩
  case round =>
    obtain ⟨k, hk, rfl, hbe, hfn⟩ := hrel
    have HBE := Lib.hid hbe
    have HFN := Lib.hid hfn
    clear hbe hfn
    rcases (show k = docs.length ∨ k < docs.length by omega) with rfl | hlt
    · rw [List.take_length] at HFN
      have hd : decide ((docs.length : Int) < (docs.length : Int)) = false := by simp
      go_wp2_with fail
      refine bodyPost_ret (v := .tuple #[encStr [], .bool false]) (results_tt (P := Try.prog) (p := 6) (q := 7) rfl _ _) rfl ?_
      have hby : byOf docs u id = none := by unfold byOf; rw [HFN.out]; rfl
      rw [hby]
      refine ⟨rfl, ?_⟩
      rw [← HN.out]
      exact HBEL.out.trans (HBE.out.mono (by have := HSW.out; omega))
    · have hd : decide ((k : Int) < (docs.length : Int)) = true := by simp; omega
      have hd' : decide (k < docs.length) = true := by simp; omega
      have hlowW : Low B0 W0 wr := Low.of_below HBE.out (by have := HSW.out; omega)
      obtain ⟨A', c', e, _, _, hel⟩ := HDS.out.low hT hlowW
      injection e with e1 e2 e3
      subst e1 e3
      obtain ⟨b, o, rfl, hrows⟩ := hel.resolve_left (by omega)
      obtain ⟨cs, hcsl, hcells, d, hdk, hdr⟩ := hrows k hlt
      obtain ⟨sq', nd, ch, gr, gn, rfl, hidl, hss, hgs, ⟨An, nn, cn, rfl⟩, _⟩ := hdr
      have HSS := Lib.hid hss
      obtain ⟨Ac, cc, rfl, _, _, _, _⟩ := hss
      obtain ⟨Ag, cg, rfl, _, _, _, _⟩ := hgs
      have HC := Lib.hid hcells.2
      have hdk' : docs[k] = d := by rw [List.getElem?_eq_getElem hlt] at hdk; injection hdk
      have HDK := Lib.hid hdk'
      clear hcells hdk hdk' hcsl hrows hel hlowW e2
      obtain ⟨g4, hg4⟩ : ∃ g, g = wr.heap.size := ⟨_, rfl⟩
      have HG4 := Lib.hid hg4
      clear hg4
      go_upto_region 4 with (first
        | (refine wpList_index_n rfl _ _ 45 23 6 rfl b o docs.length c k rfl rfl hlt Try.underlying23 info45 ?_)
        | (refine wpList_load_at rfl 45 _ rfl b (o + k * 6) rfl (docC d.id sq' (.slice An nn cn) (.slice Ac d.chans.length cc) (.slice Ag d.grants.length cg) gn) _ HC.out Try.underlying45 rfl (by kernel_rfl) ?_)
        | (refine wpList_alloc_row rfl 45 rfl _ (zero45 _) ?_; rw [← HG4.out]; intro w2 hT2 hS2 hG2; have HT2 := Lib.hid hT2; have HG2 := Lib.hid (below_of_grown hG2); clear hT2 hS2 hG2)
        | (refine wpList_store_row rfl 45 _ _ rfl g4 rfl 45 _ _ rfl HT2.out rfl (by kernel_rfl) (docC_one _ _ _ _ _ _ _ _ _ _ _ _) ?_; intro w3 hT3 hS3 hG3; have HT3 := Lib.hid hT3; have HG3 := Lib.hid hG3; clear hT3 hS3 hG3))
      have hb3 : Below wr.heap.size wr w3 := HG2.out.grown HG3.out HG2.out.size (fun k e => by injection e with e; have := HG4.out; omega)
      have hc40 : w3.cell? ⟨g4, 0, none⟩ = some (encStr d.id) := (cell_of_row w3 g4 0 _ _ _ HT3.out).trans rfl
      have HSS3 := Lib.hid (HSS.out.low (Low.of_all hb3))
      have HB3 := Lib.hid (HBE.out.trans (hb3.mono HBE.out.size))
      have hft : (docs.take (k + 1)).find? (fun d => decide (d.id = id)) = if d.id = id then some d else none := by
        rw [← List.take_append_getElem hlt, List.find?_append, HFN.out, HDK.out]
        by_cases h : d.id = id <;> simp [h]
      have HFT := Lib.hid hft
      clear hb3 HT2 HG2 HG3 HG4 HC HSS hft HBE
      by_cases hid : d.id = id
      · rw [if_pos hid] at HFT
        have hq : (d.id == id) = true := by simpa using hid
        go_upto_region 5 with fail
        -- R5
        have HR27 := Lib.hid (blk_below HROW.out HB3.out)
        have HDM := Lib.hid (show d ∈ docs from by rw [← HDK.out]; exact List.getElem_mem hlt)
        clear hc40 hq hd hd'
        refine region_f 9 (fun i vs W => match i with
            | 0 => vs 0 = .agg (docC d.id sq' (.slice An nn cn) (.slice Ac d.chans.length cc) (.slice Ag d.grants.length cg) gn).toArray
            | 1 => vs 1 = .agg (stV sq (.slice (some ⟨b, o, none⟩) docs.length c) lv sv)
            | 2 => vs 2 = encStr u
            | 3 => ∃ bm n D, vs 3 = .map (some bm) ∧ W.ownsMap Try.prog 9 (plainElem (H := Unit) Try.prog 3) bm n D ∧ KM D (chansOf docs u)
            | 4 => vs 4 = .tuple #[encStr ((least (kp (chansOf docs u) d.chans)).getD []), .bool (least (kp (chansOf docs u) d.chans)).isSome]
            | 5 => vs 5 = encStr ((least (kp (chansOf docs u) d.chans)).getD [])
            | 6 => vs 6 = .bool (least (kp (chansOf docs u) d.chans)).isSome
            | 7 => vs 7 = encStr ((least (kp (chansOf docs u) d.chans)).getD [])
            | 8 => vs 8 = .bool (least (kp (chansOf docs u) d.chans)).isSome
            | _ => True) (fun _ W W' => Below W.heap.size W W') (fun W => Below w3.heap.size w3 W) (by kernel_rfl) (by kernel_rfl) ?hstr ?h0r ?stepr ?finr
        case hstr =>
          intro i k vs W W' _ _ h hG
          match i, h with
          | 0, h => exact h
          | 1, h => exact h
          | 2, h => exact h
          | 3, ⟨bm, n, D, e1, e2, e3⟩ => exact ⟨bm, n, D, e1, own_touch e2 (fun o h => blk_below h hG), e3⟩
          | 4, h => exact h
          | 5, h => exact h
          | 6, h => exact h
          | 7, h => exact h
          | 8, h => exact h
          | n + 9, _ => trivial
        case h0r => exact (Below.refl _ _).drew
        case stepr =>
          intro i op hi ho ac W hS hag hdep
          have hbr : Below W.heap.size W W := Below.refl _ _
          match i, hi, ho with
          | 0, _, rfl =>
            exact ow_load_row 45 _ rfl g4 (hag 9 rfl) 45 _ (0, 0) _ (blk_below HT3.out hS) Try.underlying45 rfl (by kernel_rfl) ⟨_, rfl, fun vs' h _ => h (fun e => by cases e), hbr, hS⟩
          | 1, _, rfl =>
            exact ow_load_row 27 _ rfl N (hag 3 rfl) 27 _ (0, 0) _ (blk_below HR27.out hS) Try.underlying27 rfl (by kernel_rfl) ⟨_, rfl, fun vs' h _ => h (fun e => by cases e), hbr, hS⟩
          | 2, _, rfl =>
            exact ow_move _ rfl (v := encStr u) (hag 1 rfl) ⟨_, rfl, fun vs' h _ => h (fun e => by cases e), hbr, hS⟩
          | 3, _, rfl =>
            have h1 : ac.eval (.tmp 22) = .agg (stV sq (.slice (some ⟨b, o, none⟩) docs.length c) lv sv) := hdep 1 (by omega) (by kernel_rfl)
            have h2 : ac.eval (.tmp 23) = encStr u := hdep 2 (by omega) (by kernel_rfl)
            refine ow_call Try.func25 (by kernel_rfl) rfl _ _ rfl (vs := #[.agg (stV sq (.slice (some ⟨b, o, none⟩) docs.length c) lv sv), encStr u]) (by simp only [List.map_toArray, List.map_cons, List.map_nil, h1, h2]) ?_
            refine (chans_any T hT docs sq _ lv sv W u B0 (by have := HB3.out.size; have := hS.size; have := HSW.out; omega) (HDS.out.low hT (Low.of_below (HB3.out.trans (hS.mono HB3.out.size)) (by have := HSW.out; omega))) HPL.out).mono ?_
            rintro e w' ⟨bm, D, rfl, hge, hown, hkm, hbb⟩
            exact ⟨_, rfl, ⟨_, rfl, fun vs' h _ => ⟨bm, _, D, h (fun e => by cases e), hown, hkm⟩, hbb, hS.trans (hbb.mono hS.size)⟩⟩
          | 4, _, rfl =>
            have h0 : ac.eval (.tmp 21) = .agg (docC d.id sq' (.slice An nn cn) (.slice Ac d.chans.length cc) (.slice Ag d.grants.length cg) gn).toArray := hdep 0 (by omega) (by kernel_rfl)
            obtain ⟨bm, n, D, h3, h4, h5⟩ : ∃ bm n D, ac.eval (.tmp 24) = .map (some bm) ∧ W.ownsMap Try.prog 9 (plainElem (H := Unit) Try.prog 3) bm n D ∧ KM D (chansOf docs u) := hdep 3 (by omega) (by kernel_rfl)
            refine ow_call Try.func24 (by kernel_rfl) rfl _ _ rfl (vs := #[.agg (docC d.id sq' (.slice An nn cn) (.slice Ac d.chans.length cc) (.slice Ag d.grants.length cg) gn).toArray, .map (some bm)]) (by simp only [List.map_toArray, List.map_cons, List.map_nil, h0, h3]) ?_
            refine (by_any B0 bm n D (chansOf docs u) d.chans d.id sq' gn _ _ _ W h4 h5 (HSS3.out.low (Low.of_below hS (by have := HB3.out.size; have := HSW.out; omega))) (HCL.out d HDM.out)).mono ?_
            rintro e w' ⟨rfl, hbb⟩
            exact ⟨_, rfl, ⟨_, rfl, fun vs' h _ => h (fun e => by cases e), hbb, hS.trans (hbb.mono hS.size)⟩⟩
          | 5, _, rfl =>
            have h4 : ac.eval (.tmp 25) = .tuple #[encStr ((least (kp (chansOf docs u) d.chans)).getD []), .bool (least (kp (chansOf docs u) d.chans)).isSome] := hdep 4 (by omega) (by kernel_rfl)
            exact ow_extract _ 0 rfl h4 rfl ⟨_, rfl, fun vs' h _ => h (fun e => by cases e), hbr, hS⟩
          | 6, _, rfl =>
            have h4 : ac.eval (.tmp 25) = .tuple #[encStr ((least (kp (chansOf docs u) d.chans)).getD []), .bool (least (kp (chansOf docs u) d.chans)).isSome] := hdep 4 (by omega) (by kernel_rfl)
            exact ow_extract _ 1 rfl h4 rfl ⟨_, rfl, fun vs' h _ => h (fun e => by cases e), hbr, hS⟩
          | 7, _, rfl =>
            have h5 : ac.eval (.tmp 26) = encStr ((least (kp (chansOf docs u) d.chans)).getD []) := hdep 5 (by omega) (by kernel_rfl)
            exact ow_assign _ rfl h5 ⟨_, rfl, fun vs' h _ => h (fun e => by cases e), hbr, hS⟩
          | 8, _, rfl =>
            have h6 : ac.eval (.tmp 27) = .bool (least (kp (chansOf docs u) d.chans)).isSome := hdep 6 (by omega) (by kernel_rfl)
            exact ow_assign _ rfl h6 ⟨_, rfl, fun vs' h _ => h (fun e => by cases e), hbr, hS⟩
          | n + 9, hi, _ => exact absurd hi (by omega)
        case finr =>
          intro vs W hS hF
          have e7 : vs 7 = encStr ((least (kp (chansOf docs u) d.chans)).getD []) := hF 7 (by omega)
          have e8 : vs 8 = .bool (least (kp (chansOf docs u) d.chans)).isSome := hF 8 (by omega)
          clear hF
          change wpList _ _ _ _ (Act.put (Act.put (Act.put (Act.put (Act.put (Act.put (Act.put (Act.put (Act.put _ (some 21) (vs 0)) (some 22) (vs 1)) (some 23) (vs 2)) (some 24) (vs 3)) (some 25) (vs 4)) (some 26) (vs 5)) (some 27) (vs 6)) (some 6) (vs 7)) (some 7) (vs 8)) W
          rw [e7, e8]
          clear e7 e8
          generalize vs 0 = z0
          generalize vs 1 = z1
          generalize vs 2 = z2
          generalize vs 3 = z3
          generalize vs 4 = z4
          generalize vs 5 = z5
          generalize vs 6 = z6
          simp only [putAll, List.drop_succ_cons, List.drop_zero, Act.put, List.setIfInBounds_toArray, List.set_cons_zero, List.set_cons_succ]
          clear vs
          go_wp2_with fail
          refine bodyPost_ret (v := .tuple #[encStr ((least (kp (chansOf docs u) d.chans)).getD []), .bool (least (kp (chansOf docs u) d.chans)).isSome]) (results_tt (P := Try.prog) (p := 6) (q := 7) rfl _ _) rfl ?_
          have hby : byOf docs u id = least (kp (chansOf docs u) d.chans) := by
            unfold byOf
            rw [← List.take_append_drop (k + 1) docs, List.find?_append, HFT.out]
            simp [List.take_append_drop]
          rw [hby]
          refine ⟨rfl, ?_⟩
          rw [← HN.out]
          exact HBEL.out.trans ((HB3.out.trans (hS.mono HB3.out.size)).mono (by have := HSW.out; omega))
      · rw [if_neg hid] at HFT
        have hq : (d.id == id) = false := by simpa using hid
        clear HT3
        go_wp2_with fail
        go_roundw
        case rel => exact ⟨k + 1, by omega, rfl, HB3.out, HFT.out⟩
        case measure => simp [intOf]; omega
end Go.Proofs.Ytncjgfhipflokaa
