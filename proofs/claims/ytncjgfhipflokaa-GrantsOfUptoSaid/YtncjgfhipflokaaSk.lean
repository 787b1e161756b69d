/-
  grants.Sees, grants.All.
-/
import Derived.Test.YtncjgfhipflokaaSj
namespace Go.Proofs.Ytncjgfhipflokaa
open Go.RowKit Go.Shelf Hp Go.Maps

set_option maxHeartbeats 1000000 in
set_option maxRecDepth 4000 in
theorem Sees_any (T : World → Value → Prop) (hT : ∀ B0 w w' v, Low B0 w w' → T w v → T w' v) (docs : List Doc) (sq : Int) (dv lv sv : Value) (w : World) (u id : S) (B0 : Nat) (hB : B0 ≤ w.heap.size) (hds : DS T B0 w dv docs) (hpl : (pairs docs).length ≤ 99999) (hcl : ∀ d ∈ docs, d.chans.length ≤ 99999) :
    Calls Try.prog 12 #[.agg (stV sq dv lv sv), encStr u, encStr id] w fun e w' => e = .returned (.bool (byOf docs u id).isSome) ∧ Below w.heap.size w w' := by
  obtain ⟨W0, hW0⟩ : ∃ W0, W0 = w.alloc (.cells (stV sq dv lv sv) 27) := ⟨_, rfl⟩
  have hrow : W0.heap[w.heap.size]? = some (.cells (stV sq dv lv sv) 27 (0, 0)) := by rw [hW0]; exact World.alloc_heap_new w _
  have hr0 : W0.cell? ⟨w.heap.size, 0, none⟩ = some (.int .u64 sq) := cell_of_row W0 w.heap.size 0 _ _ _ hrow
  have hr1 : W0.cell? ⟨w.heap.size, 1, none⟩ = some dv := cell_of_row W0 w.heap.size 1 _ _ _ hrow
  have hr2 : W0.cell? ⟨w.heap.size, 2, none⟩ = some lv := cell_of_row W0 w.heap.size 2 _ _ _ hrow
  have hr3 : W0.cell? ⟨w.heap.size, 3, none⟩ = some sv := cell_of_row W0 w.heap.size 3 _ _ _ hrow
  have hbel : Below w.heap.size w W0 := by rw [hW0]; exact (Below.refl _ w).alloc (Nat.le_refl _) _
  have hds0 := hds.low hT (Low.of_below hbel hB)
  have hB' : B0 ≤ W0.heap.size := by have := hbel.size; omega
  have hby := By_any T hT docs sq dv lv sv W0 u id B0 hB' hds0 hpl hcl
  rw [hW0] at hr0 hr1 hr2 hr3 hby
  have HBY := Lib.hid hby
  have HBEL := Lib.hid hbel
  have HW0 := Lib.hid hW0
  generalize byOf docs u id = r at HBY ⊢
  clear hrow hW0 hds hds0 hby hbel hcl hpl
  go_enter Try.func12, Try.ntmps12
  go_wp2_with fail
  refine HBY.out.mono ?_
  rintro e w1 ⟨rfl, hb1⟩
  have HB1 := Lib.hid hb1
  clear HBY hb1
  go_wp2_with fail
  all_goals
    go_ret
    have h1 := HB1.out
    rw [← HW0.out] at h1
    exact ⟨rfl, HBEL.out.trans (h1.mono HBEL.out.size)⟩

/-- the names of those documents of l that a user sees, by docs -/
def seenF (docs : List Doc) (u : S) (l : List Doc) : List S := (l.filter fun d => (byOf docs u d.id).isSome).map (·.id)
/-- what a user sees -/
def seenOf (docs : List Doc) (u : S) : List S := seenF docs u docs
theorem seenF_snoc (docs : List Doc) (u : S) (l : List Doc) (d : Doc) : seenF docs u (l ++ [d]) = if (byOf docs u d.id).isSome = true then seenF docs u l ++ [d.id] else seenF docs u l := by
  unfold seenF
  rw [List.filter_append, List.map_append]
  by_cases h : (byOf docs u d.id).isSome <;> simp [h]
theorem seenF_len (docs : List Doc) (u : S) (l : List Doc) : (seenF docs u l).length ≤ l.length := by
  unfold seenF
  rw [List.length_map]
  exact List.length_filter_le _ _

set_option maxHeartbeats 1000000 in
set_option maxRecDepth 4000 in
theorem All_any (T : World → Value → Prop) (hT : ∀ B0 w w' v, Low B0 w w' → T w v → T w' v) (docs : List Doc) (sq : Int) (dv lv sv : Value) (w : World) (u : S) (B0 : Nat) (hB : B0 ≤ w.heap.size) (hds : DS T B0 w dv docs) (hpl : (pairs docs).length ≤ 99999) (hcl : ∀ d ∈ docs, d.chans.length ≤ 99999) (hdl9 : docs.length ≤ 99999) :
    Calls Try.prog 18 #[.agg (stV sq dv lv sv), encStr u] w fun e w' => ∃ v l, e = .returned v ∧ TX w' w.heap.size v l ∧ Keys l (seenOf docs u) ∧ Below w.heap.size w w' := by
  have hmm := @run_makeMap Try.prog
  obtain ⟨N, hN⟩ : ∃ N, N = w.heap.size := ⟨_, rfl⟩
  have HN := Lib.hid hN
  obtain ⟨W0, hW0⟩ : ∃ W0, W0 = (w.alloc (.cells (stV sq dv lv sv) 27)).alloc (.map #[] 0) := ⟨_, rfl⟩
  have hrow : W0.heap[N]? = some (.cells (stV sq dv lv sv) 27 (0, 0)) := by rw [hW0, hN]; exact blk_alloc (World.alloc_heap_new w _) _
  have hmap : W0.ownsMap Try.prog 9 (plainElem (H := Unit) Try.prog 3) (N + 1) 0 (.map []) := by
    have h1 := World.ownsMap_made (H := Unit) (w.alloc (.cells (stV sq dv lv sv) 27)) Try.prog 9 (plainElem Try.prog 3)
    rw [World.size_alloc, ← hN] at h1
    rw [hW0]
    exact h1
  have hbel : Below w.heap.size w W0 := by rw [hW0]; exact ((Below.refl _ w).alloc (Nat.le_refl _) _).alloc (by simp) _
  have hsW : W0.heap.size = N + 2 := by rw [hW0, hN]; simp
  rw [← hN] at hB hbel
  have HSW := Lib.hid hsW
  have HROW := Lib.hid hrow
  have HMAP := Lib.hid hmap
  have HBEL := Lib.hid hbel
  have HDS := Lib.hid hds
  have HCL := Lib.hid hcl
  have HPL := Lib.hid hpl
  have hlen : ∀ d ∈ docs, d.id.length ≤ maxLen := by
    obtain ⟨A, c, rfl, _, _, hel⟩ := (show DS T B0 w dv docs from hds)
    intro d hd
    obtain ⟨k, hk, hkd⟩ := List.getElem_of_mem hd
    rcases hel with h0 | ⟨b, o, _, hrows⟩
    · omega
    obtain ⟨cs, _, _, d', hd', sq, nd, ch, gr, gn, _, hl, _⟩ := hrows k hk
    rw [List.getElem?_eq_getElem hk] at hd'
    injection hd' with hd'
    rw [← hkd, hd']
    exact hl
  have HLEN := Lib.hid hlen
  obtain ⟨A, c, rfl, hlc, hcm, -⟩ := (show DS T B0 w dv docs from hds)
  have hc1 : W0.cell? ⟨N, 1, none⟩ = some (.slice A docs.length c) := cell_of_row W0 N 1 _ _ _ hrow
  have hdl : docs.length ≤ 9223372036854775807 := by unfold maxLen at hcm; omega
  clear hrow hbel hds hcl hpl hlc hcm hsW hmap hlen
  go_enter Try.func18, Try.ntmps18
  go_upto_region 2 with fail
  rw [← HN.out, ← hW0]
  have HW0 := Lib.hid hW0
  clear hN hW0
  go_wp2_with fail
  clear hc1
  go_loopw [12] (fun i wr => ∃ k : Nat, k ≤ docs.length ∧ i = .int .i64 (k : Int) ∧ Below N w wr ∧ N + 2 ≤ wr.heap.size ∧ wr.heap[N]? = some (.cells (stV sq (.slice A docs.length c) lv sv) 27 (0, 0)) ∧ ∃ D : DataW Unit, wr.ownsMap Try.prog 9 (plainElem Try.prog 3) (N + 1) k D ∧ KM D (seenF docs u (docs.take k))) (fun i _ => docs.length - (intOf i).toNat)
  case atStart => exact ⟨0, Nat.zero_le _, rfl, HBEL.out, by have := HSW.out; omega, HROW.out, _, HMAP.out, KM.start⟩
  case round =>
    obtain ⟨k, hk, rfl, hbe, hsz, hrow, D, hown, hkm⟩ := hrel
    have HBE := Lib.hid hbe
    have HROWR := Lib.hid hrow
    have HOWN := Lib.hid hown
    have HKM := Lib.hid hkm
    clear hbe hown hkm hrow
    rcases (show k = docs.length ∨ k < docs.length by omega) with rfl | hlt
    · rw [List.take_length] at HKM
      have hsize : Maps.size D ≤ 99999 := by have := HKM.out.size_; have := seenF_len docs u docs; omega
      have hd : decide ((docs.length : Int) < (docs.length : Int)) = false := by simp
      go_wp2_with fail
      refine (sorted_any D (N + 1) _ wr HOWN.out hsize).mono ?_
      rintro e w2 ⟨v, l, rfl, htx, hpm, hso, hb2⟩
      have HTX := Lib.hid htx
      have HB2 := Lib.hid hb2
      clear htx hb2
      go_wp2_with fail
      go_ret
      rw [← HN.out]
      exact ⟨v, l, rfl, HTX.out.base_le (by omega), Keys.of HKM.out (own_strs HOWN.out) hpm hso, HBE.out.trans (HB2.out.mono (by omega))⟩
    · have hd : decide ((k : Int) < (docs.length : Int)) = true := by simp; omega
      have hd' : decide (k < docs.length) = true := by simp; omega
      have hlowW : Low B0 w wr := Low.of_below HBE.out hB
      obtain ⟨A', c', e, _, _, hel⟩ := HDS.out.low hT hlowW
      injection e with e1 e2 e3
      subst e1 e3
      obtain ⟨b, o, rfl, hrows⟩ := hel.resolve_left (by omega)
      obtain ⟨cs, hcsl, hcells, d, hdk, hdr⟩ := hrows k hlt
      obtain ⟨sq', nd, ch, gr, gn, rfl, hidl, hss, hgs, ⟨An, nn, cn, rfl⟩, _⟩ := hdr
      obtain ⟨Ac, cc, rfl, _, _, _, _⟩ := hss
      obtain ⟨Ag, cg, rfl, _, _, _, _⟩ := hgs
      have HC := Lib.hid hcells.2
      have hdk' : docs[k] = d := by rw [List.getElem?_eq_getElem hlt] at hdk; injection hdk
      have HDK := Lib.hid hdk'
      clear hcells hdk hdk' hcsl hrows hel hlowW e2
      obtain ⟨g4, hg4⟩ : ∃ g, g = wr.heap.size := ⟨_, rfl⟩
      have HG4 := Lib.hid hg4
      clear hg4
      go_upto_region 5 with (first
        | (refine wpList_index_n rfl _ _ 45 23 6 rfl b o docs.length c k rfl rfl hlt Try.underlying23 info45 ?_)
        | (refine wpList_load_at rfl 45 _ rfl b (o + k * 6) rfl (docC d.id sq' (.slice An nn cn) (.slice Ac d.chans.length cc) (.slice Ag d.grants.length cg) gn) _ HC.out Try.underlying45 rfl (by kernel_rfl) ?_)
        | (refine wpList_alloc_row rfl 45 rfl _ (zero45 _) ?_; rw [← HG4.out]; intro w2 hT2 hS2 hG2; have HT2 := Lib.hid hT2; have HG2 := Lib.hid (below_of_grown hG2); clear hT2 hS2 hG2)
        | (refine wpList_store_row rfl 45 _ _ rfl g4 rfl 45 _ _ rfl HT2.out rfl (by kernel_rfl) (docC_one _ _ _ _ _ _ _ _ _ _ _ _) ?_; intro w3 hT3 hS3 hG3; have HT3 := Lib.hid hT3; have HG3 := Lib.hid hG3; clear hT3 hS3 hG3))
      have hb3 : Below wr.heap.size wr w3 := HG2.out.grown HG3.out HG2.out.size (fun k e => by injection e with e; have := HG4.out; omega)
      have hc40 : w3.cell? ⟨g4, 0, none⟩ = some (encStr d.id) := (cell_of_row w3 g4 0 _ _ _ HT3.out).trans rfl
      have HBE3 := Lib.hid (HBE.out.trans (hb3.mono (by omega)))
      have HR3 := Lib.hid (blk_below HROWR.out hb3)
      have HOWN3 := Lib.hid (own_touch HOWN.out (fun o h => blk_below h hb3))
      have hs3 : wr.heap.size ≤ w3.heap.size := hb3.size
      have hr0 : w3.cell? ⟨N, 0, none⟩ = some (.int .u64 sq) := cell_of_row w3 N 0 _ _ _ HR3.out
      have hr1 : w3.cell? ⟨N, 1, none⟩ = some (.slice (some ⟨b, o, none⟩) docs.length c) := cell_of_row w3 N 1 _ _ _ HR3.out
      have hr2 : w3.cell? ⟨N, 2, none⟩ = some lv := cell_of_row w3 N 2 _ _ _ HR3.out
      have hr3 : w3.cell? ⟨N, 3, none⟩ = some sv := cell_of_row w3 N 3 _ _ _ HR3.out
      have hsee := Sees_any T hT docs sq _ lv sv w3 u d.id B0 (by omega) (HDS.out.low hT (Low.of_below HBE3.out hB)) HPL.out HCL.out
      have HSEE := Lib.hid hsee
      have hft : seenF docs u (docs.take (k + 1)) = if (byOf docs u d.id).isSome = true then seenF docs u (docs.take k) ++ [d.id] else seenF docs u (docs.take k) := by
        rw [← List.take_append_getElem hlt, HDK.out, seenF_snoc]
      have HFT := Lib.hid hft
      have hdm : d ∈ docs := by rw [← HDK.out]; exact List.getElem_mem hlt
      have hkey := key_str d.id (HLEN.out d hdm)
      clear hb3 HT2 HG2 HG3 HC hsee hft HBE HROWR HOWN hdm hidl
      go_wp2_with fail
      refine HSEE.out.mono ?_
      rintro e w4 ⟨rfl, hb4⟩
      have hc44 : w4.cell? ⟨g4, 0, none⟩ = some (encStr d.id) := (cell_of_row w4 g4 0 _ _ _ (blk_below HT3.out hb4)).trans rfl
      have HBE4 := Lib.hid (HBE3.out.trans (hb4.mono (by omega)))
      have HR4 := Lib.hid (blk_below HR3.out hb4)
      have hown4 := (own_touch HOWN3.out (fun o h => blk_below h hb4))
      have hs4 : wr.heap.size ≤ w4.heap.size := by have := hb4.size; omega
      clear hb4 HSEE HT3 HBE3 HR3 HOWN3 hc40 hr0 hr1 hr2 hr3 hs3
      cases hq : (byOf docs u d.id).isSome with
      | true =>
        rw [hq, if_pos rfl] at HFT
        have hml : k < maxLen := by unfold maxLen; omega
        obtain ⟨cn, hcn, hcb, _⟩ := HKM.out.at_ d.id
        have hcb' : cn ≤ 99999 := by have := seenF_len docs u (docs.take k); simp at this; omega
        have HCN := Lib.hid hcn
        clear hcn hcb
        go_wp2_with (first
          | (at_lookup; refine wpList_lookup_own_int _ rfl _ _ 54 rfl 9 3 .i64 law9 Try.underlying54 Try.underlying3 (zero3 _) (N + 1) k D rfl hown4 _ _ rfl hkey ?_; intro cc' hat hwc)
          | (at_mapUpdate; refine wpList_mapUpdate_own _ rfl _ _ _ 54 rfl 9 3 law9 Try.underlying54 _ (N + 1) k D rfl hown4 hml _ _ _ rfl rfl hkey _ [] (plainElem_int Try.underlying3 (wrap64_wf _)) ?_; intro w5 hown5 hgrow5))
        have hcc : cc' = (cn : Int) := by
          have h := hat.symm.trans HCN.out
          injection h with h
          injection h with h h'
        subst hcc
        have hwr : wrap64 ((cn : Int) + 1) = (cn : Int) + 1 := by unfold wrap64; omega
        rw [hwr] at hown5
        have hkp : ∀ (k : Nat) (o : Obj), k ≠ N + 1 → w4.heap[k]? = some o → w5.heap[k]? = some o := fun k o hk h0 => blk_grown h0 hgrow5 (fun e => by injection e with e; exact hk e)
        refine ⟨⟨k + 1, by omega, rfl, HBE4.out.grown hgrow5 (by omega) (fun k e => by injection e with e; omega), by have := hgrow5.size; omega, hkp _ _ (by omega) HR4.out, _, hown5, ?_⟩, by simp [intOf]; omega⟩
        rw [HFT.out]
        exact HKM.out.put d.id hat
      | false =>
        rw [hq, if_neg (by decide)] at HFT
        have HOWN4 := Lib.hid hown4
        clear hown4 hkey hc44
        go_wp2_with fail
        go_roundw
        case rel => exact ⟨k + 1, by omega, rfl, HBE4.out, by omega, HR4.out, D, HOWN4.out.mono (by omega), by rw [HFT.out]; exact HKM.out⟩
        case measure => simp [intOf]; omega
end Go.Proofs.Ytncjgfhipflokaa
