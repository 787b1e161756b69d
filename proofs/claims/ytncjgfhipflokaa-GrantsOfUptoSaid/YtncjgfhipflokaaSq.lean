/-
  tidewracklaw14.LongRows: the walk.
-/
import Derived.Test.YtncjgfhipflokaaSp
namespace Go.Proofs.Ytncjgfhipflokaa
open Go.RowKit Go.Shelf Hp Go.Maps

/-- no more than is gone through -/
def Small (docs : List Doc) : Prop := docs.length ≤ 60 ∧ ∀ d ∈ docs, d.chans.length ≤ 200 ∧ d.grants.length ≤ 60
set_option maxHeartbeats 4000000 in
set_option maxRecDepth 8000 in
theorem longRows_any (B0 : Nat) (docs : List Doc) (dv lv sv : Value) (w : World) (hds : DS TreeT B0 w dv docs) (hlv : LocT w lv) (hsv : SeenT w sv) :
    Calls Try.prog 21 #[dv, lv, sv] w fun e w' => (∃ b, e = .returned (.bool b) ∧ (b = false → Small docs)) ∧ Below w.heap.size w w' := by
  obtain ⟨DA, dc, rfl, hdc, hdm, hde⟩ := hds
  obtain ⟨LA, ln, lc, rfl, hlm, hle⟩ := hlv
  obtain ⟨SA, sn, sc, rfl, hsm, hse⟩ := hsv
  have hdl1 : docs.length ≤ 9223372036854775807 := by unfold maxLen at hdm; omega
  have hln1 : ln ≤ 9223372036854775807 := hlm
  have hsn1 : sn ≤ 9223372036854775807 := hsm
  have HDE := Lib.hid hde
  have HLE := Lib.hid hle
  have HSE := Lib.hid hse
  clear hdc hdm hde hlm hle hsm hse
  by_cases c1 : 60 < docs.length
  · have hd1 : decide ((60 : Int) < (docs.length : Int)) = true := by simp; omega
    go_enter Try.func21, Try.ntmps21
    go_wp2_with fail
    go_ret
    exact ⟨⟨true, rfl, fun h => by cases h⟩, Below.refl _ _⟩
  have hd1 : decide ((60 : Int) < (docs.length : Int)) = false := by simp; omega
  by_cases c2 : 60 < ln
  · have hd2 : decide ((60 : Int) < (ln : Int)) = true := by simp; omega
    go_enter Try.func21, Try.ntmps21
    go_wp2_with fail
    go_ret
    exact ⟨⟨true, rfl, fun h => by cases h⟩, Below.refl _ _⟩
  have hd2 : decide ((60 : Int) < (ln : Int)) = false := by simp; omega
  by_cases c3 : 200 < sn
  · have hd3 : decide ((200 : Int) < (sn : Int)) = true := by simp; omega
    go_enter Try.func21, Try.ntmps21
    go_wp2_with fail
    go_ret
    exact ⟨⟨true, rfl, fun h => by cases h⟩, Below.refl _ _⟩
  have hd3 : decide ((200 : Int) < (sn : Int)) = false := by simp; omega
  go_enter Try.func21, Try.ntmps21
  go_wp2_with fail
  clear hd1 hd2 hd3
  go_loopw [7] (fun vi wr => ∃ k : Nat, vi = .int .i64 (k : Int) ∧ k ≤ docs.length ∧ Below w.heap.size w wr ∧ ∀ d ∈ docs.take k, d.chans.length ≤ 200 ∧ d.grants.length ≤ 60) (fun vi _ => docs.length - (intOf vi).toNat)
  case atStart => exact ⟨0, rfl, Nat.zero_le _, Below.refl _ _, fun d hd => absurd hd (by simp)⟩
  case round =>
    obtain ⟨k, rfl, hk, hbe, hsm⟩ := hrel
    have HBE := Lib.hid hbe
    have HSM := Lib.hid hsm
    clear hbe hsm
    rcases (show k = docs.length ∨ k < docs.length by omega) with rfl | hlt
    · have hd : decide ((docs.length : Int) < (docs.length : Int)) = false := by simp
      rw [List.take_length] at HSM
      go_wp2_with fail
      clear HDE
      have HBEK := Lib.hid HBE.out
      clear HBE
      go_loopw [9] (fun vi wq => ∃ k : Nat, vi = .int .i64 (k : Int) ∧ k ≤ ln ∧ Below w.heap.size w wq) (fun vi _ => ln - (intOf vi).toNat)
      case atStart => exact ⟨0, rfl, Nat.zero_le _, HBEK.out⟩
      case round =>
        clear HBEK
        obtain ⟨k, rfl, hk, hbi⟩ := hrel
        have HBI := Lib.hid hbi
        clear hbi
        rcases (show k = ln ∨ k < ln by omega) with rfl | hlt
        · have hd : decide ((k : Int) < (k : Int)) = false := by simp
          go_wp2_with fail
          go_loopw [10] (fun vi wq => ∃ k : Nat, vi = .int .i64 (k : Int) ∧ k ≤ sn ∧ Below w.heap.size w wq) (fun vi _ => sn - (intOf vi).toNat)
          case atStart => exact ⟨0, rfl, Nat.zero_le _, HBI.out⟩
          case round =>
            clear HBI hd
            obtain ⟨k, rfl, hk, hbi⟩ := hrel
            have HBI := Lib.hid hbi
            clear hbi
            rcases (show k = sn ∨ k < sn by omega) with rfl | hlt
            · have hd : decide ((k : Int) < (k : Int)) = false := by simp
              go_wp2_with fail
              go_ret
              exact ⟨⟨false, rfl, fun _ => ⟨by omega, HSM.out⟩⟩, HBI.out⟩
            · have hd : decide ((k : Int) < (sn : Int)) = true := by simp; omega
              have hd' : decide (k < sn) = true := by simp; omega
              obtain ⟨b, o, rfl, hc⟩ := HSE.out.resolve_left (by omega)
              obtain ⟨s1, s2, s3, h1, h2, h3⟩ := hc k hlt
              have hx0 : wr.cell? ⟨b, o + k * 22 + 0, none⟩ = some (encStr s1) := below_cell HBI.out h1
              have hx1 : wr.cell? ⟨b, o + k * 22 + 1, none⟩ = some (encStr s2) := below_cell HBI.out h2
              have hx2 : wr.cell? ⟨b, o + k * 22 + 21, none⟩ = some (encStr s3) := below_cell HBI.out h3
              clear hc h1 h2 h3
              go_upto_region 21 with fail
              refine region_f 17 (fun i vs W => match i with
                  | 0 => vs 0 = .slice (some ⟨b, o, none⟩) sn sc
                  | 1 => vs 1 = .int .i64 (k : Int)
                  | 2 => vs 2 = .pointer (some ⟨b, o + k * 22, none⟩)
                  | 3 => vs 3 = .pointer (some ⟨b, o + k * 22 + 0, none⟩)
                  | 4 => vs 4 = encStr s1
                  | 5 => vs 5 = .slice (some ⟨b, o, none⟩) sn sc
                  | 6 => vs 6 = .int .i64 (k : Int)
                  | 7 => vs 7 = .pointer (some ⟨b, o + k * 22, none⟩)
                  | 8 => vs 8 = .pointer (some ⟨b, o + k * 22 + 1, none⟩)
                  | 9 => vs 9 = encStr s2
                  | 10 => vs 10 = .slice (some ⟨b, o, none⟩) sn sc
                  | 11 => vs 11 = .int .i64 (k : Int)
                  | 12 => vs 12 = .pointer (some ⟨b, o + k * 22, none⟩)
                  | 13 => vs 13 = .pointer (some ⟨b, o + k * 22 + 21, none⟩)
                  | 14 => vs 14 = encStr s3
                  | 15 => ∃ g, vs 15 = .slice (some ⟨g, 0, none⟩) 3 3 ∧ W.heap[g]? = some (.cells #[encStr s1, encStr s2, encStr s3] 9 (0, 0))
                  | 16 => ∃ bb, vs 16 = .bool bb
                  | _ => True) (fun _ W W' => Below W.heap.size W W') (fun W => Below wr.heap.size wr W) (by kernel_rfl) (by kernel_rfl) ?hstq ?h0q ?stepq ?finq
              case hstq =>
                intro i k vs W W' _ _ h hG
                match i, h with
                | 0, h => exact h
                | 1, h => exact h
                | 2, h => exact h
                | 3, h => exact h
                | 4, h => exact h
                | 5, h => exact h
                | 6, h => exact h
                | 7, h => exact h
                | 8, h => exact h
                | 9, h => exact h
                | 10, h => exact h
                | 11, h => exact h
                | 12, h => exact h
                | 13, h => exact h
                | 14, h => exact h
                | 15, ⟨g, e1, e2⟩ => exact ⟨g, e1, blk_below e2 hG⟩
                | 16, h => exact h
                | n + 17, _ => trivial
              case h0q => exact (Below.refl _ _).drew
              case stepq =>
                intro i op hi ho ac W hS hag hdep
                have hbr : Below W.heap.size W W := Below.refl _ _
                match i, hi, ho with
                | 0, _, rfl =>
                  exact ow_move _ rfl (v := .slice (some ⟨b, o, none⟩) sn sc) (hag 2 rfl) ⟨_, rfl, fun vs' h _ => h (fun e => by cases e), hbr, hS⟩
                | 1, _, rfl =>
                  exact ow_move _ rfl (v := .int .i64 (k : Int)) (hag 10 rfl) ⟨_, rfl, fun vs' h _ => h (fun e => by cases e), hbr, hS⟩
                | 2, _, rfl =>
                  have hs : ac.eval (.tmp 111) = .slice (some ⟨b, o, none⟩) sn sc := hdep 0 (by omega) (by kernel_rfl)
                  have hi : ac.eval (.tmp 112) = .int .i64 (k : Int) := hdep 1 (by omega) (by kernel_rfl)
                  exact ow_index_n _ _ 70 25 22 rfl b o sn sc k hs hi hlt Try.underlying25 info70 ⟨_, rfl, fun vs' h _ => h (fun e => by cases e), hbr, hS⟩
                | 3, _, rfl =>
                  have hp : ac.eval (.tmp 113) = .pointer (some ⟨b, o + k * 22, none⟩) := hdep 2 (by omega) (by kernel_rfl)
                  exact ow_field fld70_0 _ rfl b (o + k * 22) hp ⟨_, rfl, fun vs' h _ => h (fun e => by cases e), hbr, hS⟩
                | 4, _, rfl =>
                  have hp : ac.eval (.tmp 114) = .pointer (some ⟨b, o + k * 22 + 0, none⟩) := hdep 3 (by omega) (by kernel_rfl)
                  exact ow_load_str _ 9 rfl b (o + k * 22 + 0) hp _ (below_cell hS hx0) Try.underlying9 ⟨_, rfl, fun vs' h _ => h (fun e => by cases e), hbr, hS⟩
                | 5, _, rfl =>
                  exact ow_move _ rfl (v := .slice (some ⟨b, o, none⟩) sn sc) (hag 2 rfl) ⟨_, rfl, fun vs' h _ => h (fun e => by cases e), hbr, hS⟩
                | 6, _, rfl =>
                  exact ow_move _ rfl (v := .int .i64 (k : Int)) (hag 10 rfl) ⟨_, rfl, fun vs' h _ => h (fun e => by cases e), hbr, hS⟩
                | 7, _, rfl =>
                  have hs : ac.eval (.tmp 116) = .slice (some ⟨b, o, none⟩) sn sc := hdep 5 (by omega) (by kernel_rfl)
                  have hi : ac.eval (.tmp 117) = .int .i64 (k : Int) := hdep 6 (by omega) (by kernel_rfl)
                  exact ow_index_n _ _ 70 25 22 rfl b o sn sc k hs hi hlt Try.underlying25 info70 ⟨_, rfl, fun vs' h _ => h (fun e => by cases e), hbr, hS⟩
                | 8, _, rfl =>
                  have hp : ac.eval (.tmp 118) = .pointer (some ⟨b, o + k * 22, none⟩) := hdep 7 (by omega) (by kernel_rfl)
                  exact ow_field fld70_1 _ rfl b (o + k * 22) hp ⟨_, rfl, fun vs' h _ => h (fun e => by cases e), hbr, hS⟩
                | 9, _, rfl =>
                  have hp : ac.eval (.tmp 119) = .pointer (some ⟨b, o + k * 22 + 1, none⟩) := hdep 8 (by omega) (by kernel_rfl)
                  exact ow_load_str _ 9 rfl b (o + k * 22 + 1) hp _ (below_cell hS hx1) Try.underlying9 ⟨_, rfl, fun vs' h _ => h (fun e => by cases e), hbr, hS⟩
                | 10, _, rfl =>
                  exact ow_move _ rfl (v := .slice (some ⟨b, o, none⟩) sn sc) (hag 2 rfl) ⟨_, rfl, fun vs' h _ => h (fun e => by cases e), hbr, hS⟩
                | 11, _, rfl =>
                  exact ow_move _ rfl (v := .int .i64 (k : Int)) (hag 10 rfl) ⟨_, rfl, fun vs' h _ => h (fun e => by cases e), hbr, hS⟩
                | 12, _, rfl =>
                  have hs : ac.eval (.tmp 121) = .slice (some ⟨b, o, none⟩) sn sc := hdep 10 (by omega) (by kernel_rfl)
                  have hi : ac.eval (.tmp 122) = .int .i64 (k : Int) := hdep 11 (by omega) (by kernel_rfl)
                  exact ow_index_n _ _ 70 25 22 rfl b o sn sc k hs hi hlt Try.underlying25 info70 ⟨_, rfl, fun vs' h _ => h (fun e => by cases e), hbr, hS⟩
                | 13, _, rfl =>
                  have hp : ac.eval (.tmp 123) = .pointer (some ⟨b, o + k * 22, none⟩) := hdep 12 (by omega) (by kernel_rfl)
                  exact ow_field fld70_5 _ rfl b (o + k * 22) hp ⟨_, rfl, fun vs' h _ => h (fun e => by cases e), hbr, hS⟩
                | 14, _, rfl =>
                  have hp : ac.eval (.tmp 124) = .pointer (some ⟨b, o + k * 22 + 21, none⟩) := hdep 13 (by omega) (by kernel_rfl)
                  exact ow_load_str _ 9 rfl b (o + k * 22 + 21) hp _ (below_cell hS hx2) Try.underlying9 ⟨_, rfl, fun vs' h _ => h (fun e => by cases e), hbr, hS⟩
                | 15, _, rfl =>
                  have hs : ac.eval (.tmp 115) = encStr s1 := hdep 4 (by omega) (by kernel_rfl)
                  have hu : ac.eval (.tmp 120) = encStr s2 := hdep 9 (by omega) (by kernel_rfl)
                  have hv : ac.eval (.tmp 125) = encStr s3 := hdep 14 (by omega) (by kernel_rfl)
                  refine ow_build35_3 _ _ _ rfl s1 s2 s3 hs hu hv ?_
                  have hbb := below_alloc1 W (.cells #[encStr s1, encStr s2, encStr s3] 9)
                  exact ⟨_, rfl, fun vs' h _ => ⟨_, h (fun e => by cases e), World.alloc_heap_new W _⟩, hbb, hS.trans (hbb.mono hS.size)⟩
                | 16, _, rfl =>
                  obtain ⟨g, h1, h2⟩ : ∃ g, ac.eval (.tmp 126) = .slice (some ⟨g, 0, none⟩) 3 3 ∧ W.heap[g]? = some (.cells #[encStr s1, encStr s2, encStr s3] 9 (0, 0)) := hdep 15 (by omega) (by kernel_rfl)
                  refine ow_call Try.func30 (by kernel_rfl) rfl _ _ rfl (vs := #[.slice (some ⟨g, 0, none⟩) 3 3]) (by simp only [List.map_toArray, List.map_cons, List.map_nil, h1]) ?_
                  refine (texts_any _ _ W (rt_row3 h2)).mono ?_
                  rintro e w' ⟨rfl, bb, rfl, -⟩
                  exact ⟨_, rfl, ⟨_, rfl, fun vs' h _ => ⟨bb, h (fun e => by cases e)⟩, Below.refl _ _, hS⟩⟩
                | n + 17, hi, _ => exact absurd hi (by omega)
              case finq =>
                intro vs W hS hF
                have f16 : ∃ bb, vs 16 = .bool bb := hF 16 (by omega)
                clear hF
                change wpList _ _ _ _ (Act.put (Act.put (Act.put (Act.put (Act.put (Act.put (Act.put (Act.put (Act.put (Act.put (Act.put (Act.put (Act.put (Act.put (Act.put (Act.put (Act.put _ (some 111) (vs 0)) (some 112) (vs 1)) (some 113) (vs 2)) (some 114) (vs 3)) (some 115) (vs 4)) (some 116) (vs 5)) (some 117) (vs 6)) (some 118) (vs 7)) (some 119) (vs 8)) (some 120) (vs 9)) (some 121) (vs 10)) (some 122) (vs 11)) (some 123) (vs 12)) (some 124) (vs 13)) (some 125) (vs 14)) (some 126) (vs 15)) (some 127) (vs 16)) W
                generalize vs 0 = z0
                generalize vs 1 = z1
                generalize vs 2 = z2
                generalize vs 3 = z3
                generalize vs 4 = z4
                generalize vs 5 = z5
                generalize vs 6 = z6
                generalize vs 7 = z7
                generalize vs 8 = z8
                generalize vs 9 = z9
                generalize vs 10 = z10
                generalize vs 11 = z11
                generalize vs 12 = z12
                generalize vs 13 = z13
                generalize vs 14 = z14
                generalize vs 15 = z15
                generalize vs 16 = z16 at f16 ⊢
                simp only [putAll, List.drop_succ_cons, List.drop_zero, Act.put, List.setIfInBounds_toArray, List.set_cons_zero, List.set_cons_succ]
                clear vs
                obtain ⟨bb, rfl⟩ := f16
                have HBI2 := Lib.hid (HBI.out.trans (hS.mono HBI.out.size))
                clear hS hx0 hx1 hx2
                cases bb with
                | true =>
                  go_wp2_with fail
                  go_ret
                  exact ⟨⟨true, rfl, fun h => by cases h⟩, HBI2.out⟩
                | false =>
                  go_wp2_with fail
                  go_roundw
                  case rel => exact ⟨k + 1, rfl, by omega, HBI2.out⟩
                  case measure => simp [intOf]; omega
        · have hd : decide ((k : Int) < (ln : Int)) = true := by simp; omega
          have hd' : decide (k < ln) = true := by simp; omega
          obtain ⟨b, o, rfl, hc⟩ := HLE.out.resolve_left (by omega)
          obtain ⟨s1, h1⟩ := hc k hlt
          have hx0 : wr.cell? ⟨b, o + k * 2, none⟩ = some (encStr s1) := below_cell HBI.out h1
          clear hc h1
          go_wp2_with fail
          obtain ⟨wA, hwA⟩ : ∃ wA, wA = wr.alloc (.cells #[encStr s1] 9) := ⟨_, rfl⟩
          have hbA : Below wr.heap.size wr wA := by rw [hwA]; exact below_alloc1 _ _
          have hrA : wA.heap[wr.heap.size]? = some (.cells #[encStr s1] 9 (0, 0)) := by rw [hwA]; exact World.alloc_heap_new _ _
          have ht1 := texts_any _ _ wA (rt_one hrA)
          rw [← hwA]
          have HT1 := Lib.hid ht1
          have HBA := Lib.hid (HBI.out.trans (hbA.mono HBI.out.size))
          clear hwA hbA hrA ht1 hx0
          refine HT1.out.mono ?_
          rintro e w2 ⟨rfl, b1, rfl, -⟩
          clear HT1
          cases b1 with
          | true =>
            go_wp2_with fail
            go_ret
            exact ⟨⟨true, rfl, fun h => by cases h⟩, HBA.out⟩
          | false =>
            go_wp2_with fail
            go_roundw
            case rel => exact ⟨k + 1, rfl, by omega, HBA.out⟩
            case measure => simp [intOf]; omega
    · have hd : decide ((k : Int) < (docs.length : Int)) = true := by simp; omega
      have hd' : decide (k < docs.length) = true := by simp; omega
      obtain ⟨b, o, rfl, hrows⟩ := HDE.out.resolve_left (by omega)
      obtain ⟨cs, -, hcells, d, hdk, sq, nd, ch, gr, gn, rfl, hidl, hss, hgs, ⟨An, nn, cn, rfl⟩, htree⟩ := hrows k hlt
      have hrt := (hss.rt).below HBE.out
      obtain ⟨Ac, cc, rfl, -, -, -, -⟩ := hss
      obtain ⟨Ag, cg, rfl, hglc, hgcm, -, hgel⟩ := hgs
      have hgl : d.grants.length ≤ 9223372036854775807 := by unfold maxLen at hgcm; omega
      have hc0 : wr.cell? ⟨b, o + k * 6, none⟩ = some (encStr d.id) := below_cell HBE.out (hcells.2 0 _ rfl)
      have hc2 : wr.cell? ⟨b, o + k * 6 + 2, none⟩ = some (.slice An nn cn) := below_cell HBE.out (hcells.2 2 _ rfl)
      have hc3 : wr.cell? ⟨b, o + k * 6 + 3, none⟩ = some (.slice Ac d.chans.length cc) := below_cell HBE.out (hcells.2 3 _ rfl)
      have hc4 : wr.cell? ⟨b, o + k * 6 + 4, none⟩ = some (.slice Ag d.grants.length cg) := below_cell HBE.out (hcells.2 4 _ rfl)
      have HTR := Lib.hid htree
      have HRT := Lib.hid hrt
      have HGE := Lib.hid hgel
      have HC := Lib.hid hcells
      have hdk' : docs[k] = d := by rw [List.getElem?_eq_getElem hlt] at hdk; injection hdk
      have HDK := Lib.hid hdk'
      clear hrows hcells hdk hdk' hidl htree hrt hgel hglc hgcm
      go_wp2_with fail
      obtain ⟨wA, hwA⟩ : ∃ wA, wA = wr.alloc (.cells #[encStr d.id] 9) := ⟨_, rfl⟩
      have hbA : Below wr.heap.size wr wA := by rw [hwA]; exact below_alloc1 _ _
      have hrA : wA.heap[wr.heap.size]? = some (.cells #[encStr d.id] 9 (0, 0)) := by rw [hwA]; exact World.alloc_heap_new _ _
      have ht1 := texts_any _ _ wA (rt_one hrA)
      have ht2 := texts_any _ _ wA (HRT.out.below hbA)
      have hbwA := HBE.out.trans (hbA.mono HBE.out.size)
      have ht3 := long07_any w _ HTR.out wA hbwA
      replace hc2 := below_cell hbA hc2
      replace hc3 := below_cell hbA hc3
      replace hc4 := below_cell hbA hc4
      rw [← hwA]
      have HT1 := Lib.hid ht1
      have HT2 := Lib.hid ht2
      have HT3 := Lib.hid ht3
      have HBA := Lib.hid hbwA
      clear hwA hbA hrA ht1 ht2 ht3 hbwA hc0 HRT
      refine HT1.out.mono ?_
      rintro e w2 ⟨rfl, b1, rfl, -⟩
      clear HT1
      cases b1 with
      | true =>
        go_wp2_with fail
        go_ret
        exact ⟨⟨true, rfl, fun h => by cases h⟩, HBA.out⟩
      | false =>
        go_wp2_with fail
        refine HT2.out.mono ?_
        rintro e w3 ⟨rfl, b2, rfl, hb2⟩
        have HL2 := Lib.hid hb2
        clear HT2 hc3 hb2
        cases b2 with
        | true =>
          go_wp2_with fail
          go_ret
          exact ⟨⟨true, rfl, fun h => by cases h⟩, HBA.out⟩
        | false =>
          go_wp2_with fail
          refine HT3.out.mono ?_
          rintro e w4 ⟨⟨b3, rfl⟩, hb4⟩
          replace hc4 := below_cell hb4 hc4
          have HB4 := Lib.hid (HBA.out.trans (hb4.mono HBA.out.size))
          clear HT3 hc2 hb4
          cases b3 with
          | true =>
            go_wp2_with fail
            go_ret
            exact ⟨⟨true, rfl, fun h => by cases h⟩, HB4.out⟩
          | false =>
            by_cases c4 : 60 < d.grants.length
            · have hd4 : decide ((60 : Int) < (d.grants.length : Int)) = true := by simp; omega
              go_wp2_with fail
              go_ret
              exact ⟨⟨true, rfl, fun h => by cases h⟩, HB4.out⟩
            have hd4 : decide ((60 : Int) < (d.grants.length : Int)) = false := by simp; omega
            go_wp2_with fail
            clear hd4 hc4
            have HSMK := Lib.hid (show ∀ d ∈ docs.take (k + 1), d.chans.length ≤ 200 ∧ d.grants.length ≤ 60 from by
              intro e he
              rw [← List.take_append_getElem hlt, HDK.out] at he
              rcases List.mem_append.1 he with he | he
              · exact HSM.out e he
              · rw [List.mem_singleton.1 he]; exact ⟨HL2.out trivial, by omega⟩)
            go_loopw [8] (fun vi wq => ∃ j : Nat, vi = .int .i64 (j : Int) ∧ j ≤ d.grants.length ∧ Below w.heap.size w wq) (fun vi _ => d.grants.length - (intOf vi).toNat)
            case atStart => exact ⟨0, rfl, Nat.zero_le _, HB4.out⟩
            case round =>
              clear HB4 HBA HBE HL2 HSM
              obtain ⟨j, rfl, hj, hbi⟩ := hrel
              have HBI := Lib.hid hbi
              clear hbi
              have hc4q : wr.cell? ⟨b, o + k * 6 + 4, none⟩ = some (.slice Ag d.grants.length cg) := below_cell HBI.out (HC.out.2 4 _ rfl)
              rcases (show j = d.grants.length ∨ j < d.grants.length by omega) with rfl | hjl
              · have hdd : decide ((d.grants.length : Int) < (d.grants.length : Int)) = false := by simp
                go_wp2_with fail
                go_roundw
                case rel => exact ⟨k + 1, rfl, by omega, HBI.out, HSMK.out⟩
                case measure => simp [intOf]; omega
              · have hdd : decide ((j : Int) < (d.grants.length : Int)) = true := by simp; omega
                have hdd' : decide (j < d.grants.length) = true := by simp; omega
                obtain ⟨gb, go, rfl, hgr⟩ := HGE.out.resolve_left (by omega)
                obtain ⟨csg, -, hcg, x, -, rfl⟩ := hgr j hjl
                have hx0 : wr.cell? ⟨gb, go + j * 2 + 0, none⟩ = some (encStr x.1) := below_cell HBI.out (hcg.2 0 _ rfl)
                have hx1 : wr.cell? ⟨gb, go + j * 2 + 1, none⟩ = some (encStr x.2) := below_cell HBI.out (hcg.2 1 _ rfl)
                clear hgr hcg
                go_upto_region 11 with fail
                refine region_f 20 (fun i vs W => match i with
                    | 0 => vs 0 = .slice (some ⟨b, o, none⟩) docs.length dc
                    | 1 => vs 1 = .int .i64 (k : Int)
                    | 2 => vs 2 = .pointer (some ⟨b, o + k * 6, none⟩)
                    | 3 => vs 3 = .pointer (some ⟨b, o + k * 6 + 4, none⟩)
                    | 4 => vs 4 = .slice (some ⟨gb, go, none⟩) d.grants.length cg
                    | 5 => vs 5 = .int .i64 (j : Int)
                    | 6 => vs 6 = .pointer (some ⟨gb, go + j * 2, none⟩)
                    | 7 => vs 7 = .pointer (some ⟨gb, go + j * 2 + 0, none⟩)
                    | 8 => vs 8 = encStr x.1
                    | 9 => vs 9 = .slice (some ⟨b, o, none⟩) docs.length dc
                    | 10 => vs 10 = .int .i64 (k : Int)
                    | 11 => vs 11 = .pointer (some ⟨b, o + k * 6, none⟩)
                    | 12 => vs 12 = .pointer (some ⟨b, o + k * 6 + 4, none⟩)
                    | 13 => vs 13 = .slice (some ⟨gb, go, none⟩) d.grants.length cg
                    | 14 => vs 14 = .int .i64 (j : Int)
                    | 15 => vs 15 = .pointer (some ⟨gb, go + j * 2, none⟩)
                    | 16 => vs 16 = .pointer (some ⟨gb, go + j * 2 + 1, none⟩)
                    | 17 => vs 17 = encStr x.2
                    | 18 => ∃ g, vs 18 = .slice (some ⟨g, 0, none⟩) 2 2 ∧ W.heap[g]? = some (.cells #[encStr x.1, encStr x.2] 9 (0, 0))
                    | 19 => ∃ bb, vs 19 = .bool bb
                    | _ => True) (fun _ W W' => Below W.heap.size W W') (fun W => Below wr.heap.size wr W) (by kernel_rfl) (by kernel_rfl) ?hstr ?h0r ?stepr ?finr
                case hstr =>
                  intro i k vs W W' _ _ h hG
                  match i, h with
                  | 0, h => exact h
                  | 1, h => exact h
                  | 2, h => exact h
                  | 3, h => exact h
                  | 4, h => exact h
                  | 5, h => exact h
                  | 6, h => exact h
                  | 7, h => exact h
                  | 8, h => exact h
                  | 9, h => exact h
                  | 10, h => exact h
                  | 11, h => exact h
                  | 12, h => exact h
                  | 13, h => exact h
                  | 14, h => exact h
                  | 15, h => exact h
                  | 16, h => exact h
                  | 17, h => exact h
                  | 18, ⟨g, e1, e2⟩ => exact ⟨g, e1, blk_below e2 hG⟩
                  | 19, h => exact h
                  | n + 20, _ => trivial
                case h0r => exact (Below.refl _ _).drew
                case stepr =>
                  intro i op hi ho ac W hS hag hdep
                  have hbr : Below W.heap.size W W := Below.refl _ _
                  match i, hi, ho with
                  | 0, _, rfl =>
                    exact ow_move _ rfl (v := .slice (some ⟨b, o, none⟩) docs.length dc) (hag 0 rfl) ⟨_, rfl, fun vs' h _ => h (fun e => by cases e), hbr, hS⟩
                  | 1, _, rfl =>
                    exact ow_move _ rfl (v := .int .i64 (k : Int)) (hag 7 rfl) ⟨_, rfl, fun vs' h _ => h (fun e => by cases e), hbr, hS⟩
                  | 2, _, rfl =>
                    have hs : ac.eval (.tmp 72) = .slice (some ⟨b, o, none⟩) docs.length dc := hdep 0 (by omega) (by kernel_rfl)
                    have hi : ac.eval (.tmp 73) = .int .i64 (k : Int) := hdep 1 (by omega) (by kernel_rfl)
                    exact ow_index_n _ _ 45 23 6 rfl b o docs.length dc k hs hi hlt Try.underlying23 info45 ⟨_, rfl, fun vs' h _ => h (fun e => by cases e), hbr, hS⟩
                  | 3, _, rfl =>
                    have hp : ac.eval (.tmp 74) = .pointer (some ⟨b, o + k * 6, none⟩) := hdep 2 (by omega) (by kernel_rfl)
                    exact ow_field fld45_4 _ rfl b (o + k * 6) hp ⟨_, rfl, fun vs' h _ => h (fun e => by cases e), hbr, hS⟩
                  | 4, _, rfl =>
                    have hp : ac.eval (.tmp 75) = .pointer (some ⟨b, o + k * 6 + 4, none⟩) := hdep 3 (by omega) (by kernel_rfl)
                    exact ow_load_slice' _ 48 43 rfl b (o + k * 6 + 4) hp (some ⟨gb, go, none⟩) d.grants.length cg (below_cell hS hc4q) Try.underlying43 ⟨_, rfl, fun vs' h _ => h (fun e => by cases e), hbr, hS⟩
                  | 5, _, rfl =>
                    exact ow_move _ rfl (v := .int .i64 (j : Int)) (hag 8 rfl) ⟨_, rfl, fun vs' h _ => h (fun e => by cases e), hbr, hS⟩
                  | 6, _, rfl =>
                    have hs : ac.eval (.tmp 76) = .slice (some ⟨gb, go, none⟩) d.grants.length cg := hdep 4 (by omega) (by kernel_rfl)
                    have hi : ac.eval (.tmp 77) = .int .i64 (j : Int) := hdep 5 (by omega) (by kernel_rfl)
                    exact ow_index_n _ _ 48 43 2 rfl gb go d.grants.length cg j hs hi hjl Try.underlying43 info48 ⟨_, rfl, fun vs' h _ => h (fun e => by cases e), hbr, hS⟩
                  | 7, _, rfl =>
                    have hp : ac.eval (.tmp 78) = .pointer (some ⟨gb, go + j * 2, none⟩) := hdep 6 (by omega) (by kernel_rfl)
                    exact ow_field fld48_0 _ rfl gb (go + j * 2) hp ⟨_, rfl, fun vs' h _ => h (fun e => by cases e), hbr, hS⟩
                  | 8, _, rfl =>
                    have hp : ac.eval (.tmp 79) = .pointer (some ⟨gb, go + j * 2 + 0, none⟩) := hdep 7 (by omega) (by kernel_rfl)
                    exact ow_load_str _ 9 rfl gb (go + j * 2 + 0) hp _ (below_cell hS hx0) Try.underlying9 ⟨_, rfl, fun vs' h _ => h (fun e => by cases e), hbr, hS⟩
                  | 9, _, rfl =>
                    exact ow_move _ rfl (v := .slice (some ⟨b, o, none⟩) docs.length dc) (hag 0 rfl) ⟨_, rfl, fun vs' h _ => h (fun e => by cases e), hbr, hS⟩
                  | 10, _, rfl =>
                    exact ow_move _ rfl (v := .int .i64 (k : Int)) (hag 7 rfl) ⟨_, rfl, fun vs' h _ => h (fun e => by cases e), hbr, hS⟩
                  | 11, _, rfl =>
                    have hs : ac.eval (.tmp 81) = .slice (some ⟨b, o, none⟩) docs.length dc := hdep 9 (by omega) (by kernel_rfl)
                    have hi : ac.eval (.tmp 82) = .int .i64 (k : Int) := hdep 10 (by omega) (by kernel_rfl)
                    exact ow_index_n _ _ 45 23 6 rfl b o docs.length dc k hs hi hlt Try.underlying23 info45 ⟨_, rfl, fun vs' h _ => h (fun e => by cases e), hbr, hS⟩
                  | 12, _, rfl =>
                    have hp : ac.eval (.tmp 83) = .pointer (some ⟨b, o + k * 6, none⟩) := hdep 11 (by omega) (by kernel_rfl)
                    exact ow_field fld45_4 _ rfl b (o + k * 6) hp ⟨_, rfl, fun vs' h _ => h (fun e => by cases e), hbr, hS⟩
                  | 13, _, rfl =>
                    have hp : ac.eval (.tmp 84) = .pointer (some ⟨b, o + k * 6 + 4, none⟩) := hdep 12 (by omega) (by kernel_rfl)
                    exact ow_load_slice' _ 48 43 rfl b (o + k * 6 + 4) hp (some ⟨gb, go, none⟩) d.grants.length cg (below_cell hS hc4q) Try.underlying43 ⟨_, rfl, fun vs' h _ => h (fun e => by cases e), hbr, hS⟩
                  | 14, _, rfl =>
                    exact ow_move _ rfl (v := .int .i64 (j : Int)) (hag 8 rfl) ⟨_, rfl, fun vs' h _ => h (fun e => by cases e), hbr, hS⟩
                  | 15, _, rfl =>
                    have hs : ac.eval (.tmp 85) = .slice (some ⟨gb, go, none⟩) d.grants.length cg := hdep 13 (by omega) (by kernel_rfl)
                    have hi : ac.eval (.tmp 86) = .int .i64 (j : Int) := hdep 14 (by omega) (by kernel_rfl)
                    exact ow_index_n _ _ 48 43 2 rfl gb go d.grants.length cg j hs hi hjl Try.underlying43 info48 ⟨_, rfl, fun vs' h _ => h (fun e => by cases e), hbr, hS⟩
                  | 16, _, rfl =>
                    have hp : ac.eval (.tmp 87) = .pointer (some ⟨gb, go + j * 2, none⟩) := hdep 15 (by omega) (by kernel_rfl)
                    exact ow_field fld48_1 _ rfl gb (go + j * 2) hp ⟨_, rfl, fun vs' h _ => h (fun e => by cases e), hbr, hS⟩
                  | 17, _, rfl =>
                    have hp : ac.eval (.tmp 88) = .pointer (some ⟨gb, go + j * 2 + 1, none⟩) := hdep 16 (by omega) (by kernel_rfl)
                    exact ow_load_str _ 9 rfl gb (go + j * 2 + 1) hp _ (below_cell hS hx1) Try.underlying9 ⟨_, rfl, fun vs' h _ => h (fun e => by cases e), hbr, hS⟩
                  | 18, _, rfl =>
                    have hs : ac.eval (.tmp 80) = encStr x.1 := hdep 8 (by omega) (by kernel_rfl)
                    have hu : ac.eval (.tmp 89) = encStr x.2 := hdep 17 (by omega) (by kernel_rfl)
                    refine ow_build35_2 _ _ rfl x.1 x.2 hs hu ?_
                    have hbb := below_alloc1 W (.cells #[encStr x.1, encStr x.2] 9)
                    exact ⟨_, rfl, fun vs' h _ => ⟨_, h (fun e => by cases e), World.alloc_heap_new W _⟩, hbb, hS.trans (hbb.mono hS.size)⟩
                  | 19, _, rfl =>
                    obtain ⟨g, h1, h2⟩ : ∃ g, ac.eval (.tmp 90) = .slice (some ⟨g, 0, none⟩) 2 2 ∧ W.heap[g]? = some (.cells #[encStr x.1, encStr x.2] 9 (0, 0)) := hdep 18 (by omega) (by kernel_rfl)
                    refine ow_call Try.func30 (by kernel_rfl) rfl _ _ rfl (vs := #[.slice (some ⟨g, 0, none⟩) 2 2]) (by simp only [List.map_toArray, List.map_cons, List.map_nil, h1]) ?_
                    refine (texts_any _ _ W (rt_row2 h2)).mono ?_
                    rintro e w' ⟨rfl, bb, rfl, -⟩
                    exact ⟨_, rfl, ⟨_, rfl, fun vs' h _ => ⟨bb, h (fun e => by cases e)⟩, Below.refl _ _, hS⟩⟩
                  | n + 20, hi, _ => exact absurd hi (by omega)
                case finr =>
                  intro vs W hS hF
                  have f19 : ∃ bb, vs 19 = .bool bb := hF 19 (by omega)
                  clear hF
                  change wpList _ _ _ _ (Act.put (Act.put (Act.put (Act.put (Act.put (Act.put (Act.put (Act.put (Act.put (Act.put (Act.put (Act.put (Act.put (Act.put (Act.put (Act.put (Act.put (Act.put (Act.put (Act.put _ (some 72) (vs 0)) (some 73) (vs 1)) (some 74) (vs 2)) (some 75) (vs 3)) (some 76) (vs 4)) (some 77) (vs 5)) (some 78) (vs 6)) (some 79) (vs 7)) (some 80) (vs 8)) (some 81) (vs 9)) (some 82) (vs 10)) (some 83) (vs 11)) (some 84) (vs 12)) (some 85) (vs 13)) (some 86) (vs 14)) (some 87) (vs 15)) (some 88) (vs 16)) (some 89) (vs 17)) (some 90) (vs 18)) (some 91) (vs 19)) W
                  generalize vs 0 = z0
                  generalize vs 1 = z1
                  generalize vs 2 = z2
                  generalize vs 3 = z3
                  generalize vs 4 = z4
                  generalize vs 5 = z5
                  generalize vs 6 = z6
                  generalize vs 7 = z7
                  generalize vs 8 = z8
                  generalize vs 9 = z9
                  generalize vs 10 = z10
                  generalize vs 11 = z11
                  generalize vs 12 = z12
                  generalize vs 13 = z13
                  generalize vs 14 = z14
                  generalize vs 15 = z15
                  generalize vs 16 = z16
                  generalize vs 17 = z17
                  generalize vs 18 = z18
                  generalize vs 19 = z19 at f19 ⊢
                  simp only [putAll, List.drop_succ_cons, List.drop_zero, Act.put, List.setIfInBounds_toArray, List.set_cons_zero, List.set_cons_succ]
                  clear vs
                  obtain ⟨bb, rfl⟩ := f19
                  have HBI2 := Lib.hid (HBI.out.trans (hS.mono HBI.out.size))
                  clear hS hc4q hx0 hx1
                  cases bb with
                  | true =>
                    go_wp2_with fail
                    go_ret
                    exact ⟨⟨true, rfl, fun h => by cases h⟩, HBI2.out⟩
                  | false =>
                    go_wp2_with fail
                    go_roundw
                    case rel => exact ⟨j + 1, rfl, by omega, HBI2.out⟩
                    case measure => simp [intOf]; omega
end Go.Proofs.Ytncjgfhipflokaa
