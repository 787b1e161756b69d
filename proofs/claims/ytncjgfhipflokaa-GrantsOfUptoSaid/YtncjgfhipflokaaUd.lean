/-
  GrantsApart: the walk.
-/
import Derived.Test.YtncjgfhipflokaaUc
import Derived.Test.YtncjgfhipflokaaSt
namespace Go.Proofs.Ytncjgfhipflokaa
open Go.RowKit Go.Shelf Hp Go.Maps

theorem ds_one {T : World → Value → Prop} {B0 : Nat} {w : World} {g : Nat} {d : Doc} {cs : List Value} {fr : Nat × Nat} (h : w.heap[g]? = some (.cells cs.toArray 45 fr)) (hd : DocR T B0 w d cs) (hB : B0 ≤ w.heap.size) : DS T w.heap.size w (.slice (some ⟨g, 0, none⟩) 1 1) [d] := by
  refine ⟨_, 1, rfl, Nat.le_refl _, by unfold maxLen; omega, .inr ⟨g, 0, rfl, fun k hk => ?_⟩⟩
  obtain rfl : k = 0 := by simp at hk; omega
  refine ⟨cs, hd.len, ⟨blk_lt h, fun j v hj => ?_⟩, d, rfl, hd.mono hB⟩
  rw [cell_of_row w g _ _ _ _ h]
  simpa using hj
theorem DocR.low1 {T T' : World → Value → Prop} {B0 : Nat} {w w' : World} {d : Doc} {cs : List Value} (h : DocR T B0 w d cs) (hT : ∀ v, T w v → T' w' v) (hl : Low B0 w w') : DocR T' B0 w' d cs := by
  obtain ⟨sq, nd, ch, gr, gn, h1, h2, h3, h4, h5, h6⟩ := h
  exact ⟨sq, nd, ch, gr, gn, h1, h2, h3.low hl, h4.low hl, h5, hT nd h6⟩
theorem loc_nil (w : World) : LocT w (.slice none 0 0) := ⟨none, 0, 0, rfl, by unfold maxLen; omega, .inl rfl⟩
theorem seen_nil (w : World) : SeenT w (.slice none 0 0) := ⟨none, 0, 0, rfl, by unfold maxLen; omega, .inl rfl⟩
theorem Stt.keep {B0 N : Nat} {docs : List Doc} {sq : Int} {dv lv sv : Value} {W W' : World} (h : Stt B0 N docs sq dv lv sv W) (hB : B0 ≤ N) (hk : ∀ (k : Nat) (o : Obj), k ≤ N → W.heap[k]? = some o → W'.heap[k]? = some o) (hs : W.heap.size ≤ W'.heap.size) : Stt B0 N docs sq dv lv sv W' :=
  ⟨h.ds.low trueT (fun k o h1 h2 => hk k o (by omega) h2), hk _ _ (Nat.le_refl _) h.row, Nat.le_trans h.le hs, h.sm⟩

set_option maxHeartbeats 4000000 in
set_option maxRecDepth 8000 in
theorem GrantsApart_any (B0 : Nat) (docs : List Doc) (sq : Int) (dv lv sv : Value) (d : Doc) (dcs : List Value) (u : S) (at_i : Int) (hai : -9223372036854775808 ≤ at_i ∧ at_i ≤ 9223372036854775807) (w : World) (hB : B0 ≤ w.heap.size) (hds : DS TreeT B0 w dv docs) (hlv : LocT w lv) (hsv : SeenT w sv) (hdr : DocR TreeT B0 w d dcs) :
    Calls Try.prog 5 #[.agg (stV sq dv lv sv), .agg dcs.toArray, encStr u, .int .i64 at_i] w fun e w' => e = .returned (.bool true) ∧ Below w.heap.size w w' := by
  obtain ⟨N, hN⟩ : ∃ N, N = w.heap.size := ⟨_, rfl⟩
  have hdr0 := hdr
  obtain ⟨dsq, dnd, dch, dgr, dgn, rfl, hdl, hdc, hdg, ⟨DNA, dnn, dnc, rfl⟩, hdt⟩ := hdr
  obtain ⟨DCA, dcc, rfl, hcc1, hcc2, -, hce⟩ := hdc
  obtain ⟨DGA, dgc, rfl, hgc1, hgc2, -, hge⟩ := hdg
  obtain ⟨W0, hW0⟩ : ∃ W0, W0 = (w.alloc (.cells (stV sq dv lv sv) 27)).alloc (.cells (docC d.id dsq (.slice DNA dnn dnc) (.slice DCA d.chans.length dcc) (.slice DGA d.grants.length dgc) dgn).toArray 45) := ⟨_, rfl⟩
  have hrow : W0.heap[N]? = some (.cells (stV sq dv lv sv) 27 (0, 0)) := by rw [hW0, hN]; exact blk_alloc (World.alloc_heap_new w _) _
  have hrowd : W0.heap[N + 1]? = some (.cells (docC d.id dsq (.slice DNA dnn dnc) (.slice DCA d.chans.length dcc) (.slice DGA d.grants.length dgc) dgn).toArray 45 (0, 0)) := by rw [hW0]; exact alloc_new_at (by simp [hN])
  have hbel : Below w.heap.size w W0 := by rw [hW0]; exact ((Below.refl _ w).alloc (Nat.le_refl _) _).alloc (by simp) _
  have hlong := long_any B0 docs sq dv lv sv W0 (hds.low1 (fun v h => TreeT.below hbel h) (Low.of_all hbel)) (hlv.below hbel) (hsv.below hbel)
  have hst : Small docs → Stt B0 N docs sq dv lv sv W0 := fun h => ⟨hds.any.low trueT (Low.of_all hbel), hrow, Nat.le_trans hB hbel.size, h.fit⟩
  have hr0 : W0.cell? ⟨N, 0, none⟩ = some (.int .u64 sq) := cell_of_row W0 N 0 _ _ _ hrow
  have hr1 : W0.cell? ⟨N, 1, none⟩ = some dv := cell_of_row W0 N 1 _ _ _ hrow
  have hr2 : W0.cell? ⟨N, 2, none⟩ = some lv := cell_of_row W0 N 2 _ _ _ hrow
  have hr3 : W0.cell? ⟨N, 3, none⟩ = some sv := cell_of_row W0 N 3 _ _ _ hrow
  have hcl1 : d.chans.length ≤ 9223372036854775807 := by unfold maxLen at hcc2; omega
  have hgl1 : d.grants.length ≤ 9223372036854775807 := by unfold maxLen at hgc2; omega
  have hBN : B0 ≤ N := by omega
  have hlo := hlv.one
  have hso := hsv.one
  have HLO1 := Lib.hid hlo
  have HSO1 := Lib.hid hso
  clear hlo hso
  have HDR := Lib.hid hdr0
  have HCE := Lib.hid hce
  have HGE := Lib.hid hge
  have HLONG := Lib.hid hlong
  have HS0 := Lib.hid hst
  have HBEL := Lib.hid hbel
  have HN := Lib.hid hN
  have HRD := Lib.hid hrowd
  have HAI := Lib.hid hai
  clear hrow hrowd hbel hlong hst hds hlv hsv hB hdr0 hce hge hdt hdl hcc1 hcc2 hgc1 hgc2 hai
  go_enter Try.func5, Try.ntmps5
  go_upto_region 1 with fail
  rw [← HN.out, ← hW0]
  have HW0 := Lib.hid hW0
  clear hN hW0
  go_wp2_with fail
  refine HLONG.out.mono ?_
  rintro e w1 ⟨⟨b, rfl, hb⟩, hb1⟩
  have HB := Lib.hid hb
  have HB1 := Lib.hid (HBEL.out.trans (hb1.mono HBEL.out.size))
  have HL1 := Lib.hid hb1
  have hrd1 := blk_below HRD.out hb1
  clear hb hb1 hr0 hr1 hr2 hr3 HLONG
  cases b with
  | true =>
    clear hrd1
    go_wp2_with fail
    refine (awakeL HB1.out).mono ?_
    rintro e w7 ⟨rfl, hb7⟩
    go_wp2_with fail
    go_ret
    exact ⟨rfl, hb7⟩
  | false =>
    have hst1 := (HS0.out (HB.out (by trivial))).below HL1.out
    have HSM := Lib.hid (HB.out (by trivial))
    have HST1 := Lib.hid hst1
    have hq0 : w1.cell? ⟨N + 1, 0, none⟩ = some (encStr d.id) := cell_of_row w1 (N + 1) 0 _ _ _ hrd1
    have hq1 : w1.cell? ⟨N + 1, 1, none⟩ = some (.int .u64 dsq) := cell_of_row w1 (N + 1) 1 _ _ _ hrd1
    have hq2 : w1.cell? ⟨N + 1, 2, none⟩ = some (.slice DNA dnn dnc) := cell_of_row w1 (N + 1) 2 _ _ _ hrd1
    have hq3 : w1.cell? ⟨N + 1, 3, none⟩ = some (.slice DCA d.chans.length dcc) := cell_of_row w1 (N + 1) 3 _ _ _ hrd1
    have hq4 : w1.cell? ⟨N + 1, 4, none⟩ = some (.slice DGA d.grants.length dgc) := cell_of_row w1 (N + 1) 4 _ _ _ hrd1
    have hq5 : w1.cell? ⟨N + 1, 5, none⟩ = some (.int .i64 dgn) := cell_of_row w1 (N + 1) 5 _ _ _ hrd1
    have HRD1 := Lib.hid hrd1
    clear hst1 HS0 HB HL1 hrd1 HRD
    go_wp2_with fail
    obtain ⟨wA, hwA⟩ : ∃ wA, wA = w1.alloc (.cells #[encStr d.id, .int .u64 dsq, .slice DNA dnn dnc, .slice DCA d.chans.length dcc, .slice DGA d.grants.length dgc, .int .i64 dgn] 45) := ⟨_, rfl⟩
    have hbA : Below w1.heap.size w1 wA := by rw [hwA]; exact below_alloc1 _ _
    have hrA : wA.heap[w1.heap.size]? = some (.cells (docC d.id dsq (.slice DNA dnn dnc) (.slice DCA d.chans.length dcc) (.slice DGA d.grants.length dgc) dgn).toArray 45 (0, 0)) := by rw [hwA]; exact World.alloc_heap_new _ _
    have hbwA := HB1.out.trans (hbA.mono HB1.out.size)
    have hdA : DocR TreeT B0 wA d _ := HDR.out.low1 (fun v h => TreeT.below hbwA h) (Low.of_all hbwA)
    have hlr := longRows_any _ [d] _ _ _ wA (ds_one hrA hdA (by have := hbwA.size; have := HN.out; omega)) (loc_nil wA) (seen_nil wA)
    have HLR := Lib.hid hlr
    have HSTA := Lib.hid (HST1.out.below hbA)
    have HBA := Lib.hid hbwA
    have hrdA := blk_below HRD1.out hbA
    have HRDA := Lib.hid hrdA
    rw [← hwA]
    clear hwA hbA hrA hbwA hdA hlr hrdA HRD1 HST1 HB1 hq0 hq1 hq2 hq3 hq4 hq5
    refine HLR.out.mono ?_
    rintro e w2 ⟨⟨b2, rfl, hb2⟩, hbb⟩
    have HB2 := Lib.hid (HBA.out.trans (hbb.mono HBA.out.size))
    have HST2 := Lib.hid (HSTA.out.below hbb)
    have HRD2 := Lib.hid (blk_below HRDA.out hbb)
    have HSMD := Lib.hid hb2
    clear hbb hb2 HBA HSTA HRDA HLR
    cases b2 with
    | true =>
      go_wp2_with fail
      refine (awakeL HB2.out).mono ?_
      rintro e w7 ⟨rfl, hb7⟩
      go_wp2_with fail
      go_ret
      exact ⟨rfl, hb7⟩
    | false =>
      have hsmd := HSMD.out (by trivial)
      have HSD := Lib.hid hsmd
      clear hsmd HSMD
      by_cases c1 : 300 < u.length
      · have hd1 : decide ((300 : Int) < (u.length : Int)) = true := by simp; omega
        go_wp2_with fail
        refine (awakeL HB2.out).mono ?_
        rintro e w7 ⟨rfl, hb7⟩
        go_wp2_with fail
        go_ret
        exact ⟨rfl, hb7⟩
      have hd1 : decide ((300 : Int) < (u.length : Int)) = false := by simp; omega
      obtain ⟨hr0, hr1, hr2, hr3⟩ := HST2.out.c
      go_wp2_with fail
      refine (HST2.out.of u).mono ?_
      rintro e w3 ⟨v, lo, rfl, hro, hko, hb3⟩
      have HST3 := Lib.hid (HST2.out.below hb3)
      have HB3 := Lib.hid (HB2.out.trans (hb3.mono HB2.out.size))
      have HRD3 := Lib.hid (blk_below HRD2.out hb3)
      have HKO := Lib.hid hko
      have HRT3 := Lib.hid hro
      obtain ⟨OA, oc, rfl, hol, hro⟩ := hro
      have hol1 : lo.length ≤ 9223372036854775807 := hol
      have HRO := Lib.hid hro
      have hq4 : w3.cell? ⟨N + 1, 4, none⟩ = some (.slice DGA d.grants.length dgc) := cell_of_row w3 (N + 1) 4 _ _ _ HRD3.out
      clear hr0 hr1 hr2 hr3 hd1 hb3 hko hol hro HST2 HB2 HRD2
      go_wp2_with fail
      go_loopw [10] (fun vi wr => ∃ q : Nat, vi = .int .i64 (q : Int) ∧ q ≤ d.grants.length ∧ wr = w3 ∧ ∀ g ∈ d.grants.take q, g.1 ≠ u) (fun vi _ => d.grants.length - (intOf vi).toNat)
      case atStart => exact ⟨0, rfl, Nat.zero_le _, rfl, fun g hg => absurd hg (by simp)⟩
      case round =>
        obtain ⟨q, rfl, hq, hwr, hnu⟩ := hrel
        subst wr
        have HNU := Lib.hid hnu
        clear hnu
        rcases (show q = d.grants.length ∨ q < d.grants.length by omega) with rfl | hql
        · have hd : decide ((d.grants.length : Int) < (d.grants.length : Int)) = false := by simp
          rw [List.take_length] at HNU
          go_wp2_with fail
          clear hd hq4
          go_loopw [11] (fun vi wr => ∃ q : Nat, vi = .int .i64 (q : Int) ∧ q ≤ d.chans.length ∧ Below w3.heap.size w3 wr ∧ ∀ c ∈ d.chans.take q, c ∉ lo) (fun vi _ => d.chans.length - (intOf vi).toNat)
          case atStart => exact ⟨0, rfl, Nat.zero_le _, Below.refl _ _, fun c hc => absurd hc (by simp)⟩
          case round =>
            obtain ⟨q, rfl, hq, hbl, hnc⟩ := hrel
            have HBL := Lib.hid hbl
            have HNC := Lib.hid hnc
            clear hbl hnc
            have hq3 : wr.cell? ⟨N + 1, 3, none⟩ = some (.slice DCA d.chans.length dcc) := cell_of_row wr (N + 1) 3 _ _ _ (blk_below HRD3.out HBL.out)
            rcases (show q = d.chans.length ∨ q < d.chans.length by omega) with rfl | hql
            · have hd : decide ((d.chans.length : Int) < (d.chans.length : Int)) = false := by simp
              rw [List.take_length] at HNC
              go_wp2_with fail
              clear hd hq3
              have HAPD := Lib.hid HNC.out
              clear HNC
              obtain ⟨DA, ddc, rows, rfl, hdc1, hdc2, hdrw, hdcell⟩ := HST3.out.ds.rows
              have hdl1 : docs.length ≤ 9223372036854775807 := by unfold maxLen at hdc2; omega
              have HROWS := Lib.hid hdrw
              have HDCELL := Lib.hid hdcell
              clear hdrw hdcell
              go_loopw [13] (fun vi wr => ∃ q : Nat, vi = .int .i64 (q : Int) ∧ q ≤ docs.length ∧ Below w3.heap.size w3 wr ∧ ∀ e ∈ docs.take q, e.id ≠ d.id) (fun vi _ => docs.length - (intOf vi).toNat)
              case atStart => exact ⟨0, rfl, Nat.zero_le _, HBL.out, fun c hc => absurd hc (by simp)⟩
              case round =>
                clear HBL
                obtain ⟨q, rfl, hq, hbl, hni⟩ := hrel
                have HBL := Lib.hid hbl
                have HNI := Lib.hid hni
                clear hbl hni
                have hr1 : wr.cell? ⟨N, 1, none⟩ = some (.slice DA docs.length ddc) := cell_of_row wr N 1 _ _ _ (blk_below HST3.out.row HBL.out)
                rcases (show q = docs.length ∨ q < docs.length by omega) with rfl | hql
                · have hd : decide ((docs.length : Int) < (docs.length : Int)) = false := by simp
                  rw [List.take_length] at HNI
                  go_upto_region 22 with fail
                  clear hd hr1
                  rename World => W4
                  have HST := Lib.hid (HST3.out.below HBL.out)
                  have HRD := Lib.hid (blk_below HRD3.out HBL.out)
                  have HRT := Lib.hid (HRT3.out.below HBL.out)
                  have HBW := Lib.hid (HB3.out.trans (HBL.out.mono HB3.out.size))
                  obtain ⟨hr0, hr1, hr2, hr3⟩ := HST.out.c
                  clear HST3 HRD3 HRT3 HB3 HBL HDCELL HROWS HRO
                  have hd60 : docs.length ≤ 60 := HSM.out.1
                  obtain ⟨am, hm⟩ : ∃ am : Nat, max 0 at_i = (am : Int) := ⟨(max 0 at_i).toNat, by omega⟩
                  obtain ⟨n1, hn1⟩ : ∃ n1, n1 = docs.length + 1 := ⟨_, rfl⟩
                  have hn2 : (docs.length : Int) + 1 = (n1 : Int) := by omega
                  have hn3 : ((n1 : Int) == 0) = false := by rw [beq_eq_false_iff_ne]; omega
                  have hn4 : ¬ (n1 : Int) = 0 := by omega
                  have hn5 : ¬ n1 = 0 := by omega
                  obtain ⟨k, hk⟩ : ∃ k : Nat, k = am % n1 := ⟨_, rfl⟩
                  have hk1 : (am : Int) % (n1 : Int) = (k : Int) := by rw [hk]; rfl
                  have hk2 : k ≤ docs.length := by have : am % n1 < n1 := Nat.mod_lt _ (by omega); omega
                  have hn6 : n1 ≤ 61 := by omega
                  have HNN := Lib.hid hn1
                  clear hk hn1
                  by_cases hpos : 0 < docs.length
                  · have hd : decide ((0 : Int) < (docs.length : Int)) = true := by simp; omega
                    go_upto_region 25 with fail
                    rw [hk1]
                    clear hk1 hn2 hn3 hn4 hn5 hn6 hm hd
                    obtain ⟨g4, hg4⟩ : ∃ g, g = W4.heap.size := ⟨_, rfl⟩
                    have HG4 := Lib.hid hg4
                    clear hg4 hr0 hr1 hr2 hr3
                    go_upto_region 26 with (first
                      | (refine wpList_load_row rfl 27 _ rfl N rfl 27 _ (0, 0) _ HST.out.row Try.underlying27 rfl (by kernel_rfl) ?_)
                      | (refine wpList_alloc_row rfl 27 rfl _ (zero27 _) ?_; rw [← HG4.out]; intro W5 hT2 hS2 hG2; have HT2 := Lib.hid hT2; have HG2 := Lib.hid (below_of_grown hG2); clear hT2 hS2 hG2)
                      | (refine wpList_store_row rfl 27 _ _ rfl g4 rfl 27 _ _ rfl HT2.out rfl (by kernel_rfl) (stV_one rfl HLO1.out HSO1.out) ?_; intro W6 hT3 hS3 hG3; have HT6 := Lib.hid hT3; have HG3 := Lib.hid hG3; clear hT3 hS3 hG3))
                    have hb6 : Below W4.heap.size W4 W6 := HG2.out.grown HG3.out HG2.out.size (fun k e => by injection e with e; have := HG4.out; omega)
                    have HST6 := Lib.hid (HST.out.below hb6)
                    have HRD6 := Lib.hid (blk_below HRD.out hb6)
                    have HRT6 := Lib.hid (HRT.out.below hb6)
                    have HBW6 := Lib.hid (HBW.out.trans (hb6.mono HBW.out.size))
                    have hNg : N + 1 < g4 := by have := blk_lt HRD.out; have := HG4.out; omega
                    have HLOW6 := Lib.hid (Low.of_below hb6 (Nat.le_of_eq HG4.out) : Low g4 W4 W6)
                    clear hb6 HT2 HG2 HG3
                    simp only [Act.put, List.setIfInBounds_toArray, List.set_cons_zero, List.set_cons_succ]
                    obtain ⟨DA', ddc', rows, e, _, _, hdrw, hdcell⟩ := HST6.out.ds.rows
                    injection e with e1 e2 e3
                    subst e1 e3
                    clear e2
                    have HROWS := Lib.hid hdrw
                    have HSRC := Lib.hid (show Src W6 DA rows docs.length from ⟨hdrw.1, hdrw.len, hdcell.imp _root_.id (fun ⟨b, o, e, _, h⟩ => ⟨b, o, e, h⟩)⟩)
                    have HONE := Lib.hid hdrw.one
                    obtain ⟨i0, hi0, hz0, hz1, hz2⟩ := info_parts infos45
                    have HI0 := Lib.hid hi0
                    have HZ0 := Lib.hid hz0
                    have HZ1 := Lib.hid hz1
                    have HZ2 := Lib.hid hz2
                    have hr1 : W6.cell? ⟨N, 0 + 1, none⟩ = some (.slice DA docs.length ddc) := HST6.out.c.2.1
                    clear hdrw hdcell hi0 hz0 hz1 hz2
                    refine region_g 14 (fun k j => decide ((k = 5 ∧ j = 0) ∨ (k = 8 ∧ (j = 0 ∨ j = 5 ∨ j = 7)) ∨ (k = 13 ∧ (j = 0 ∨ j = 5 ∨ j = 7 ∨ j = 8)))) (fun i vs W => match i with
                        | 0 => ∃ g, vs 0 = .slice (some ⟨g, 0, none⟩) 0 0 ∧ W6.heap.size ≤ g ∧ W.heap[g]? = some (.cells #[] 45 (0, 0))
                        | 1 => vs 1 = .pointer (some ⟨N, 0 + 1, none⟩)
                        | 2 => vs 2 = .slice DA docs.length ddc
                        | 3 => vs 3 = .int .i64 ((k : Nat) : Int)
                        | 4 => vs 4 = .slice DA k ddc
                        | 5 => W.ownsRow W6.heap.size 45 6 (vs 5) k (rows.take k).flatten
                        | 6 => vs 6 = .agg (docC d.id dsq (.slice DNA dnn dnc) (.slice DCA d.chans.length dcc) (.slice DGA d.grants.length dgc) dgn).toArray
                        | 7 => ∃ g, vs 7 = .slice (some ⟨g, 0, none⟩) 1 1 ∧ W6.heap.size ≤ g ∧ W.heap[g]? = some (.cells (docC d.id dsq (.slice DNA dnn dnc) (.slice DCA d.chans.length dcc) (.slice DGA d.grants.length dgc) dgn).toArray 45 (0, 0))
                        | 8 => W.ownsRow W6.heap.size 45 6 (vs 8) (k + 1) ((rows.take k).flatten ++ (docC d.id dsq (.slice DNA dnn dnc) (.slice DCA d.chans.length dcc) (.slice DGA d.grants.length dgc) dgn))
                        | 9 => vs 9 = .pointer (some ⟨N, 0 + 1, none⟩)
                        | 10 => vs 10 = .slice DA docs.length ddc
                        | 11 => vs 11 = .int .i64 ((k : Nat) : Int)
                        | 12 => vs 12 = .slice (if ddc = k then DA else DA.map (·.add (k * 6))) (docs.length - k) (ddc - k)
                        | 13 => W.ownsRow W6.heap.size 45 6 (vs 13) (k + 1 + (docs.length - k)) ((rows.take k).flatten ++ (docC d.id dsq (.slice DNA dnn dnc) (.slice DCA d.chans.length dcc) (.slice DGA d.grants.length dgc) dgn) ++ (rows.drop k).flatten)
                        | _ => True) (fun k W W' => (k ≠ 5 → k ≠ 8 → k ≠ 13 → Below W.heap.size W W') ∧ (k = 5 → ∃ g, W.heap[g]? = some (.cells #[] 45 (0, 0)) ∧ W.grownBy W' (some g))) (fun W => Below W6.heap.size W6 W) (by kernel_rfl) (by kernel_rfl) ?hst ?h0 ?step ?fin
                    case hst =>
                      intro i k vs W W' hki hdk hck h hG
                      have hck := of_decide_eq_false hck
                      match i, h with
                      | 0, ⟨g, e1, e2, e3⟩ => exact ⟨g, e1, e2, blk_below e3 (hG.1 (by omega) (by omega) (by omega))⟩
                      | 1, h => exact h
                      | 2, h => exact h
                      | 3, h => exact h
                      | 4, h => exact h
                      | 5, h => exact own_below6 h (hG.1 (by omega) (by omega) (by omega))
                      | 6, h => exact h
                      | 7, ⟨g, e1, e2, e3⟩ =>
                        by_cases h5 : k = 5
                        · obtain ⟨g0, h6, h7⟩ := hG.2 h5
                          refine ⟨g, e1, e2, blk_grown e3 h7 (fun e => ?_)⟩
                          injection e with e
                          subst e
                          rw [h6] at e3
                          injection e3 with e3
                          injection e3 with e3
                          have := congrArg Array.size e3
                          simp [docC] at this
                        · exact ⟨g, e1, e2, blk_below e3 (hG.1 h5 (by omega) (by omega))⟩
                      | 8, h =>
                        have h5 : k ≠ 5 := by rintro rfl; exact absurd (hdk.symm.trans (by kernel_rfl)) Bool.false_ne_true
                        exact own_below6 h (hG.1 h5 (fun e => hki e) (by omega))
                      | 9, h => exact h
                      | 10, h => exact h
                      | 11, h => exact h
                      | 12, h => exact h
                      | 13, h =>
                        have h5 : k ≠ 5 := by rintro rfl; exact absurd (hdk.symm.trans (by kernel_rfl)) Bool.false_ne_true
                        have h8 : k ≠ 8 := by rintro rfl; exact absurd (hdk.symm.trans (by kernel_rfl)) Bool.false_ne_true
                        exact own_below6 h (hG.1 h5 h8 (fun e => hki e))
                      | n + 14, _ => trivial
                    case h0 => exact (Below.refl _ _).drew
                    case step =>
                      intro i op hi ho ac W hS hag hdep
                      have hbr : Below W.heap.size W W := Below.refl _ _
                      match i, hi, ho with
                      | 0, _, rfl =>
                        refine gstep rfl ?_
                        have hbb := below_alloc1 W (.cells #[] 45)
                        exact ow_build23_0 rfl ⟨_, rfl, fun vs' h _ => ⟨_, h (fun e => by cases e), hS.size, World.alloc_heap_new W _⟩, ⟨fun _ _ _ => hbb, fun h => absurd h (by decide)⟩, hS.trans (hbb.mono hS.size)⟩
                      | 1, _, rfl =>
                        refine gstep rfl ?_
                        exact ow_field fld27_1 _ rfl N 0 (hag 4 rfl) ⟨_, rfl, fun vs' h _ => h (fun e => by cases e), ⟨fun _ _ _ => hbr, fun h => absurd h (by decide)⟩, hS⟩
                      | 2, _, rfl =>
                        refine gstep rfl ?_
                        have hp : ac.eval (.tmp 107) = .pointer (some ⟨N, 0 + 1, none⟩) := hdep 1 (by omega) (by kernel_rfl) (fun k _ h => by have h := of_decide_eq_true h; omega)
                        exact ow_load_slice' _ 45 23 rfl N (0 + 1) hp DA docs.length ddc (below_cell hS hr1) Try.underlying23 ⟨_, rfl, fun vs' h _ => h (fun e => by cases e), ⟨fun _ _ _ => hbr, fun h => absurd h (by decide)⟩, hS⟩
                      | 3, _, rfl =>
                        refine gstep rfl ?_
                        exact ow_move _ rfl (v := .int .i64 ((k : Nat) : Int)) (hag 14 rfl) ⟨_, rfl, fun vs' h _ => h (fun e => by cases e), ⟨fun _ _ _ => hbr, fun h => absurd h (by decide)⟩, hS⟩
                      | 4, _, rfl =>
                        refine gstep rfl ?_
                        have h2 : ac.eval (.tmp 108) = .slice DA docs.length ddc := hdep 2 (by omega) (by kernel_rfl) (fun k _ h => by have h := of_decide_eq_true h; omega)
                        have h3 : ac.eval (.tmp 109) = .int .i64 ((k : Nat) : Int) := hdep 3 (by omega) (by kernel_rfl) (fun k _ h => by have h := of_decide_eq_true h; omega)
                        exact ow_slice_to23 _ _ rfl DA docs.length ddc k h2 h3 (by omega) ⟨_, rfl, fun vs' h _ => h (fun e => by cases e), ⟨fun _ _ _ => hbr, fun h => absurd h (by decide)⟩, hS⟩
                      | 5, _, rfl =>
                        refine gstep rfl ?_
                        obtain ⟨g, e0, hge, hg⟩ := hdep 0 (by omega) (by kernel_rfl) (fun k _ h => by have h := of_decide_eq_true h; rcases (show k = 5 ∨ k = 8 ∨ k = 13 by omega) with rfl | rfl | rfl; exact .inl rfl; exact .inr (by kernel_rfl); exact .inr (by kernel_rfl))
                        have e0 : ac.eval (.tmp 106) = .slice (some ⟨g, 0, none⟩) 0 0 := e0
                        have h4 : ac.eval (.tmp 110) = .slice DA k ddc := hdep 4 (by omega) (by kernel_rfl) (fun k _ h => by have h := of_decide_eq_true h; omega)
                        refine ow_append_n (.tmp 106) (.tmp 110) 23 rfl W6.heap.size 45 i0 _ 6 104 Try.underlying23 HI0.out HZ0.out HZ1.out HZ2.out rfl (by omega) _ 0 [] e0 (own_none W _ g hge hg) DA k ddc (rows.take k).flatten h4 (by rw [flat_len _ (fun r hr => HSRC.out.2.1 r (List.mem_of_mem_take hr)), List.length_take]; have := HSRC.out.1; omega) (fun h => by have := HSRC.out.none_ h; omega) ((HSRC.out.below hS).take k) (fun x hx => by obtain ⟨r, hr, hx⟩ := List.mem_flatten.1 hx; exact HONE.out x (List.mem_flatten.2 ⟨r, List.mem_of_mem_take hr, hx⟩)) (by unfold maxLen; omega) (by omega) hS.size ?_
                        intro v' w' hown hgr _
                        rw [List.nil_append, Nat.zero_add] at hown
                        exact ⟨_, rfl, fun vs' h _ => by rw [h (fun e => by cases e)]; exact hown, ⟨fun h => absurd rfl h, fun _ => ⟨g, hg, hgr⟩⟩, hS.grown hgr hS.size (fun j e => own_ge6 (own_none W _ g hge hg) j e)⟩
                      | 6, _, rfl =>
                        refine gstep rfl ?_
                        exact ow_load_row 45 _ rfl (N + 1) (hag 5 rfl) 45 _ (0, 0) _ (blk_below HRD6.out hS) Try.underlying45 rfl (by kernel_rfl) ⟨_, rfl, fun vs' h _ => h (fun e => by cases e), ⟨fun _ _ _ => hbr, fun h => absurd h (by decide)⟩, hS⟩
                      | 7, _, rfl =>
                        refine gstep rfl ?_
                        have h6 : ac.eval (.tmp 112) = .agg (docC d.id dsq (.slice DNA dnn dnc) (.slice DCA d.chans.length dcc) (.slice DGA d.grants.length dgc) dgn).toArray := hdep 6 (by omega) (by kernel_rfl) (fun k _ h => by have h := of_decide_eq_true h; omega)
                        have hbb := below_alloc1 W (.cells (docC d.id dsq (.slice DNA dnn dnc) (.slice DCA d.chans.length dcc) (.slice DGA d.grants.length dgc) dgn).toArray 45)
                        exact ow_build23_1 _ rfl _ _ _ _ _ _ h6 ⟨_, rfl, fun vs' h _ => ⟨_, h (fun e => by cases e), hS.size, World.alloc_heap_new W _⟩, ⟨fun _ _ _ => hbb, fun h => absurd h (by decide)⟩, hS.trans (hbb.mono hS.size)⟩
                      | 8, _, rfl =>
                        refine gstep rfl ?_
                        have h5 : W.ownsRow W6.heap.size 45 6 (ac.eval (.tmp 111)) k (rows.take k).flatten := hdep 5 (by omega) (by kernel_rfl) (fun k _ h => by have h := of_decide_eq_true h; rcases (show k = 8 ∨ k = 13 by omega) with rfl | rfl; exact .inl rfl; exact .inr (by kernel_rfl))
                        obtain ⟨g, e0, hge, hg⟩ := hdep 7 (by omega) (by kernel_rfl) (fun k _ h => by have h := of_decide_eq_true h; rcases (show k = 8 ∨ k = 13 by omega) with rfl | rfl; exact .inl rfl; exact .inr (by kernel_rfl))
                        have e0 : ac.eval (.tmp 113) = .slice (some ⟨g, 0, none⟩) 1 1 := e0
                        refine ow_append_n (.tmp 111) (.tmp 113) 23 rfl W6.heap.size 45 i0 _ 6 104 Try.underlying23 HI0.out HZ0.out HZ1.out HZ2.out rfl (by omega) _ k (rows.take k).flatten rfl h5 (some ⟨g, 0, none⟩) 1 1 (docC d.id dsq (.slice DNA dnn dnc) (.slice DCA d.chans.length dcc) (.slice DGA d.grants.length dgc) dgn) e0 rfl (fun h => by cases h) (fun ad e j x hx => by injection e with e; subst e; rw [add_plain, cell_of_row W g _ _ _ _ hg, Nat.zero_add]; simpa using hx) (HDR.out.one) (by unfold maxLen; omega) (by omega) hS.size ?_
                        intro v' w' hown hgr _
                        exact ⟨_, rfl, fun vs' h _ => by rw [h (fun e => by cases e)]; exact hown, ⟨fun _ h => absurd rfl h, fun h => absurd h (by decide)⟩, hS.grown hgr hS.size (fun j e => own_ge6 h5 j e)⟩
                      | 9, _, rfl =>
                        refine gstep rfl ?_
                        exact ow_field fld27_1 _ rfl N 0 (hag 4 rfl) ⟨_, rfl, fun vs' h _ => h (fun e => by cases e), ⟨fun _ _ _ => hbr, fun h => absurd h (by decide)⟩, hS⟩
                      | 10, _, rfl =>
                        refine gstep rfl ?_
                        have hp : ac.eval (.tmp 115) = .pointer (some ⟨N, 0 + 1, none⟩) := hdep 9 (by omega) (by kernel_rfl) (fun k _ h => by have h := of_decide_eq_true h; omega)
                        exact ow_load_slice' _ 45 23 rfl N (0 + 1) hp DA docs.length ddc (below_cell hS hr1) Try.underlying23 ⟨_, rfl, fun vs' h _ => h (fun e => by cases e), ⟨fun _ _ _ => hbr, fun h => absurd h (by decide)⟩, hS⟩
                      | 11, _, rfl =>
                        refine gstep rfl ?_
                        exact ow_move _ rfl (v := .int .i64 ((k : Nat) : Int)) (hag 14 rfl) ⟨_, rfl, fun vs' h _ => h (fun e => by cases e), ⟨fun _ _ _ => hbr, fun h => absurd h (by decide)⟩, hS⟩
                      | 12, _, rfl =>
                        refine gstep rfl ?_
                        have h2 : ac.eval (.tmp 116) = .slice DA docs.length ddc := hdep 10 (by omega) (by kernel_rfl) (fun k _ h => by have h := of_decide_eq_true h; omega)
                        have h3 : ac.eval (.tmp 117) = .int .i64 ((k : Nat) : Int) := hdep 11 (by omega) (by kernel_rfl) (fun k _ h => by have h := of_decide_eq_true h; omega)
                        exact ow_slice_from23 _ _ rfl DA docs.length ddc k h2 h3 (by omega) ⟨_, rfl, fun vs' h _ => h (fun e => by cases e), ⟨fun _ _ _ => hbr, fun h => absurd h (by decide)⟩, hS⟩
                      | 13, _, rfl =>
                        refine gstep rfl ?_
                        have h8 : W.ownsRow W6.heap.size 45 6 (ac.eval (.tmp 114)) (k + 1) ((rows.take k).flatten ++ (docC d.id dsq (.slice DNA dnn dnc) (.slice DCA d.chans.length dcc) (.slice DGA d.grants.length dgc) dgn)) := hdep 8 (by omega) (by kernel_rfl) (fun k _ h => by have h := of_decide_eq_true h; obtain rfl : k = 13 := (by omega); exact .inl rfl)
                        have h12 : ac.eval (.tmp 118) = .slice (if ddc = k then DA else DA.map (·.add (k * 6))) (docs.length - k) (ddc - k) := hdep 12 (by omega) (by kernel_rfl) (fun k _ h => by have h := of_decide_eq_true h; omega)
                        refine ow_append_n (.tmp 114) (.tmp 118) 23 rfl W6.heap.size 45 i0 _ 6 104 Try.underlying23 HI0.out HZ0.out HZ1.out HZ2.out rfl (by omega) _ (k + 1) ((rows.take k).flatten ++ (docC d.id dsq (.slice DNA dnn dnc) (.slice DCA d.chans.length dcc) (.slice DGA d.grants.length dgc) dgn)) rfl h8 (if ddc = k then DA else DA.map (·.add (k * 6))) (docs.length - k) (ddc - k) (rows.drop k).flatten h12 (by rw [flat_len _ (fun r hr => HSRC.out.2.1 r (List.mem_of_mem_drop hr)), List.length_drop]; have := HSRC.out.1; rw [this]) (fun h => by
                            by_cases hcK : ddc = k
                            · omega
                            · rw [if_neg hcK, Option.map_eq_none_iff] at h
                              have := HSRC.out.none_ h
                              omega) ((HSRC.out.below hS).drop hdc1 k hk2) (fun x hx => by obtain ⟨r, hr, hx⟩ := List.mem_flatten.1 hx; exact HONE.out x (List.mem_flatten.2 ⟨r, List.mem_of_mem_drop hr, hx⟩)) (by unfold maxLen; omega) (by omega) hS.size ?_
                        intro v' w' hown hgr _
                        exact ⟨_, rfl, fun vs' h _ => by rw [h (fun e => by cases e)]; exact hown, ⟨fun _ _ h => absurd rfl h, fun h => absurd h (by decide)⟩, hS.grown hgr hS.size (fun j e => own_ge6 h8 j e)⟩
                      | n + 14, hi, _ => exact absurd hi (by omega)
                    case fin =>
                      intro vs W hS hF
                      have f13 : W.ownsRow W6.heap.size 45 6 (vs 13) (k + 1 + (docs.length - k)) ((rows.take k).flatten ++ (docC d.id dsq (.slice DNA dnn dnc) (.slice DCA d.chans.length dcc) (.slice DGA d.grants.length dgc) dgn) ++ (rows.drop k).flatten) := hF 13 (by omega) (fun k hk => decide_eq_false (by omega))
                      clear hF
                      change wpList _ _ _ _ (Act.put (Act.put (Act.put (Act.put (Act.put (Act.put (Act.put (Act.put (Act.put (Act.put (Act.put (Act.put (Act.put (Act.put _ (some 106) (vs 0)) (some 107) (vs 1)) (some 108) (vs 2)) (some 109) (vs 3)) (some 110) (vs 4)) (some 111) (vs 5)) (some 112) (vs 6)) (some 113) (vs 7)) (some 114) (vs 8)) (some 115) (vs 9)) (some 116) (vs 10)) (some 117) (vs 11)) (some 118) (vs 12)) (some 119) (vs 13)) W
                      generalize vs 0 = z0
                      generalize vs 1 = z1
                      generalize vs 2 = z2
                      generalize vs 3 = z3
                      generalize vs 4 = z4
                      generalize vs 5 = z5
                      generalize vs 6 = z6
                      generalize vs 7 = z7
                      generalize vs 8 = z8
                      generalize vs 9 = z9
                      generalize vs 10 = z10
                      generalize vs 11 = z11
                      generalize vs 12 = z12
                      generalize vs 13 = z13 at f13 ⊢
                      simp only [putAll, List.drop_succ_cons, List.drop_zero, Act.put, List.setIfInBounds_toArray, List.set_cons_zero, List.set_cons_succ]
                      clear vs
                      have hN6 : N < W6.heap.size := blk_lt HST6.out.row
                      have hg6 : g4 < W6.heap.size := blk_lt HT6.out
                      obtain ⟨nn, hnn⟩ : ∃ nn, nn = k + 1 + (docs.length - k) := ⟨_, rfl⟩
                      rw [← hnn] at f13
                      have HN2 := Lib.hid hnn
                      clear hnn
                      obtain ⟨TA, tc, rfl⟩ := own_shape6 f13
                      have hrt := blk_below HT6.out hS
                      have hct : W.cell? ⟨g4, 1, none⟩ = some (.slice DA docs.length ddc) := cell_of_row W g4 1 _ _ _ hrt
                      have hft : W.frozen? ⟨g4, 1, none⟩ = false := frozen_of_row W g4 _ _ _ hrt
                      have HF13 := Lib.hid f13
                      have HRT7 := Lib.hid hrt
                      have HS7 := Lib.hid hS
                      clear f13 hrt hS hr1
                      go_upto_region 27 with fail
                      clear hct hft
                      obtain ⟨W7, hW7⟩ : ∃ W7, W7 = W.setCell ⟨g4, 1, none⟩ (.slice TA nn tc) := ⟨_, rfl⟩
                      rw [← hW7]
                      have hgr7 : W.grownBy W7 (some g4) := by rw [hW7]; exact grown_setCell (grown_refl _ _) _ _
                      have hrow7 : W7.heap[g4]? = some (.cells (stV sq (.slice TA nn tc) lv sv) 27 (0, 0)) := by rw [hW7]; exact blk_setCell (i := 1) HRT7.out _
                      have hlow7 : Low g4 W4 W7 := HLOW6.out.trans ((Low.of_all HS7.out).trans (fun k o hk h0 => blk_grown h0 hgr7 (fun e => by injection e with e; omega)))
                      have hbw7 : Below w.heap.size w W7 := (HBW6.out.trans (HS7.out.mono HBW6.out.size)).grown hgr7 (by have := HBW6.out.size; have := HS7.out.size; omega) (fun k e => by injection e with e; have := HN.out; omega)
                      have hs7 : W4.heap.size ≤ W7.heap.size := by have := HG4.out; have := HS7.out.size; have := hgr7.size; omega
                      have hlw7 : Low B0 w W7 := Low.of_below hbw7 (by have := HN.out; omega)
                      have hown7 := own_keep6 HF13.out HRT7.out (by decide) hgr7
                      have hdrow7 : DRow B0 W7 (rows.take k ++ ([(docC d.id dsq (.slice DNA dnn dnc) (.slice DCA d.chans.length dcc) (.slice DGA d.grants.length dgc) dgn)] ++ rows.drop k)) (ins docs k d) := by
                        have h1 := (HROWS.out.low (Low.of_all HS7.out)).low (fun k o hk h0 => blk_grown h0 hgr7 (fun e => by injection e with e; omega) : Low B0 W W7)
                        exact (h1.take k).append ((DRow.single (HDR.out.low1 (fun _ _ => trivial) hlw7)).append (h1.drop k))
                      have hfit := small_ins (k := k) HSM.out HSD.out
                      have HTT := Lib.hid (show Stt W7.heap.size g4 (ins docs k d) sq (.slice TA nn tc) lv sv W7 from
                        ⟨DS.of_own (B := W6.heap.size) (by rw [ins_length docs k d hk2, ← HN2.out]; simpa [List.flatten_append, List.append_assoc] using hown7) hdrow7 (by have := HG4.out; omega) (Nat.le_refl _), hrow7, Nat.le_refl _, ⟨hfit.2.2, hfit.2.1, by have := hfit.1; omega⟩⟩)
                      have HSS := Lib.hid (HST.out.keep hBN (fun k o hk h0 => hlow7 k o (by omega) h0) hs7)
                      have HRD7 := Lib.hid (hlow7 (N + 1) _ hNg HRD.out)
                      have HRL7 := Lib.hid (HRT.out.low (by rw [← HG4.out]; exact hlow7))
                      have HB7 := Lib.hid hbw7
                      have hs27 := seen_ins (k := k) (u := u) HNU.out (fun e he => HNI.out e he) (fun c hc hm => HAPD.out c hc ((HKO.out.2 c).2 hm))
                      have HSI := Lib.hid hs27
                      have HCI := Lib.hid (chans_ins (docs := docs) (k := k) (d := d) (u := u) HNU.out)
                      have HBI := Lib.hid (fun id => by_ins (docs := docs) (k := k) (d := d) (u := u) (id := id) HNU.out)
                      have HBN := Lib.hid (by_new (docs := docs) (k := k) (d := d) (u := u) HNU.out (fun e he => HNI.out e he) (fun c hc hm => HAPD.out c hc ((HKO.out.2 c).2 hm)))
                      clear hW7 hgr7 hrow7 hlow7 hbw7 hs7 hlw7 hown7 hdrow7 hfit hs27 HST HRD HRT HBW HG4 HLOW6 HST6 HRD6 HRT6 HBW6 HF13 HRT7 HS7 HROWS HSRC HONE HI0 HZ0 HZ1 HZ2 HT6 hN6 hg6
                      have hq0 : W7.cell? ⟨N + 1, 0 + 0, none⟩ = some (encStr d.id) := cell_of_row W7 (N + 1) 0 _ _ _ HRD7.out
                      refine region_g 23 (fun _ _ => false) (fun i vs W => match i with
                          | 0 => vs 0 = .agg (stV sq (.slice TA nn tc) lv sv)
                          | 1 => vs 1 = encStr u
                          | 2 => ∃ l, RT W (vs 2) l ∧ Keys l (chansOf docs u)
                          | 3 => vs 3 = .slice OA lo.length oc
                          | 4 => vs 4 = .bool true
                          | 5 => vs 5 = .bool false
                          | 6 => vs 6 = .bool false
                          | 7 => vs 7 = .agg (stV sq (.slice TA nn tc) lv sv)
                          | 8 => vs 8 = encStr u
                          | 9 => ∃ l, RT W (vs 9) l ∧ Keys l (seenOf docs u)
                          | 10 => vs 10 = .agg (stV sq (.slice DA docs.length ddc) lv sv)
                          | 11 => vs 11 = encStr u
                          | 12 => ∃ l, RT W (vs 12) l ∧ Keys l (seenOf docs u)
                          | 13 => vs 13 = .bool true
                          | 14 => vs 14 = .bool false
                          | 15 => vs 15 = .bool false
                          | 16 => vs 16 = .bool false
                          | 17 => vs 17 = .agg (stV sq (.slice TA nn tc) lv sv)
                          | 18 => vs 18 = encStr u
                          | 19 => vs 19 = .pointer (some ⟨(N + 1), 0 + 0, none⟩)
                          | 20 => vs 20 = encStr d.id
                          | 21 => vs 21 = .bool false
                          | 22 => vs 22 = .bool false
                          | _ => True) (fun _ W W' => Below W.heap.size W W') (fun W => Below W7.heap.size W7 W) (by kernel_rfl) (by kernel_rfl) ?hsta ?h0a ?stepa ?fina
                      case hsta =>
                        intro i k vs W W' _ _ _ h hG
                        match i, h with
                        | 0, h => exact h
                        | 1, h => exact h
                        | 2, ⟨l, e1, e2⟩ => exact ⟨l, e1.below hG, e2⟩
                        | 3, h => exact h
                        | 4, h => exact h
                        | 5, h => exact h
                        | 6, h => exact h
                        | 7, h => exact h
                        | 8, h => exact h
                        | 9, ⟨l, e1, e2⟩ => exact ⟨l, e1.below hG, e2⟩
                        | 10, h => exact h
                        | 11, h => exact h
                        | 12, ⟨l, e1, e2⟩ => exact ⟨l, e1.below hG, e2⟩
                        | 13, h => exact h
                        | 14, h => exact h
                        | 15, h => exact h
                        | 16, h => exact h
                        | 17, h => exact h
                        | 18, h => exact h
                        | 19, h => exact h
                        | 20, h => exact h
                        | 21, h => exact h
                        | 22, h => exact h
                        | n + 23, _ => trivial
                      case h0a => exact (Below.refl _ _).drew
                      case stepa =>
                        intro i op hi ho ac W hS hag hdep
                        have hbr : Below W.heap.size W W := Below.refl _ _
                        match i, hi, ho with
                        | 0, _, rfl =>
                          refine gstep rfl ?_
                          exact ow_load_row 27 _ rfl g4 (hag 15 rfl) 27 _ (0, 0) _ (blk_below HTT.out.row hS) Try.underlying27 rfl (by kernel_rfl) ⟨_, rfl, fun vs' h _ => h (fun e => by cases e), hbr, hS⟩
                        | 1, _, rfl =>
                          refine gstep rfl ?_
                          exact ow_move _ rfl (v := encStr u) (hag 2 rfl) ⟨_, rfl, fun vs' h _ => h (fun e => by cases e), hbr, hS⟩
                        | 2, _, rfl =>
                          have h1 : ac.eval (.tmp 121) = .agg (stV sq (.slice TA nn tc) lv sv) := hdep 0 (by omega) (by kernel_rfl) (fun k _ h => by cases h)
                          have h2 : ac.eval (.tmp 122) = encStr u := hdep 1 (by omega) (by kernel_rfl) (fun k _ h => by cases h)
                          refine gstep rfl ?_
                          refine ow_call Try.func14 (by kernel_rfl) rfl _ _ rfl (vs := #[.agg (stV sq (.slice TA nn tc) lv sv), encStr u]) (by simp only [List.map_toArray, List.map_cons, List.map_nil, h1, h2]) ?_
                          refine ((HTT.out.below hS).of u).mono ?_
                          rw [HCI.out]
                          rintro e w' ⟨v, l', rfl, hr, hk, hbb⟩
                          exact ⟨_, rfl, ⟨_, rfl, fun vs' h _ => ⟨l', by rw [h (fun e => by cases e)]; exact hr, hk⟩, hbb, hS.trans (hbb.mono hS.size)⟩⟩
                        | 3, _, rfl =>
                          refine gstep rfl ?_
                          exact ow_move _ rfl (v := .slice OA lo.length oc) (hag 9 rfl) ⟨_, rfl, fun vs' h _ => h (fun e => by cases e), hbr, hS⟩
                        | 4, _, rfl =>
                          have h3 : ac.eval (.tmp 124) = .slice OA lo.length oc := hdep 3 (by omega) (by kernel_rfl) (fun k _ h => by cases h)
                          refine gstep rfl ?_
                          obtain ⟨l1, hr1, hk1⟩ : ∃ l, RT W (ac.eval (.tmp 123)) l ∧ Keys l (chansOf docs u) := hdep 2 (by omega) (by kernel_rfl) (fun k _ h => by cases h)
                          refine ow_call Try.func13 (by kernel_rfl) rfl _ _ rfl (vs := #[ac.eval (.tmp 123), .slice OA lo.length oc]) (by simp only [List.map_toArray, List.map_cons, List.map_nil, h3]) ?_
                          refine (Same_any _ _ l1 lo W hr1 (HRL7.out.below hS)).mono ?_
                          rw [decide_eq_true (hk1.uniq HKO.out (fun _ => Iff.rfl))]
                          rintro e w' ⟨rfl, hbb⟩
                          exact ⟨_, rfl, ⟨_, rfl, fun vs' h _ => h (fun e => by cases e), hbb, hS.trans (hbb.mono hS.size)⟩⟩
                        | 5, _, rfl =>
                          have h1 : ac.eval (.tmp 125) = .bool true := hdep 4 (by omega) (by kernel_rfl) (fun k _ h => by cases h)
                          refine gstep rfl ?_
                          exact ow_not _ 4 rfl true h1 ⟨_, rfl, fun vs' h _ => h (fun e => by cases e), hbr, hS⟩
                        | 6, _, rfl =>
                          have h1 : ac.eval (.tmp 126) = .bool false := hdep 5 (by omega) (by kernel_rfl) (fun k _ h => by cases h)
                          refine gstep rfl ?_
                          exact ow_move _ rfl h1 ⟨_, rfl, fun vs' h _ => h (fun e => by cases e), hbr, hS⟩
                        | 7, _, rfl =>
                          refine gstep (wanted_ok rfl rfl (hdep 6 (by omega) (by kernel_rfl) (fun k _ h => by cases h) : ac.eval (.tmp 127) = .bool false)) ?_
                          exact ow_load_row 27 _ rfl g4 (hag 15 rfl) 27 _ (0, 0) _ (blk_below HTT.out.row hS) Try.underlying27 rfl (by kernel_rfl) ⟨_, rfl, fun vs' h _ => h (fun e => by cases e), hbr, hS⟩
                        | 8, _, rfl =>
                          refine gstep (wanted_ok rfl rfl (hdep 6 (by omega) (by kernel_rfl) (fun k _ h => by cases h) : ac.eval (.tmp 127) = .bool false)) ?_
                          exact ow_move _ rfl (v := encStr u) (hag 2 rfl) ⟨_, rfl, fun vs' h _ => h (fun e => by cases e), hbr, hS⟩
                        | 9, _, rfl =>
                          have h1 : ac.eval (.tmp 128) = .agg (stV sq (.slice TA nn tc) lv sv) := hdep 7 (by omega) (by kernel_rfl) (fun k _ h => by cases h)
                          have h2 : ac.eval (.tmp 129) = encStr u := hdep 8 (by omega) (by kernel_rfl) (fun k _ h => by cases h)
                          refine gstep (wanted_ok rfl rfl (hdep 6 (by omega) (by kernel_rfl) (fun k _ h => by cases h) : ac.eval (.tmp 127) = .bool false)) ?_
                          refine ow_call Try.func18 (by kernel_rfl) rfl _ _ rfl (vs := #[.agg (stV sq (.slice TA nn tc) lv sv), encStr u]) (by simp only [List.map_toArray, List.map_cons, List.map_nil, h1, h2]) ?_
                          refine ((HTT.out.below hS).all u).mono ?_
                          rw [HSI.out]
                          rintro e w' ⟨v, l', rfl, hr, hk, hbb⟩
                          exact ⟨_, rfl, ⟨_, rfl, fun vs' h _ => ⟨l', by rw [h (fun e => by cases e)]; exact hr, hk⟩, hbb, hS.trans (hbb.mono hS.size)⟩⟩
                        | 10, _, rfl =>
                          refine gstep (wanted_ok rfl rfl (hdep 6 (by omega) (by kernel_rfl) (fun k _ h => by cases h) : ac.eval (.tmp 127) = .bool false)) ?_
                          exact ow_load_row 27 _ rfl N (hag 4 rfl) 27 _ (0, 0) _ (blk_below HSS.out.row hS) Try.underlying27 rfl (by kernel_rfl) ⟨_, rfl, fun vs' h _ => h (fun e => by cases e), hbr, hS⟩
                        | 11, _, rfl =>
                          refine gstep (wanted_ok rfl rfl (hdep 6 (by omega) (by kernel_rfl) (fun k _ h => by cases h) : ac.eval (.tmp 127) = .bool false)) ?_
                          exact ow_move _ rfl (v := encStr u) (hag 2 rfl) ⟨_, rfl, fun vs' h _ => h (fun e => by cases e), hbr, hS⟩
                        | 12, _, rfl =>
                          have h1 : ac.eval (.tmp 131) = .agg (stV sq (.slice DA docs.length ddc) lv sv) := hdep 10 (by omega) (by kernel_rfl) (fun k _ h => by cases h)
                          have h2 : ac.eval (.tmp 132) = encStr u := hdep 11 (by omega) (by kernel_rfl) (fun k _ h => by cases h)
                          refine gstep (wanted_ok rfl rfl (hdep 6 (by omega) (by kernel_rfl) (fun k _ h => by cases h) : ac.eval (.tmp 127) = .bool false)) ?_
                          refine ow_call Try.func18 (by kernel_rfl) rfl _ _ rfl (vs := #[.agg (stV sq (.slice DA docs.length ddc) lv sv), encStr u]) (by simp only [List.map_toArray, List.map_cons, List.map_nil, h1, h2]) ?_
                          refine ((HSS.out.below hS).all u).mono ?_
                          rintro e w' ⟨v, l', rfl, hr, hk, hbb⟩
                          exact ⟨_, rfl, ⟨_, rfl, fun vs' h _ => ⟨l', by rw [h (fun e => by cases e)]; exact hr, hk⟩, hbb, hS.trans (hbb.mono hS.size)⟩⟩
                        | 13, _, rfl =>
                          refine gstep (wanted_ok rfl rfl (hdep 6 (by omega) (by kernel_rfl) (fun k _ h => by cases h) : ac.eval (.tmp 127) = .bool false)) ?_
                          obtain ⟨l1, hr1, hk1⟩ : ∃ l, RT W (ac.eval (.tmp 130)) l ∧ Keys l (seenOf docs u) := hdep 9 (by omega) (by kernel_rfl) (fun k _ h => by cases h)
                          obtain ⟨l2, hr2, hk2⟩ : ∃ l, RT W (ac.eval (.tmp 133)) l ∧ Keys l (seenOf docs u) := hdep 12 (by omega) (by kernel_rfl) (fun k _ h => by cases h)
                          refine ow_call Try.func13 (by kernel_rfl) rfl _ _ rfl (vs := #[ac.eval (.tmp 130), ac.eval (.tmp 133)]) (by simp only [List.map_toArray, List.map_cons, List.map_nil]) ?_
                          refine (Same_any _ _ l1 l2 W hr1 hr2).mono ?_
                          rw [decide_eq_true (hk1.uniq hk2 (fun _ => Iff.rfl))]
                          rintro e w' ⟨rfl, hbb⟩
                          exact ⟨_, rfl, ⟨_, rfl, fun vs' h _ => h (fun e => by cases e), hbb, hS.trans (hbb.mono hS.size)⟩⟩
                        | 14, _, rfl =>
                          have h1 : ac.eval (.tmp 134) = .bool true := hdep 13 (by omega) (by kernel_rfl) (fun k _ h => by cases h)
                          refine gstep (wanted_ok rfl rfl (hdep 6 (by omega) (by kernel_rfl) (fun k _ h => by cases h) : ac.eval (.tmp 127) = .bool false)) ?_
                          exact ow_not _ 4 rfl true h1 ⟨_, rfl, fun vs' h _ => h (fun e => by cases e), hbr, hS⟩
                        | 15, _, rfl =>
                          have h1 : ac.eval (.tmp 127) = .bool false := hdep 6 (by omega) (by kernel_rfl) (fun k _ h => by cases h)
                          have h2 : ac.eval (.tmp 135) = .bool false := hdep 14 (by omega) (by kernel_rfl) (fun k _ h => by cases h)
                          refine gstep rfl ?_
                          exact ow_pick _ _ _ rfl false h1 (by simpa using h2) ⟨_, rfl, fun vs' h _ => h (fun e => by cases e), hbr, hS⟩
                        | 16, _, rfl =>
                          have h1 : ac.eval (.tmp 136) = .bool false := hdep 15 (by omega) (by kernel_rfl) (fun k _ h => by cases h)
                          refine gstep rfl ?_
                          exact ow_move _ rfl h1 ⟨_, rfl, fun vs' h _ => h (fun e => by cases e), hbr, hS⟩
                        | 17, _, rfl =>
                          refine gstep (wanted_ok rfl rfl (hdep 16 (by omega) (by kernel_rfl) (fun k _ h => by cases h) : ac.eval (.tmp 137) = .bool false)) ?_
                          exact ow_load_row 27 _ rfl g4 (hag 15 rfl) 27 _ (0, 0) _ (blk_below HTT.out.row hS) Try.underlying27 rfl (by kernel_rfl) ⟨_, rfl, fun vs' h _ => h (fun e => by cases e), hbr, hS⟩
                        | 18, _, rfl =>
                          refine gstep (wanted_ok rfl rfl (hdep 16 (by omega) (by kernel_rfl) (fun k _ h => by cases h) : ac.eval (.tmp 137) = .bool false)) ?_
                          exact ow_move _ rfl (v := encStr u) (hag 2 rfl) ⟨_, rfl, fun vs' h _ => h (fun e => by cases e), hbr, hS⟩
                        | 19, _, rfl =>
                          refine gstep (wanted_ok rfl rfl (hdep 16 (by omega) (by kernel_rfl) (fun k _ h => by cases h) : ac.eval (.tmp 137) = .bool false)) ?_
                          exact ow_field fld45_0 _ rfl (N + 1) (0) (hag 5 rfl) ⟨_, rfl, fun vs' h _ => h (fun e => by cases e), hbr, hS⟩
                        | 20, _, rfl =>
                          have hp : ac.eval (.tmp 140) = .pointer (some ⟨(N + 1), 0 + 0, none⟩) := hdep 19 (by omega) (by kernel_rfl) (fun k _ h => by cases h)
                          refine gstep (wanted_ok rfl rfl (hdep 16 (by omega) (by kernel_rfl) (fun k _ h => by cases h) : ac.eval (.tmp 137) = .bool false)) ?_
                          exact ow_load_str _ 9 rfl (N + 1) (0 + 0) hp _ (below_cell hS hq0) Try.underlying9 ⟨_, rfl, fun vs' h _ => h (fun e => by cases e), hbr, hS⟩
                        | 21, _, rfl =>
                          have h1 : ac.eval (.tmp 138) = .agg (stV sq (.slice TA nn tc) lv sv) := hdep 17 (by omega) (by kernel_rfl) (fun k _ h => by cases h)
                          have h2 : ac.eval (.tmp 139) = encStr u := hdep 18 (by omega) (by kernel_rfl) (fun k _ h => by cases h)
                          have h3 : ac.eval (.tmp 141) = encStr d.id := hdep 20 (by omega) (by kernel_rfl) (fun k _ h => by cases h)
                          refine gstep (wanted_ok rfl rfl (hdep 16 (by omega) (by kernel_rfl) (fun k _ h => by cases h) : ac.eval (.tmp 137) = .bool false)) ?_
                          refine ow_call Try.func12 (by kernel_rfl) rfl _ _ rfl (vs := #[.agg (stV sq (.slice TA nn tc) lv sv), encStr u, encStr d.id]) (by simp only [List.map_toArray, List.map_cons, List.map_nil, h1, h2, h3]) ?_
                          refine ((HTT.out.below hS).sees u d.id).mono ?_
                          rw [HBN.out]
                          rintro e w' ⟨rfl, hbb⟩
                          exact ⟨_, rfl, ⟨_, rfl, fun vs' h _ => h (fun e => by cases e), hbb, hS.trans (hbb.mono hS.size)⟩⟩
                        | 22, _, rfl =>
                          have h1 : ac.eval (.tmp 137) = .bool false := hdep 16 (by omega) (by kernel_rfl) (fun k _ h => by cases h)
                          have h2 : ac.eval (.tmp 142) = .bool false := hdep 21 (by omega) (by kernel_rfl) (fun k _ h => by cases h)
                          refine gstep rfl ?_
                          exact ow_pick _ _ _ rfl false h1 (by simpa using h2) ⟨_, rfl, fun vs' h _ => h (fun e => by cases e), hbr, hS⟩
                        | n + 23, hi, _ => exact absurd hi (by omega)
                      case fina =>
                        intro vs W hS hF
                        have e22 : vs 22 = .bool false := hF 22 (by omega) (fun _ _ => rfl)
                        clear hF
                        change wpList _ _ _ _ (Act.put (Act.put (Act.put (Act.put (Act.put (Act.put (Act.put (Act.put (Act.put (Act.put (Act.put (Act.put (Act.put (Act.put (Act.put (Act.put (Act.put (Act.put (Act.put (Act.put (Act.put (Act.put (Act.put _ (some 121) (vs 0)) (some 122) (vs 1)) (some 123) (vs 2)) (some 124) (vs 3)) (some 125) (vs 4)) (some 126) (vs 5)) (some 127) (vs 6)) (some 128) (vs 7)) (some 129) (vs 8)) (some 130) (vs 9)) (some 131) (vs 10)) (some 132) (vs 11)) (some 133) (vs 12)) (some 134) (vs 13)) (some 135) (vs 14)) (some 136) (vs 15)) (some 137) (vs 16)) (some 138) (vs 17)) (some 139) (vs 18)) (some 140) (vs 19)) (some 141) (vs 20)) (some 142) (vs 21)) (some 143) (vs 22)) W
                        rw [e22]
                        clear e22
                        generalize vs 0 = z0
                        generalize vs 1 = z1
                        generalize vs 2 = z2
                        generalize vs 3 = z3
                        generalize vs 4 = z4
                        generalize vs 5 = z5
                        generalize vs 6 = z6
                        generalize vs 7 = z7
                        generalize vs 8 = z8
                        generalize vs 9 = z9
                        generalize vs 10 = z10
                        generalize vs 11 = z11
                        generalize vs 12 = z12
                        generalize vs 13 = z13
                        generalize vs 14 = z14
                        generalize vs 15 = z15
                        generalize vs 16 = z16
                        generalize vs 17 = z17
                        generalize vs 18 = z18
                        generalize vs 19 = z19
                        generalize vs 20 = z20
                        generalize vs 21 = z21
                        simp only [putAll, List.drop_succ_cons, List.drop_zero, Act.put, List.setIfInBounds_toArray, List.set_cons_zero, List.set_cons_succ]
                        clear vs
                        rename World => W8
                        have HSS8 := Lib.hid (HSS.out.below hS)
                        have HTT8 := Lib.hid (HTT.out.below hS)
                        have HB8 := Lib.hid (HB7.out.trans (hS.mono HB7.out.size))
                        clear hS hq0 HSS HTT HB7 HRD7 HRL7 HSI HCI HBN
                        go_wp2_with fail
                        go_loopw [16] (fun vi wr => ∃ q : Nat, vi = .int .i64 (q : Int) ∧ q ≤ docs.length ∧ Below W8.heap.size W8 wr) (fun vi _ => docs.length - (intOf vi).toNat)
                        case atStart => exact ⟨0, rfl, Nat.zero_le _, Below.refl _ _⟩
                        case round =>
                          obtain ⟨q, rfl, hq, hbl⟩ := hrel
                          have HBL := Lib.hid hbl
                          clear hbl
                          have hr1 : wr.cell? ⟨N, 1, none⟩ = some (.slice DA docs.length ddc) := cell_of_row wr N 1 _ _ _ (blk_below HSS8.out.row HBL.out)
                          rcases (show q = docs.length ∨ q < docs.length by omega) with rfl | hql
                          · have hd : decide ((docs.length : Int) < (docs.length : Int)) = false := by simp
                            go_wp2_with fail
                            refine (awakeL (HB8.out.trans (HBL.out.mono HB8.out.size))).mono ?_
                            rintro e w7 ⟨rfl, hb7⟩
                            go_wp2_with fail
                            go_ret
                            exact ⟨rfl, hb7⟩
                          · have hd : decide ((q : Int) < (docs.length : Int)) = true := by simp; omega
                            have hd' : decide (q < docs.length) = true := by simp; omega
                            have hpos8 : 0 < docs.length := by omega
                            obtain ⟨DA1, ddc1, rows1, e0, -, -, hdrw, hdcell⟩ := HSS8.out.ds.rows
                            injection e0 with e1 e2 e3
                            subst e1 e3
                            clear e2
                            obtain ⟨bd, od, rfl, hbd, hcd⟩ := hdcell.resolve_left (by omega)
                            have hqr : q < rows1.length := by rw [hdrw.1]; exact hql
                            obtain ⟨e, he⟩ : ∃ e, e = docs[q] := ⟨_, rfl⟩
                            have hex : wr.cell? ⟨bd, od + q * 6 + 0, none⟩ = some (encStr e.id) := by
                              have h1 := hdrw.2 q rows1[q] e (List.getElem?_eq_getElem hqr) (by rw [he]; exact List.getElem?_eq_getElem hql)
                              obtain ⟨sq1, nd1, ch1, gr1, gn1, h2, _⟩ := h1
                              exact below_cell HBL.out (hcd q 0 _ _ (List.getElem?_eq_getElem hqr) (by rw [h2]; rfl))
                            have hby : byOf (ins docs k d) u e.id = byOf docs u e.id := HBI.out e.id (fun h => HNI.out e (by rw [he]; exact List.getElem_mem hql) h.symm)
                            obtain ⟨c, hc⟩ : ∃ c, c = (byOf docs u e.id).getD [] := ⟨_, rfl⟩
                            obtain ⟨b, hb⟩ : ∃ b, b = (byOf docs u e.id).isSome := ⟨_, rfl⟩
                            have HBY := Lib.hid hby
                            have HC := Lib.hid hc
                            have HBB := Lib.hid hb
                            clear hby hc hb hcd hbd hdrw hdcell hqr he
                            go_upto_region 32 with fail
                            refine region_f 14 (fun i vs W => match i with
                                | 0 => vs 0 = .agg (stV sq (.slice (some ⟨bd, od, none⟩) docs.length ddc) lv sv)
                                | 1 => vs 1 = encStr u
                                | 2 => vs 2 = .pointer (some ⟨N, 0 + 1, none⟩)
                                | 3 => vs 3 = .slice (some ⟨bd, od, none⟩) docs.length ddc
                                | 4 => vs 4 = .int .i64 (q : Int)
                                | 5 => vs 5 = .pointer (some ⟨bd, od + q * 6, none⟩)
                                | 6 => vs 6 = .pointer (some ⟨bd, od + q * 6 + 0, none⟩)
                                | 7 => vs 7 = encStr e.id
                                | 8 => vs 8 = .tuple #[encStr c, .bool b]
                                | 9 => vs 9 = .tuple #[encStr c, .bool b]
                                | 10 => vs 10 = encStr c
                                | 11 => vs 11 = .bool b
                                | 12 => vs 12 = encStr c
                                | 13 => vs 13 = .bool b
                                | _ => True) (fun _ W W' => Below W.heap.size W W') (fun W => Below wr.heap.size wr W) (by kernel_rfl) (by kernel_rfl) ?hstb ?h0b ?stepb ?finb
                            case hstb =>
                              intro i k vs W W' _ _ h hG
                              match i, h with
                              | 0, h => exact h
                              | 1, h => exact h
                              | 2, h => exact h
                              | 3, h => exact h
                              | 4, h => exact h
                              | 5, h => exact h
                              | 6, h => exact h
                              | 7, h => exact h
                              | 8, h => exact h
                              | 9, h => exact h
                              | 10, h => exact h
                              | 11, h => exact h
                              | 12, h => exact h
                              | 13, h => exact h
                              | n + 14, _ => trivial
                            case h0b => exact (Below.refl _ _).drew
                            case stepb =>
                              intro i op hi ho ac W hS hag hdep
                              have hbr : Below W.heap.size W W := Below.refl _ _
                              match i, hi, ho with
                              | 0, _, rfl =>
                                exact ow_load_row 27 _ rfl N (hag 4 rfl) 27 _ (0, 0) _ (blk_below HSS8.out.row (HBL.out.trans (hS.mono HBL.out.size))) Try.underlying27 rfl (by kernel_rfl) ⟨_, rfl, fun vs' h _ => h (fun e => by cases e), hbr, hS⟩
                              | 1, _, rfl =>
                                exact ow_move _ rfl (v := encStr u) (hag 2 rfl) ⟨_, rfl, fun vs' h _ => h (fun e => by cases e), hbr, hS⟩
                              | 2, _, rfl =>
                                exact ow_field fld27_1 _ rfl N (0) (hag 4 rfl) ⟨_, rfl, fun vs' h _ => h (fun e => by cases e), hbr, hS⟩
                              | 3, _, rfl =>
                                have hp : ac.eval (.tmp 154) = .pointer (some ⟨N, 0 + 1, none⟩) := hdep 2 (by omega) (by kernel_rfl)
                                exact ow_load_slice' _ 45 23 rfl N (0 + 1) hp (some ⟨bd, od, none⟩) docs.length ddc (below_cell hS hr1) Try.underlying23 ⟨_, rfl, fun vs' h _ => h (fun e => by cases e), hbr, hS⟩
                              | 4, _, rfl =>
                                exact ow_move _ rfl (v := .int .i64 (q : Int)) (hag 16 rfl) ⟨_, rfl, fun vs' h _ => h (fun e => by cases e), hbr, hS⟩
                              | 5, _, rfl =>
                                have hs : ac.eval (.tmp 155) = .slice (some ⟨bd, od, none⟩) docs.length ddc := hdep 3 (by omega) (by kernel_rfl)
                                have hi : ac.eval (.tmp 156) = .int .i64 (q : Int) := hdep 4 (by omega) (by kernel_rfl)
                                exact ow_index_n _ _ 45 23 6 rfl bd od docs.length ddc q hs hi hql Try.underlying23 info45 ⟨_, rfl, fun vs' h _ => h (fun e => by cases e), hbr, hS⟩
                              | 6, _, rfl =>
                                have hp : ac.eval (.tmp 157) = .pointer (some ⟨bd, od + q * 6, none⟩) := hdep 5 (by omega) (by kernel_rfl)
                                exact ow_field fld45_0 _ rfl bd (od + q * 6) hp ⟨_, rfl, fun vs' h _ => h (fun e => by cases e), hbr, hS⟩
                              | 7, _, rfl =>
                                have hp : ac.eval (.tmp 158) = .pointer (some ⟨bd, od + q * 6 + 0, none⟩) := hdep 6 (by omega) (by kernel_rfl)
                                exact ow_load_str _ 9 rfl bd (od + q * 6 + 0) hp _ (below_cell hS hex) Try.underlying9 ⟨_, rfl, fun vs' h _ => h (fun e => by cases e), hbr, hS⟩
                              | 8, _, rfl =>
                                have h1 : ac.eval (.tmp 152) = .agg (stV sq (.slice (some ⟨bd, od, none⟩) docs.length ddc) lv sv) := hdep 0 (by omega) (by kernel_rfl)
                                have h2 : ac.eval (.tmp 153) = encStr u := hdep 1 (by omega) (by kernel_rfl)
                                have h3 : ac.eval (.tmp 159) = encStr e.id := hdep 7 (by omega) (by kernel_rfl)
                                refine ow_call Try.func10 (by kernel_rfl) rfl _ _ rfl (vs := #[.agg (stV sq (.slice (some ⟨bd, od, none⟩) docs.length ddc) lv sv), encStr u, encStr e.id]) (by simp only [List.map_toArray, List.map_cons, List.map_nil, h1, h2, h3]) ?_
                                refine ((HSS8.out.below (HBL.out.trans (hS.mono HBL.out.size))).by u e.id).mono ?_
                                rw [← HC.out, ← HBB.out]
                                rintro e' w' ⟨rfl, hbb⟩
                                exact ⟨_, rfl, ⟨_, rfl, fun vs' h _ => h (fun e => by cases e), hbb, hS.trans (hbb.mono hS.size)⟩⟩
                              | 9, _, rfl =>
                                have h1 : ac.eval (.tmp 160) = .tuple #[encStr c, .bool b] := hdep 8 (by omega) (by kernel_rfl)
                                exact ow_move _ rfl h1 ⟨_, rfl, fun vs' h _ => h (fun e => by cases e), hbr, hS⟩
                              | 10, _, rfl =>
                                have h1 : ac.eval (.tmp 151) = .tuple #[encStr c, .bool b] := hdep 9 (by omega) (by kernel_rfl)
                                exact ow_extract _ 0 rfl h1 rfl ⟨_, rfl, fun vs' h _ => h (fun e => by cases e), hbr, hS⟩
                              | 11, _, rfl =>
                                have h1 : ac.eval (.tmp 151) = .tuple #[encStr c, .bool b] := hdep 9 (by omega) (by kernel_rfl)
                                exact ow_extract _ 1 rfl h1 rfl ⟨_, rfl, fun vs' h _ => h (fun e => by cases e), hbr, hS⟩
                              | 12, _, rfl =>
                                have h1 : ac.eval (.tmp 161) = encStr c := hdep 10 (by omega) (by kernel_rfl)
                                exact ow_assign _ rfl h1 ⟨_, rfl, fun vs' h _ => h (fun e => by cases e), hbr, hS⟩
                              | 13, _, rfl =>
                                have h1 : ac.eval (.tmp 162) = .bool b := hdep 11 (by omega) (by kernel_rfl)
                                exact ow_assign _ rfl h1 ⟨_, rfl, fun vs' h _ => h (fun e => by cases e), hbr, hS⟩
                              | n + 14, hi, _ => exact absurd hi (by omega)
                            case finb =>
                              intro vs W hS hF
                              have e12 : vs 12 = encStr c := hF 12 (by omega)
                              have e13 : vs 13 = .bool b := hF 13 (by omega)
                              clear hF
                              change wpList _ _ _ _ (Act.put (Act.put (Act.put (Act.put (Act.put (Act.put (Act.put (Act.put (Act.put (Act.put (Act.put (Act.put (Act.put (Act.put _ (some 152) (vs 0)) (some 153) (vs 1)) (some 154) (vs 2)) (some 155) (vs 3)) (some 156) (vs 4)) (some 157) (vs 5)) (some 158) (vs 6)) (some 159) (vs 7)) (some 160) (vs 8)) (some 151) (vs 9)) (some 161) (vs 10)) (some 162) (vs 11)) (some 17) (vs 12)) (some 18) (vs 13)) W
                              rw [e12, e13]
                              clear e12 e13
                              generalize vs 0 = z0
                              generalize vs 1 = z1
                              generalize vs 2 = z2
                              generalize vs 3 = z3
                              generalize vs 4 = z4
                              generalize vs 5 = z5
                              generalize vs 6 = z6
                              generalize vs 7 = z7
                              generalize vs 8 = z8
                              generalize vs 9 = z9
                              generalize vs 10 = z10
                              generalize vs 11 = z11
                              simp only [putAll, List.drop_succ_cons, List.drop_zero, Act.put, List.setIfInBounds_toArray, List.set_cons_zero, List.set_cons_succ]
                              clear vs
                              have HBL2 := Lib.hid (HBL.out.trans (hS.mono HBL.out.size))
                              clear HBL
                              rename World => W9
                              replace hr1 := below_cell hS hr1
                              replace hex := below_cell hS hex
                              clear hS
                              go_upto_region 33 with fail
                              refine region_f 14 (fun i vs W => match i with
                                  | 0 => vs 0 = .agg (stV sq (.slice TA nn tc) lv sv)
                                  | 1 => vs 1 = encStr u
                                  | 2 => vs 2 = .pointer (some ⟨N, 0 + 1, none⟩)
                                  | 3 => vs 3 = .slice (some ⟨bd, od, none⟩) docs.length ddc
                                  | 4 => vs 4 = .int .i64 (q : Int)
                                  | 5 => vs 5 = .pointer (some ⟨bd, od + q * 6, none⟩)
                                  | 6 => vs 6 = .pointer (some ⟨bd, od + q * 6 + 0, none⟩)
                                  | 7 => vs 7 = encStr e.id
                                  | 8 => vs 8 = .tuple #[encStr c, .bool b]
                                  | 9 => vs 9 = .tuple #[encStr c, .bool b]
                                  | 10 => vs 10 = encStr c
                                  | 11 => vs 11 = .bool b
                                  | 12 => vs 12 = encStr c
                                  | 13 => vs 13 = .bool b
                                  | _ => True) (fun _ W W' => Below W.heap.size W W') (fun W => Below W9.heap.size W9 W) (by kernel_rfl) (by kernel_rfl) ?hstc ?h0c ?stepc ?finc
                              case hstc =>
                                intro i k vs W W' _ _ h hG
                                match i, h with
                                | 0, h => exact h
                                | 1, h => exact h
                                | 2, h => exact h
                                | 3, h => exact h
                                | 4, h => exact h
                                | 5, h => exact h
                                | 6, h => exact h
                                | 7, h => exact h
                                | 8, h => exact h
                                | 9, h => exact h
                                | 10, h => exact h
                                | 11, h => exact h
                                | 12, h => exact h
                                | 13, h => exact h
                                | n + 14, _ => trivial
                              case h0c => exact (Below.refl _ _).drew
                              case stepc =>
                                intro i op hi ho ac W hS hag hdep
                                have hbr : Below W.heap.size W W := Below.refl _ _
                                match i, hi, ho with
                                | 0, _, rfl =>
                                  exact ow_load_row 27 _ rfl g4 (hag 15 rfl) 27 _ (0, 0) _ (blk_below HTT8.out.row (HBL2.out.trans (hS.mono HBL2.out.size))) Try.underlying27 rfl (by kernel_rfl) ⟨_, rfl, fun vs' h _ => h (fun e => by cases e), hbr, hS⟩
                                | 1, _, rfl =>
                                  exact ow_move _ rfl (v := encStr u) (hag 2 rfl) ⟨_, rfl, fun vs' h _ => h (fun e => by cases e), hbr, hS⟩
                                | 2, _, rfl =>
                                  exact ow_field fld27_1 _ rfl N (0) (hag 4 rfl) ⟨_, rfl, fun vs' h _ => h (fun e => by cases e), hbr, hS⟩
                                | 3, _, rfl =>
                                  have hp : ac.eval (.tmp 166) = .pointer (some ⟨N, 0 + 1, none⟩) := hdep 2 (by omega) (by kernel_rfl)
                                  exact ow_load_slice' _ 45 23 rfl N (0 + 1) hp (some ⟨bd, od, none⟩) docs.length ddc (below_cell hS hr1) Try.underlying23 ⟨_, rfl, fun vs' h _ => h (fun e => by cases e), hbr, hS⟩
                                | 4, _, rfl =>
                                  exact ow_move _ rfl (v := .int .i64 (q : Int)) (hag 16 rfl) ⟨_, rfl, fun vs' h _ => h (fun e => by cases e), hbr, hS⟩
                                | 5, _, rfl =>
                                  have hs : ac.eval (.tmp 167) = .slice (some ⟨bd, od, none⟩) docs.length ddc := hdep 3 (by omega) (by kernel_rfl)
                                  have hi : ac.eval (.tmp 168) = .int .i64 (q : Int) := hdep 4 (by omega) (by kernel_rfl)
                                  exact ow_index_n _ _ 45 23 6 rfl bd od docs.length ddc q hs hi hql Try.underlying23 info45 ⟨_, rfl, fun vs' h _ => h (fun e => by cases e), hbr, hS⟩
                                | 6, _, rfl =>
                                  have hp : ac.eval (.tmp 169) = .pointer (some ⟨bd, od + q * 6, none⟩) := hdep 5 (by omega) (by kernel_rfl)
                                  exact ow_field fld45_0 _ rfl bd (od + q * 6) hp ⟨_, rfl, fun vs' h _ => h (fun e => by cases e), hbr, hS⟩
                                | 7, _, rfl =>
                                  have hp : ac.eval (.tmp 170) = .pointer (some ⟨bd, od + q * 6 + 0, none⟩) := hdep 6 (by omega) (by kernel_rfl)
                                  exact ow_load_str _ 9 rfl bd (od + q * 6 + 0) hp _ (below_cell hS hex) Try.underlying9 ⟨_, rfl, fun vs' h _ => h (fun e => by cases e), hbr, hS⟩
                                | 8, _, rfl =>
                                  have h1 : ac.eval (.tmp 164) = .agg (stV sq (.slice TA nn tc) lv sv) := hdep 0 (by omega) (by kernel_rfl)
                                  have h2 : ac.eval (.tmp 165) = encStr u := hdep 1 (by omega) (by kernel_rfl)
                                  have h3 : ac.eval (.tmp 171) = encStr e.id := hdep 7 (by omega) (by kernel_rfl)
                                  refine ow_call Try.func10 (by kernel_rfl) rfl _ _ rfl (vs := #[.agg (stV sq (.slice TA nn tc) lv sv), encStr u, encStr e.id]) (by simp only [List.map_toArray, List.map_cons, List.map_nil, h1, h2, h3]) ?_
                                  refine ((HTT8.out.below (HBL2.out.trans (hS.mono HBL2.out.size))).by u e.id).mono ?_
                                  rw [HBY.out, ← HC.out, ← HBB.out]
                                  rintro e' w' ⟨rfl, hbb⟩
                                  exact ⟨_, rfl, ⟨_, rfl, fun vs' h _ => h (fun e => by cases e), hbb, hS.trans (hbb.mono hS.size)⟩⟩
                                | 9, _, rfl =>
                                  have h1 : ac.eval (.tmp 172) = .tuple #[encStr c, .bool b] := hdep 8 (by omega) (by kernel_rfl)
                                  exact ow_move _ rfl h1 ⟨_, rfl, fun vs' h _ => h (fun e => by cases e), hbr, hS⟩
                                | 10, _, rfl =>
                                  have h1 : ac.eval (.tmp 163) = .tuple #[encStr c, .bool b] := hdep 9 (by omega) (by kernel_rfl)
                                  exact ow_extract _ 0 rfl h1 rfl ⟨_, rfl, fun vs' h _ => h (fun e => by cases e), hbr, hS⟩
                                | 11, _, rfl =>
                                  have h1 : ac.eval (.tmp 163) = .tuple #[encStr c, .bool b] := hdep 9 (by omega) (by kernel_rfl)
                                  exact ow_extract _ 1 rfl h1 rfl ⟨_, rfl, fun vs' h _ => h (fun e => by cases e), hbr, hS⟩
                                | 12, _, rfl =>
                                  have h1 : ac.eval (.tmp 173) = encStr c := hdep 10 (by omega) (by kernel_rfl)
                                  exact ow_assign _ rfl h1 ⟨_, rfl, fun vs' h _ => h (fun e => by cases e), hbr, hS⟩
                                | 13, _, rfl =>
                                  have h1 : ac.eval (.tmp 174) = .bool b := hdep 11 (by omega) (by kernel_rfl)
                                  exact ow_assign _ rfl h1 ⟨_, rfl, fun vs' h _ => h (fun e => by cases e), hbr, hS⟩
                                | n + 14, hi, _ => exact absurd hi (by omega)
                              case finc =>
                                intro vs W hS hF
                                have e12 : vs 12 = encStr c := hF 12 (by omega)
                                have e13 : vs 13 = .bool b := hF 13 (by omega)
                                clear hF
                                change wpList _ _ _ _ (Act.put (Act.put (Act.put (Act.put (Act.put (Act.put (Act.put (Act.put (Act.put (Act.put (Act.put (Act.put (Act.put (Act.put _ (some 164) (vs 0)) (some 165) (vs 1)) (some 166) (vs 2)) (some 167) (vs 3)) (some 168) (vs 4)) (some 169) (vs 5)) (some 170) (vs 6)) (some 171) (vs 7)) (some 172) (vs 8)) (some 163) (vs 9)) (some 173) (vs 10)) (some 174) (vs 11)) (some 19) (vs 12)) (some 20) (vs 13)) W
                                rw [e12, e13]
                                clear e12 e13
                                generalize vs 0 = z0
                                generalize vs 1 = z1
                                generalize vs 2 = z2
                                generalize vs 3 = z3
                                generalize vs 4 = z4
                                generalize vs 5 = z5
                                generalize vs 6 = z6
                                generalize vs 7 = z7
                                generalize vs 8 = z8
                                generalize vs 9 = z9
                                generalize vs 10 = z10
                                generalize vs 11 = z11
                                simp only [putAll, List.drop_succ_cons, List.drop_zero, Act.put, List.setIfInBounds_toArray, List.set_cons_zero, List.set_cons_succ]
                                clear vs
                                have HBL := Lib.hid (HBL2.out.trans (hS.mono HBL2.out.size))
                                clear hS hr1 hex HBL2
                                have hcc : (c == c) = true := by simp
                                have hbb : (b == b) = true := by simp
                                go_wp2_with fail
                                go_roundw
                                case rel => exact ⟨q + 1, rfl, by omega, HBL.out⟩
                                case measure => simp [intOf]; omega
                  · have hd : decide ((0 : Int) < (docs.length : Int)) = false := decide_eq_false (by omega)
                    obtain rfl : k = 0 := by omega
                    go_upto_region 25 with fail
                    clear hk1 hn2 hn3 hn4 hn5 hn6 hm hd
                    obtain ⟨g4, hg4⟩ : ∃ g, g = W4.heap.size := ⟨_, rfl⟩
                    have HG4 := Lib.hid hg4
                    clear hg4 hr0 hr1 hr2 hr3
                    go_upto_region 26 with (first
                      | (refine wpList_load_row rfl 27 _ rfl N rfl 27 _ (0, 0) _ HST.out.row Try.underlying27 rfl (by kernel_rfl) ?_)
                      | (refine wpList_alloc_row rfl 27 rfl _ (zero27 _) ?_; rw [← HG4.out]; intro W5 hT2 hS2 hG2; have HT2 := Lib.hid hT2; have HG2 := Lib.hid (below_of_grown hG2); clear hT2 hS2 hG2)
                      | (refine wpList_store_row rfl 27 _ _ rfl g4 rfl 27 _ _ rfl HT2.out rfl (by kernel_rfl) (stV_one rfl HLO1.out HSO1.out) ?_; intro W6 hT3 hS3 hG3; have HT6 := Lib.hid hT3; have HG3 := Lib.hid hG3; clear hT3 hS3 hG3))
                    have hb6 : Below W4.heap.size W4 W6 := HG2.out.grown HG3.out HG2.out.size (fun k e => by injection e with e; have := HG4.out; omega)
                    have HST6 := Lib.hid (HST.out.below hb6)
                    have HRD6 := Lib.hid (blk_below HRD.out hb6)
                    have HRT6 := Lib.hid (HRT.out.below hb6)
                    have HBW6 := Lib.hid (HBW.out.trans (hb6.mono HBW.out.size))
                    have hNg : N + 1 < g4 := by have := blk_lt HRD.out; have := HG4.out; omega
                    have HLOW6 := Lib.hid (Low.of_below hb6 (Nat.le_of_eq HG4.out) : Low g4 W4 W6)
                    clear hb6 HT2 HG2 HG3
                    simp only [Act.put, List.setIfInBounds_toArray, List.set_cons_zero, List.set_cons_succ]
                    obtain ⟨DA', ddc', rows, e, _, _, hdrw, hdcell⟩ := HST6.out.ds.rows
                    injection e with e1 e2 e3
                    subst e1 e3
                    clear e2
                    have HROWS := Lib.hid hdrw
                    have HSRC := Lib.hid (show Src W6 DA rows docs.length from ⟨hdrw.1, hdrw.len, hdcell.imp _root_.id (fun ⟨b, o, e, _, h⟩ => ⟨b, o, e, h⟩)⟩)
                    have HONE := Lib.hid hdrw.one
                    obtain ⟨i0, hi0, hz0, hz1, hz2⟩ := info_parts infos45
                    have HI0 := Lib.hid hi0
                    have HZ0 := Lib.hid hz0
                    have HZ1 := Lib.hid hz1
                    have HZ2 := Lib.hid hz2
                    have hr1 : W6.cell? ⟨N, 0 + 1, none⟩ = some (.slice DA docs.length ddc) := HST6.out.c.2.1
                    clear hdrw hdcell hi0 hz0 hz1 hz2
                    refine region_g 14 (fun k j => decide ((k = 5 ∧ j = 0) ∨ (k = 8 ∧ (j = 0 ∨ j = 5 ∨ j = 7)) ∨ (k = 13 ∧ (j = 0 ∨ j = 5 ∨ j = 7 ∨ j = 8)))) (fun i vs W => match i with
                        | 0 => ∃ g, vs 0 = .slice (some ⟨g, 0, none⟩) 0 0 ∧ W6.heap.size ≤ g ∧ W.heap[g]? = some (.cells #[] 45 (0, 0))
                        | 1 => vs 1 = .pointer (some ⟨N, 0 + 1, none⟩)
                        | 2 => vs 2 = .slice DA docs.length ddc
                        | 3 => vs 3 = .int .i64 ((0 : Nat) : Int)
                        | 4 => vs 4 = .slice DA 0 ddc
                        | 5 => W.ownsRow W6.heap.size 45 6 (vs 5) 0 (rows.take 0).flatten
                        | 6 => vs 6 = .agg (docC d.id dsq (.slice DNA dnn dnc) (.slice DCA d.chans.length dcc) (.slice DGA d.grants.length dgc) dgn).toArray
                        | 7 => ∃ g, vs 7 = .slice (some ⟨g, 0, none⟩) 1 1 ∧ W6.heap.size ≤ g ∧ W.heap[g]? = some (.cells (docC d.id dsq (.slice DNA dnn dnc) (.slice DCA d.chans.length dcc) (.slice DGA d.grants.length dgc) dgn).toArray 45 (0, 0))
                        | 8 => W.ownsRow W6.heap.size 45 6 (vs 8) (0 + 1) ((rows.take 0).flatten ++ (docC d.id dsq (.slice DNA dnn dnc) (.slice DCA d.chans.length dcc) (.slice DGA d.grants.length dgc) dgn))
                        | 9 => vs 9 = .pointer (some ⟨N, 0 + 1, none⟩)
                        | 10 => vs 10 = .slice DA docs.length ddc
                        | 11 => vs 11 = .int .i64 ((0 : Nat) : Int)
                        | 12 => vs 12 = .slice (if ddc = 0 then DA else DA.map (·.add (0 * 6))) (docs.length - 0) (ddc - 0)
                        | 13 => W.ownsRow W6.heap.size 45 6 (vs 13) (0 + 1 + (docs.length - 0)) ((rows.take 0).flatten ++ (docC d.id dsq (.slice DNA dnn dnc) (.slice DCA d.chans.length dcc) (.slice DGA d.grants.length dgc) dgn) ++ (rows.drop 0).flatten)
                        | _ => True) (fun k W W' => (k ≠ 5 → k ≠ 8 → k ≠ 13 → Below W.heap.size W W') ∧ (k = 5 → ∃ g, W.heap[g]? = some (.cells #[] 45 (0, 0)) ∧ W.grownBy W' (some g))) (fun W => Below W6.heap.size W6 W) (by kernel_rfl) (by kernel_rfl) ?hst ?h0 ?step ?fin
                    case hst =>
                      intro i k vs W W' hki hdk hck h hG
                      have hck := of_decide_eq_false hck
                      match i, h with
                      | 0, ⟨g, e1, e2, e3⟩ => exact ⟨g, e1, e2, blk_below e3 (hG.1 (by omega) (by omega) (by omega))⟩
                      | 1, h => exact h
                      | 2, h => exact h
                      | 3, h => exact h
                      | 4, h => exact h
                      | 5, h => exact own_below6 h (hG.1 (by omega) (by omega) (by omega))
                      | 6, h => exact h
                      | 7, ⟨g, e1, e2, e3⟩ =>
                        by_cases h5 : k = 5
                        · obtain ⟨g0, h6, h7⟩ := hG.2 h5
                          refine ⟨g, e1, e2, blk_grown e3 h7 (fun e => ?_)⟩
                          injection e with e
                          subst e
                          rw [h6] at e3
                          injection e3 with e3
                          injection e3 with e3
                          have := congrArg Array.size e3
                          simp [docC] at this
                        · exact ⟨g, e1, e2, blk_below e3 (hG.1 h5 (by omega) (by omega))⟩
                      | 8, h =>
                        have h5 : k ≠ 5 := by rintro rfl; exact absurd (hdk.symm.trans (by kernel_rfl)) Bool.false_ne_true
                        exact own_below6 h (hG.1 h5 (fun e => hki e) (by omega))
                      | 9, h => exact h
                      | 10, h => exact h
                      | 11, h => exact h
                      | 12, h => exact h
                      | 13, h =>
                        have h5 : k ≠ 5 := by rintro rfl; exact absurd (hdk.symm.trans (by kernel_rfl)) Bool.false_ne_true
                        have h8 : k ≠ 8 := by rintro rfl; exact absurd (hdk.symm.trans (by kernel_rfl)) Bool.false_ne_true
                        exact own_below6 h (hG.1 h5 h8 (fun e => hki e))
                      | n + 14, _ => trivial
                    case h0 => exact (Below.refl _ _).drew
                    case step =>
                      intro i op hi ho ac W hS hag hdep
                      have hbr : Below W.heap.size W W := Below.refl _ _
                      match i, hi, ho with
                      | 0, _, rfl =>
                        refine gstep rfl ?_
                        have hbb := below_alloc1 W (.cells #[] 45)
                        exact ow_build23_0 rfl ⟨_, rfl, fun vs' h _ => ⟨_, h (fun e => by cases e), hS.size, World.alloc_heap_new W _⟩, ⟨fun _ _ _ => hbb, fun h => absurd h (by decide)⟩, hS.trans (hbb.mono hS.size)⟩
                      | 1, _, rfl =>
                        refine gstep rfl ?_
                        exact ow_field fld27_1 _ rfl N 0 (hag 4 rfl) ⟨_, rfl, fun vs' h _ => h (fun e => by cases e), ⟨fun _ _ _ => hbr, fun h => absurd h (by decide)⟩, hS⟩
                      | 2, _, rfl =>
                        refine gstep rfl ?_
                        have hp : ac.eval (.tmp 107) = .pointer (some ⟨N, 0 + 1, none⟩) := hdep 1 (by omega) (by kernel_rfl) (fun k _ h => by have h := of_decide_eq_true h; omega)
                        exact ow_load_slice' _ 45 23 rfl N (0 + 1) hp DA docs.length ddc (below_cell hS hr1) Try.underlying23 ⟨_, rfl, fun vs' h _ => h (fun e => by cases e), ⟨fun _ _ _ => hbr, fun h => absurd h (by decide)⟩, hS⟩
                      | 3, _, rfl =>
                        refine gstep rfl ?_
                        exact ow_move _ rfl (v := .int .i64 ((0 : Nat) : Int)) (hag 14 rfl) ⟨_, rfl, fun vs' h _ => h (fun e => by cases e), ⟨fun _ _ _ => hbr, fun h => absurd h (by decide)⟩, hS⟩
                      | 4, _, rfl =>
                        refine gstep rfl ?_
                        have h2 : ac.eval (.tmp 108) = .slice DA docs.length ddc := hdep 2 (by omega) (by kernel_rfl) (fun k _ h => by have h := of_decide_eq_true h; omega)
                        have h3 : ac.eval (.tmp 109) = .int .i64 ((0 : Nat) : Int) := hdep 3 (by omega) (by kernel_rfl) (fun k _ h => by have h := of_decide_eq_true h; omega)
                        exact ow_slice_to23 _ _ rfl DA docs.length ddc 0 h2 h3 (by omega) ⟨_, rfl, fun vs' h _ => h (fun e => by cases e), ⟨fun _ _ _ => hbr, fun h => absurd h (by decide)⟩, hS⟩
                      | 5, _, rfl =>
                        refine gstep rfl ?_
                        obtain ⟨g, e0, hge, hg⟩ := hdep 0 (by omega) (by kernel_rfl) (fun k _ h => by have h := of_decide_eq_true h; rcases (show k = 5 ∨ k = 8 ∨ k = 13 by omega) with rfl | rfl | rfl; exact .inl rfl; exact .inr (by kernel_rfl); exact .inr (by kernel_rfl))
                        have e0 : ac.eval (.tmp 106) = .slice (some ⟨g, 0, none⟩) 0 0 := e0
                        have h4 : ac.eval (.tmp 110) = .slice DA 0 ddc := hdep 4 (by omega) (by kernel_rfl) (fun k _ h => by have h := of_decide_eq_true h; omega)
                        refine ow_append_n (.tmp 106) (.tmp 110) 23 rfl W6.heap.size 45 i0 _ 6 104 Try.underlying23 HI0.out HZ0.out HZ1.out HZ2.out rfl (by omega) _ 0 [] e0 (own_none W _ g hge hg) DA 0 ddc (rows.take 0).flatten h4 (by rw [flat_len _ (fun r hr => HSRC.out.2.1 r (List.mem_of_mem_take hr)), List.length_take]; have := HSRC.out.1; omega) (fun h => by have := HSRC.out.none_ h; omega) ((HSRC.out.below hS).take 0) (fun x hx => by obtain ⟨r, hr, hx⟩ := List.mem_flatten.1 hx; exact HONE.out x (List.mem_flatten.2 ⟨r, List.mem_of_mem_take hr, hx⟩)) (by unfold maxLen; omega) (by omega) hS.size ?_
                        intro v' w' hown hgr _
                        rw [List.nil_append, Nat.zero_add] at hown
                        exact ⟨_, rfl, fun vs' h _ => by rw [h (fun e => by cases e)]; exact hown, ⟨fun h => absurd rfl h, fun _ => ⟨g, hg, hgr⟩⟩, hS.grown hgr hS.size (fun j e => own_ge6 (own_none W _ g hge hg) j e)⟩
                      | 6, _, rfl =>
                        refine gstep rfl ?_
                        exact ow_load_row 45 _ rfl (N + 1) (hag 5 rfl) 45 _ (0, 0) _ (blk_below HRD6.out hS) Try.underlying45 rfl (by kernel_rfl) ⟨_, rfl, fun vs' h _ => h (fun e => by cases e), ⟨fun _ _ _ => hbr, fun h => absurd h (by decide)⟩, hS⟩
                      | 7, _, rfl =>
                        refine gstep rfl ?_
                        have h6 : ac.eval (.tmp 112) = .agg (docC d.id dsq (.slice DNA dnn dnc) (.slice DCA d.chans.length dcc) (.slice DGA d.grants.length dgc) dgn).toArray := hdep 6 (by omega) (by kernel_rfl) (fun k _ h => by have h := of_decide_eq_true h; omega)
                        have hbb := below_alloc1 W (.cells (docC d.id dsq (.slice DNA dnn dnc) (.slice DCA d.chans.length dcc) (.slice DGA d.grants.length dgc) dgn).toArray 45)
                        exact ow_build23_1 _ rfl _ _ _ _ _ _ h6 ⟨_, rfl, fun vs' h _ => ⟨_, h (fun e => by cases e), hS.size, World.alloc_heap_new W _⟩, ⟨fun _ _ _ => hbb, fun h => absurd h (by decide)⟩, hS.trans (hbb.mono hS.size)⟩
                      | 8, _, rfl =>
                        refine gstep rfl ?_
                        have h5 : W.ownsRow W6.heap.size 45 6 (ac.eval (.tmp 111)) 0 (rows.take 0).flatten := hdep 5 (by omega) (by kernel_rfl) (fun k _ h => by have h := of_decide_eq_true h; rcases (show k = 8 ∨ k = 13 by omega) with rfl | rfl; exact .inl rfl; exact .inr (by kernel_rfl))
                        obtain ⟨g, e0, hge, hg⟩ := hdep 7 (by omega) (by kernel_rfl) (fun k _ h => by have h := of_decide_eq_true h; rcases (show k = 8 ∨ k = 13 by omega) with rfl | rfl; exact .inl rfl; exact .inr (by kernel_rfl))
                        have e0 : ac.eval (.tmp 113) = .slice (some ⟨g, 0, none⟩) 1 1 := e0
                        refine ow_append_n (.tmp 111) (.tmp 113) 23 rfl W6.heap.size 45 i0 _ 6 104 Try.underlying23 HI0.out HZ0.out HZ1.out HZ2.out rfl (by omega) _ 0 (rows.take 0).flatten rfl h5 (some ⟨g, 0, none⟩) 1 1 (docC d.id dsq (.slice DNA dnn dnc) (.slice DCA d.chans.length dcc) (.slice DGA d.grants.length dgc) dgn) e0 rfl (fun h => by cases h) (fun ad e j x hx => by injection e with e; subst e; rw [add_plain, cell_of_row W g _ _ _ _ hg, Nat.zero_add]; simpa using hx) (HDR.out.one) (by unfold maxLen; omega) (by omega) hS.size ?_
                        intro v' w' hown hgr _
                        exact ⟨_, rfl, fun vs' h _ => by rw [h (fun e => by cases e)]; exact hown, ⟨fun _ h => absurd rfl h, fun h => absurd h (by decide)⟩, hS.grown hgr hS.size (fun j e => own_ge6 h5 j e)⟩
                      | 9, _, rfl =>
                        refine gstep rfl ?_
                        exact ow_field fld27_1 _ rfl N 0 (hag 4 rfl) ⟨_, rfl, fun vs' h _ => h (fun e => by cases e), ⟨fun _ _ _ => hbr, fun h => absurd h (by decide)⟩, hS⟩
                      | 10, _, rfl =>
                        refine gstep rfl ?_
                        have hp : ac.eval (.tmp 115) = .pointer (some ⟨N, 0 + 1, none⟩) := hdep 9 (by omega) (by kernel_rfl) (fun k _ h => by have h := of_decide_eq_true h; omega)
                        exact ow_load_slice' _ 45 23 rfl N (0 + 1) hp DA docs.length ddc (below_cell hS hr1) Try.underlying23 ⟨_, rfl, fun vs' h _ => h (fun e => by cases e), ⟨fun _ _ _ => hbr, fun h => absurd h (by decide)⟩, hS⟩
                      | 11, _, rfl =>
                        refine gstep rfl ?_
                        exact ow_move _ rfl (v := .int .i64 ((0 : Nat) : Int)) (hag 14 rfl) ⟨_, rfl, fun vs' h _ => h (fun e => by cases e), ⟨fun _ _ _ => hbr, fun h => absurd h (by decide)⟩, hS⟩
                      | 12, _, rfl =>
                        refine gstep rfl ?_
                        have h2 : ac.eval (.tmp 116) = .slice DA docs.length ddc := hdep 10 (by omega) (by kernel_rfl) (fun k _ h => by have h := of_decide_eq_true h; omega)
                        have h3 : ac.eval (.tmp 117) = .int .i64 ((0 : Nat) : Int) := hdep 11 (by omega) (by kernel_rfl) (fun k _ h => by have h := of_decide_eq_true h; omega)
                        exact ow_slice_from23 _ _ rfl DA docs.length ddc 0 h2 h3 (by omega) ⟨_, rfl, fun vs' h _ => h (fun e => by cases e), ⟨fun _ _ _ => hbr, fun h => absurd h (by decide)⟩, hS⟩
                      | 13, _, rfl =>
                        refine gstep rfl ?_
                        have h8 : W.ownsRow W6.heap.size 45 6 (ac.eval (.tmp 114)) (0 + 1) ((rows.take 0).flatten ++ (docC d.id dsq (.slice DNA dnn dnc) (.slice DCA d.chans.length dcc) (.slice DGA d.grants.length dgc) dgn)) := hdep 8 (by omega) (by kernel_rfl) (fun k _ h => by have h := of_decide_eq_true h; obtain rfl : k = 13 := (by omega); exact .inl rfl)
                        have h12 : ac.eval (.tmp 118) = .slice (if ddc = 0 then DA else DA.map (·.add (0 * 6))) (docs.length - 0) (ddc - 0) := hdep 12 (by omega) (by kernel_rfl) (fun k _ h => by have h := of_decide_eq_true h; omega)
                        refine ow_append_n (.tmp 114) (.tmp 118) 23 rfl W6.heap.size 45 i0 _ 6 104 Try.underlying23 HI0.out HZ0.out HZ1.out HZ2.out rfl (by omega) _ (0 + 1) ((rows.take 0).flatten ++ (docC d.id dsq (.slice DNA dnn dnc) (.slice DCA d.chans.length dcc) (.slice DGA d.grants.length dgc) dgn)) rfl h8 (if ddc = 0 then DA else DA.map (·.add (0 * 6))) (docs.length - 0) (ddc - 0) (rows.drop 0).flatten h12 (by rw [flat_len _ (fun r hr => HSRC.out.2.1 r (List.mem_of_mem_drop hr)), List.length_drop]; have := HSRC.out.1; rw [this]) (fun h => by
                            by_cases hcK : ddc = 0
                            · omega
                            · rw [if_neg hcK, Option.map_eq_none_iff] at h
                              have := HSRC.out.none_ h
                              omega) ((HSRC.out.below hS).drop hdc1 0 hk2) (fun x hx => by obtain ⟨r, hr, hx⟩ := List.mem_flatten.1 hx; exact HONE.out x (List.mem_flatten.2 ⟨r, List.mem_of_mem_drop hr, hx⟩)) (by unfold maxLen; omega) (by omega) hS.size ?_
                        intro v' w' hown hgr _
                        exact ⟨_, rfl, fun vs' h _ => by rw [h (fun e => by cases e)]; exact hown, ⟨fun _ _ h => absurd rfl h, fun h => absurd h (by decide)⟩, hS.grown hgr hS.size (fun j e => own_ge6 h8 j e)⟩
                      | n + 14, hi, _ => exact absurd hi (by omega)
                    case fin =>
                      intro vs W hS hF
                      have f13 : W.ownsRow W6.heap.size 45 6 (vs 13) (0 + 1 + (docs.length - 0)) ((rows.take 0).flatten ++ (docC d.id dsq (.slice DNA dnn dnc) (.slice DCA d.chans.length dcc) (.slice DGA d.grants.length dgc) dgn) ++ (rows.drop 0).flatten) := hF 13 (by omega) (fun k hk => decide_eq_false (by omega))
                      clear hF
                      change wpList _ _ _ _ (Act.put (Act.put (Act.put (Act.put (Act.put (Act.put (Act.put (Act.put (Act.put (Act.put (Act.put (Act.put (Act.put (Act.put _ (some 106) (vs 0)) (some 107) (vs 1)) (some 108) (vs 2)) (some 109) (vs 3)) (some 110) (vs 4)) (some 111) (vs 5)) (some 112) (vs 6)) (some 113) (vs 7)) (some 114) (vs 8)) (some 115) (vs 9)) (some 116) (vs 10)) (some 117) (vs 11)) (some 118) (vs 12)) (some 119) (vs 13)) W
                      generalize vs 0 = z0
                      generalize vs 1 = z1
                      generalize vs 2 = z2
                      generalize vs 3 = z3
                      generalize vs 4 = z4
                      generalize vs 5 = z5
                      generalize vs 6 = z6
                      generalize vs 7 = z7
                      generalize vs 8 = z8
                      generalize vs 9 = z9
                      generalize vs 10 = z10
                      generalize vs 11 = z11
                      generalize vs 12 = z12
                      generalize vs 13 = z13 at f13 ⊢
                      simp only [putAll, List.drop_succ_cons, List.drop_zero, Act.put, List.setIfInBounds_toArray, List.set_cons_zero, List.set_cons_succ]
                      clear vs
                      have hN6 : N < W6.heap.size := blk_lt HST6.out.row
                      have hg6 : g4 < W6.heap.size := blk_lt HT6.out
                      obtain ⟨nn, hnn⟩ : ∃ nn, nn = 0 + 1 + (docs.length - 0) := ⟨_, rfl⟩
                      rw [← hnn] at f13
                      have HN2 := Lib.hid hnn
                      clear hnn
                      obtain ⟨TA, tc, rfl⟩ := own_shape6 f13
                      have hrt := blk_below HT6.out hS
                      have hct : W.cell? ⟨g4, 1, none⟩ = some (.slice DA docs.length ddc) := cell_of_row W g4 1 _ _ _ hrt
                      have hft : W.frozen? ⟨g4, 1, none⟩ = false := frozen_of_row W g4 _ _ _ hrt
                      have HF13 := Lib.hid f13
                      have HRT7 := Lib.hid hrt
                      have HS7 := Lib.hid hS
                      clear f13 hrt hS hr1
                      go_upto_region 27 with fail
                      clear hct hft
                      obtain ⟨W7, hW7⟩ : ∃ W7, W7 = W.setCell ⟨g4, 1, none⟩ (.slice TA nn tc) := ⟨_, rfl⟩
                      rw [← hW7]
                      have hgr7 : W.grownBy W7 (some g4) := by rw [hW7]; exact grown_setCell (grown_refl _ _) _ _
                      have hrow7 : W7.heap[g4]? = some (.cells (stV sq (.slice TA nn tc) lv sv) 27 (0, 0)) := by rw [hW7]; exact blk_setCell (i := 1) HRT7.out _
                      have hlow7 : Low g4 W4 W7 := HLOW6.out.trans ((Low.of_all HS7.out).trans (fun k o hk h0 => blk_grown h0 hgr7 (fun e => by injection e with e; omega)))
                      have hbw7 : Below w.heap.size w W7 := (HBW6.out.trans (HS7.out.mono HBW6.out.size)).grown hgr7 (by have := HBW6.out.size; have := HS7.out.size; omega) (fun k e => by injection e with e; have := HN.out; omega)
                      have hs7 : W4.heap.size ≤ W7.heap.size := by have := HG4.out; have := HS7.out.size; have := hgr7.size; omega
                      have hlw7 : Low B0 w W7 := Low.of_below hbw7 (by have := HN.out; omega)
                      have hown7 := own_keep6 HF13.out HRT7.out (by decide) hgr7
                      have hdrow7 : DRow B0 W7 (rows.take 0 ++ ([(docC d.id dsq (.slice DNA dnn dnc) (.slice DCA d.chans.length dcc) (.slice DGA d.grants.length dgc) dgn)] ++ rows.drop 0)) (ins docs 0 d) := by
                        have h1 := (HROWS.out.low (Low.of_all HS7.out)).low (fun k o hk h0 => blk_grown h0 hgr7 (fun e => by injection e with e; omega) : Low B0 W W7)
                        exact (h1.take 0).append ((DRow.single (HDR.out.low1 (fun _ _ => trivial) hlw7)).append (h1.drop 0))
                      have hfit := small_ins (k := 0) HSM.out HSD.out
                      have HTT := Lib.hid (show Stt W7.heap.size g4 (ins docs 0 d) sq (.slice TA nn tc) lv sv W7 from
                        ⟨DS.of_own (B := W6.heap.size) (by rw [ins_length docs 0 d hk2, ← HN2.out]; simpa [List.flatten_append, List.append_assoc] using hown7) hdrow7 (by have := HG4.out; omega) (Nat.le_refl _), hrow7, Nat.le_refl _, ⟨hfit.2.2, hfit.2.1, by have := hfit.1; omega⟩⟩)
                      have HSS := Lib.hid (HST.out.keep hBN (fun k o hk h0 => hlow7 k o (by omega) h0) hs7)
                      have HRD7 := Lib.hid (hlow7 (N + 1) _ hNg HRD.out)
                      have HRL7 := Lib.hid (HRT.out.low (by rw [← HG4.out]; exact hlow7))
                      have HB7 := Lib.hid hbw7
                      have hs27 := seen_ins (k := 0) (u := u) HNU.out (fun e he => HNI.out e he) (fun c hc hm => HAPD.out c hc ((HKO.out.2 c).2 hm))
                      have HSI := Lib.hid hs27
                      have HCI := Lib.hid (chans_ins (docs := docs) (k := 0) (d := d) (u := u) HNU.out)
                      have HBI := Lib.hid (fun id => by_ins (docs := docs) (k := 0) (d := d) (u := u) (id := id) HNU.out)
                      have HBN := Lib.hid (by_new (docs := docs) (k := 0) (d := d) (u := u) HNU.out (fun e he => HNI.out e he) (fun c hc hm => HAPD.out c hc ((HKO.out.2 c).2 hm)))
                      clear hW7 hgr7 hrow7 hlow7 hbw7 hs7 hlw7 hown7 hdrow7 hfit hs27 HST HRD HRT HBW HG4 HLOW6 HST6 HRD6 HRT6 HBW6 HF13 HRT7 HS7 HROWS HSRC HONE HI0 HZ0 HZ1 HZ2 HT6 hN6 hg6
                      have hq0 : W7.cell? ⟨N + 1, 0 + 0, none⟩ = some (encStr d.id) := cell_of_row W7 (N + 1) 0 _ _ _ HRD7.out
                      refine region_g 23 (fun _ _ => false) (fun i vs W => match i with
                          | 0 => vs 0 = .agg (stV sq (.slice TA nn tc) lv sv)
                          | 1 => vs 1 = encStr u
                          | 2 => ∃ l, RT W (vs 2) l ∧ Keys l (chansOf docs u)
                          | 3 => vs 3 = .slice OA lo.length oc
                          | 4 => vs 4 = .bool true
                          | 5 => vs 5 = .bool false
                          | 6 => vs 6 = .bool false
                          | 7 => vs 7 = .agg (stV sq (.slice TA nn tc) lv sv)
                          | 8 => vs 8 = encStr u
                          | 9 => ∃ l, RT W (vs 9) l ∧ Keys l (seenOf docs u)
                          | 10 => vs 10 = .agg (stV sq (.slice DA docs.length ddc) lv sv)
                          | 11 => vs 11 = encStr u
                          | 12 => ∃ l, RT W (vs 12) l ∧ Keys l (seenOf docs u)
                          | 13 => vs 13 = .bool true
                          | 14 => vs 14 = .bool false
                          | 15 => vs 15 = .bool false
                          | 16 => vs 16 = .bool false
                          | 17 => vs 17 = .agg (stV sq (.slice TA nn tc) lv sv)
                          | 18 => vs 18 = encStr u
                          | 19 => vs 19 = .pointer (some ⟨(N + 1), 0 + 0, none⟩)
                          | 20 => vs 20 = encStr d.id
                          | 21 => vs 21 = .bool false
                          | 22 => vs 22 = .bool false
                          | _ => True) (fun _ W W' => Below W.heap.size W W') (fun W => Below W7.heap.size W7 W) (by kernel_rfl) (by kernel_rfl) ?hsta ?h0a ?stepa ?fina
                      case hsta =>
                        intro i k vs W W' _ _ _ h hG
                        match i, h with
                        | 0, h => exact h
                        | 1, h => exact h
                        | 2, ⟨l, e1, e2⟩ => exact ⟨l, e1.below hG, e2⟩
                        | 3, h => exact h
                        | 4, h => exact h
                        | 5, h => exact h
                        | 6, h => exact h
                        | 7, h => exact h
                        | 8, h => exact h
                        | 9, ⟨l, e1, e2⟩ => exact ⟨l, e1.below hG, e2⟩
                        | 10, h => exact h
                        | 11, h => exact h
                        | 12, ⟨l, e1, e2⟩ => exact ⟨l, e1.below hG, e2⟩
                        | 13, h => exact h
                        | 14, h => exact h
                        | 15, h => exact h
                        | 16, h => exact h
                        | 17, h => exact h
                        | 18, h => exact h
                        | 19, h => exact h
                        | 20, h => exact h
                        | 21, h => exact h
                        | 22, h => exact h
                        | n + 23, _ => trivial
                      case h0a => exact (Below.refl _ _).drew
                      case stepa =>
                        intro i op hi ho ac W hS hag hdep
                        have hbr : Below W.heap.size W W := Below.refl _ _
                        match i, hi, ho with
                        | 0, _, rfl =>
                          refine gstep rfl ?_
                          exact ow_load_row 27 _ rfl g4 (hag 15 rfl) 27 _ (0, 0) _ (blk_below HTT.out.row hS) Try.underlying27 rfl (by kernel_rfl) ⟨_, rfl, fun vs' h _ => h (fun e => by cases e), hbr, hS⟩
                        | 1, _, rfl =>
                          refine gstep rfl ?_
                          exact ow_move _ rfl (v := encStr u) (hag 2 rfl) ⟨_, rfl, fun vs' h _ => h (fun e => by cases e), hbr, hS⟩
                        | 2, _, rfl =>
                          have h1 : ac.eval (.tmp 121) = .agg (stV sq (.slice TA nn tc) lv sv) := hdep 0 (by omega) (by kernel_rfl) (fun k _ h => by cases h)
                          have h2 : ac.eval (.tmp 122) = encStr u := hdep 1 (by omega) (by kernel_rfl) (fun k _ h => by cases h)
                          refine gstep rfl ?_
                          refine ow_call Try.func14 (by kernel_rfl) rfl _ _ rfl (vs := #[.agg (stV sq (.slice TA nn tc) lv sv), encStr u]) (by simp only [List.map_toArray, List.map_cons, List.map_nil, h1, h2]) ?_
                          refine ((HTT.out.below hS).of u).mono ?_
                          rw [HCI.out]
                          rintro e w' ⟨v, l', rfl, hr, hk, hbb⟩
                          exact ⟨_, rfl, ⟨_, rfl, fun vs' h _ => ⟨l', by rw [h (fun e => by cases e)]; exact hr, hk⟩, hbb, hS.trans (hbb.mono hS.size)⟩⟩
                        | 3, _, rfl =>
                          refine gstep rfl ?_
                          exact ow_move _ rfl (v := .slice OA lo.length oc) (hag 9 rfl) ⟨_, rfl, fun vs' h _ => h (fun e => by cases e), hbr, hS⟩
                        | 4, _, rfl =>
                          have h3 : ac.eval (.tmp 124) = .slice OA lo.length oc := hdep 3 (by omega) (by kernel_rfl) (fun k _ h => by cases h)
                          refine gstep rfl ?_
                          obtain ⟨l1, hr1, hk1⟩ : ∃ l, RT W (ac.eval (.tmp 123)) l ∧ Keys l (chansOf docs u) := hdep 2 (by omega) (by kernel_rfl) (fun k _ h => by cases h)
                          refine ow_call Try.func13 (by kernel_rfl) rfl _ _ rfl (vs := #[ac.eval (.tmp 123), .slice OA lo.length oc]) (by simp only [List.map_toArray, List.map_cons, List.map_nil, h3]) ?_
                          refine (Same_any _ _ l1 lo W hr1 (HRL7.out.below hS)).mono ?_
                          rw [decide_eq_true (hk1.uniq HKO.out (fun _ => Iff.rfl))]
                          rintro e w' ⟨rfl, hbb⟩
                          exact ⟨_, rfl, ⟨_, rfl, fun vs' h _ => h (fun e => by cases e), hbb, hS.trans (hbb.mono hS.size)⟩⟩
                        | 5, _, rfl =>
                          have h1 : ac.eval (.tmp 125) = .bool true := hdep 4 (by omega) (by kernel_rfl) (fun k _ h => by cases h)
                          refine gstep rfl ?_
                          exact ow_not _ 4 rfl true h1 ⟨_, rfl, fun vs' h _ => h (fun e => by cases e), hbr, hS⟩
                        | 6, _, rfl =>
                          have h1 : ac.eval (.tmp 126) = .bool false := hdep 5 (by omega) (by kernel_rfl) (fun k _ h => by cases h)
                          refine gstep rfl ?_
                          exact ow_move _ rfl h1 ⟨_, rfl, fun vs' h _ => h (fun e => by cases e), hbr, hS⟩
                        | 7, _, rfl =>
                          refine gstep (wanted_ok rfl rfl (hdep 6 (by omega) (by kernel_rfl) (fun k _ h => by cases h) : ac.eval (.tmp 127) = .bool false)) ?_
                          exact ow_load_row 27 _ rfl g4 (hag 15 rfl) 27 _ (0, 0) _ (blk_below HTT.out.row hS) Try.underlying27 rfl (by kernel_rfl) ⟨_, rfl, fun vs' h _ => h (fun e => by cases e), hbr, hS⟩
                        | 8, _, rfl =>
                          refine gstep (wanted_ok rfl rfl (hdep 6 (by omega) (by kernel_rfl) (fun k _ h => by cases h) : ac.eval (.tmp 127) = .bool false)) ?_
                          exact ow_move _ rfl (v := encStr u) (hag 2 rfl) ⟨_, rfl, fun vs' h _ => h (fun e => by cases e), hbr, hS⟩
                        | 9, _, rfl =>
                          have h1 : ac.eval (.tmp 128) = .agg (stV sq (.slice TA nn tc) lv sv) := hdep 7 (by omega) (by kernel_rfl) (fun k _ h => by cases h)
                          have h2 : ac.eval (.tmp 129) = encStr u := hdep 8 (by omega) (by kernel_rfl) (fun k _ h => by cases h)
                          refine gstep (wanted_ok rfl rfl (hdep 6 (by omega) (by kernel_rfl) (fun k _ h => by cases h) : ac.eval (.tmp 127) = .bool false)) ?_
                          refine ow_call Try.func18 (by kernel_rfl) rfl _ _ rfl (vs := #[.agg (stV sq (.slice TA nn tc) lv sv), encStr u]) (by simp only [List.map_toArray, List.map_cons, List.map_nil, h1, h2]) ?_
                          refine ((HTT.out.below hS).all u).mono ?_
                          rw [HSI.out]
                          rintro e w' ⟨v, l', rfl, hr, hk, hbb⟩
                          exact ⟨_, rfl, ⟨_, rfl, fun vs' h _ => ⟨l', by rw [h (fun e => by cases e)]; exact hr, hk⟩, hbb, hS.trans (hbb.mono hS.size)⟩⟩
                        | 10, _, rfl =>
                          refine gstep (wanted_ok rfl rfl (hdep 6 (by omega) (by kernel_rfl) (fun k _ h => by cases h) : ac.eval (.tmp 127) = .bool false)) ?_
                          exact ow_load_row 27 _ rfl N (hag 4 rfl) 27 _ (0, 0) _ (blk_below HSS.out.row hS) Try.underlying27 rfl (by kernel_rfl) ⟨_, rfl, fun vs' h _ => h (fun e => by cases e), hbr, hS⟩
                        | 11, _, rfl =>
                          refine gstep (wanted_ok rfl rfl (hdep 6 (by omega) (by kernel_rfl) (fun k _ h => by cases h) : ac.eval (.tmp 127) = .bool false)) ?_
                          exact ow_move _ rfl (v := encStr u) (hag 2 rfl) ⟨_, rfl, fun vs' h _ => h (fun e => by cases e), hbr, hS⟩
                        | 12, _, rfl =>
                          have h1 : ac.eval (.tmp 131) = .agg (stV sq (.slice DA docs.length ddc) lv sv) := hdep 10 (by omega) (by kernel_rfl) (fun k _ h => by cases h)
                          have h2 : ac.eval (.tmp 132) = encStr u := hdep 11 (by omega) (by kernel_rfl) (fun k _ h => by cases h)
                          refine gstep (wanted_ok rfl rfl (hdep 6 (by omega) (by kernel_rfl) (fun k _ h => by cases h) : ac.eval (.tmp 127) = .bool false)) ?_
                          refine ow_call Try.func18 (by kernel_rfl) rfl _ _ rfl (vs := #[.agg (stV sq (.slice DA docs.length ddc) lv sv), encStr u]) (by simp only [List.map_toArray, List.map_cons, List.map_nil, h1, h2]) ?_
                          refine ((HSS.out.below hS).all u).mono ?_
                          rintro e w' ⟨v, l', rfl, hr, hk, hbb⟩
                          exact ⟨_, rfl, ⟨_, rfl, fun vs' h _ => ⟨l', by rw [h (fun e => by cases e)]; exact hr, hk⟩, hbb, hS.trans (hbb.mono hS.size)⟩⟩
                        | 13, _, rfl =>
                          refine gstep (wanted_ok rfl rfl (hdep 6 (by omega) (by kernel_rfl) (fun k _ h => by cases h) : ac.eval (.tmp 127) = .bool false)) ?_
                          obtain ⟨l1, hr1, hk1⟩ : ∃ l, RT W (ac.eval (.tmp 130)) l ∧ Keys l (seenOf docs u) := hdep 9 (by omega) (by kernel_rfl) (fun k _ h => by cases h)
                          obtain ⟨l2, hr2, hk2⟩ : ∃ l, RT W (ac.eval (.tmp 133)) l ∧ Keys l (seenOf docs u) := hdep 12 (by omega) (by kernel_rfl) (fun k _ h => by cases h)
                          refine ow_call Try.func13 (by kernel_rfl) rfl _ _ rfl (vs := #[ac.eval (.tmp 130), ac.eval (.tmp 133)]) (by simp only [List.map_toArray, List.map_cons, List.map_nil]) ?_
                          refine (Same_any _ _ l1 l2 W hr1 hr2).mono ?_
                          rw [decide_eq_true (hk1.uniq hk2 (fun _ => Iff.rfl))]
                          rintro e w' ⟨rfl, hbb⟩
                          exact ⟨_, rfl, ⟨_, rfl, fun vs' h _ => h (fun e => by cases e), hbb, hS.trans (hbb.mono hS.size)⟩⟩
                        | 14, _, rfl =>
                          have h1 : ac.eval (.tmp 134) = .bool true := hdep 13 (by omega) (by kernel_rfl) (fun k _ h => by cases h)
                          refine gstep (wanted_ok rfl rfl (hdep 6 (by omega) (by kernel_rfl) (fun k _ h => by cases h) : ac.eval (.tmp 127) = .bool false)) ?_
                          exact ow_not _ 4 rfl true h1 ⟨_, rfl, fun vs' h _ => h (fun e => by cases e), hbr, hS⟩
                        | 15, _, rfl =>
                          have h1 : ac.eval (.tmp 127) = .bool false := hdep 6 (by omega) (by kernel_rfl) (fun k _ h => by cases h)
                          have h2 : ac.eval (.tmp 135) = .bool false := hdep 14 (by omega) (by kernel_rfl) (fun k _ h => by cases h)
                          refine gstep rfl ?_
                          exact ow_pick _ _ _ rfl false h1 (by simpa using h2) ⟨_, rfl, fun vs' h _ => h (fun e => by cases e), hbr, hS⟩
                        | 16, _, rfl =>
                          have h1 : ac.eval (.tmp 136) = .bool false := hdep 15 (by omega) (by kernel_rfl) (fun k _ h => by cases h)
                          refine gstep rfl ?_
                          exact ow_move _ rfl h1 ⟨_, rfl, fun vs' h _ => h (fun e => by cases e), hbr, hS⟩
                        | 17, _, rfl =>
                          refine gstep (wanted_ok rfl rfl (hdep 16 (by omega) (by kernel_rfl) (fun k _ h => by cases h) : ac.eval (.tmp 137) = .bool false)) ?_
                          exact ow_load_row 27 _ rfl g4 (hag 15 rfl) 27 _ (0, 0) _ (blk_below HTT.out.row hS) Try.underlying27 rfl (by kernel_rfl) ⟨_, rfl, fun vs' h _ => h (fun e => by cases e), hbr, hS⟩
                        | 18, _, rfl =>
                          refine gstep (wanted_ok rfl rfl (hdep 16 (by omega) (by kernel_rfl) (fun k _ h => by cases h) : ac.eval (.tmp 137) = .bool false)) ?_
                          exact ow_move _ rfl (v := encStr u) (hag 2 rfl) ⟨_, rfl, fun vs' h _ => h (fun e => by cases e), hbr, hS⟩
                        | 19, _, rfl =>
                          refine gstep (wanted_ok rfl rfl (hdep 16 (by omega) (by kernel_rfl) (fun k _ h => by cases h) : ac.eval (.tmp 137) = .bool false)) ?_
                          exact ow_field fld45_0 _ rfl (N + 1) (0) (hag 5 rfl) ⟨_, rfl, fun vs' h _ => h (fun e => by cases e), hbr, hS⟩
                        | 20, _, rfl =>
                          have hp : ac.eval (.tmp 140) = .pointer (some ⟨(N + 1), 0 + 0, none⟩) := hdep 19 (by omega) (by kernel_rfl) (fun k _ h => by cases h)
                          refine gstep (wanted_ok rfl rfl (hdep 16 (by omega) (by kernel_rfl) (fun k _ h => by cases h) : ac.eval (.tmp 137) = .bool false)) ?_
                          exact ow_load_str _ 9 rfl (N + 1) (0 + 0) hp _ (below_cell hS hq0) Try.underlying9 ⟨_, rfl, fun vs' h _ => h (fun e => by cases e), hbr, hS⟩
                        | 21, _, rfl =>
                          have h1 : ac.eval (.tmp 138) = .agg (stV sq (.slice TA nn tc) lv sv) := hdep 17 (by omega) (by kernel_rfl) (fun k _ h => by cases h)
                          have h2 : ac.eval (.tmp 139) = encStr u := hdep 18 (by omega) (by kernel_rfl) (fun k _ h => by cases h)
                          have h3 : ac.eval (.tmp 141) = encStr d.id := hdep 20 (by omega) (by kernel_rfl) (fun k _ h => by cases h)
                          refine gstep (wanted_ok rfl rfl (hdep 16 (by omega) (by kernel_rfl) (fun k _ h => by cases h) : ac.eval (.tmp 137) = .bool false)) ?_
                          refine ow_call Try.func12 (by kernel_rfl) rfl _ _ rfl (vs := #[.agg (stV sq (.slice TA nn tc) lv sv), encStr u, encStr d.id]) (by simp only [List.map_toArray, List.map_cons, List.map_nil, h1, h2, h3]) ?_
                          refine ((HTT.out.below hS).sees u d.id).mono ?_
                          rw [HBN.out]
                          rintro e w' ⟨rfl, hbb⟩
                          exact ⟨_, rfl, ⟨_, rfl, fun vs' h _ => h (fun e => by cases e), hbb, hS.trans (hbb.mono hS.size)⟩⟩
                        | 22, _, rfl =>
                          have h1 : ac.eval (.tmp 137) = .bool false := hdep 16 (by omega) (by kernel_rfl) (fun k _ h => by cases h)
                          have h2 : ac.eval (.tmp 142) = .bool false := hdep 21 (by omega) (by kernel_rfl) (fun k _ h => by cases h)
                          refine gstep rfl ?_
                          exact ow_pick _ _ _ rfl false h1 (by simpa using h2) ⟨_, rfl, fun vs' h _ => h (fun e => by cases e), hbr, hS⟩
                        | n + 23, hi, _ => exact absurd hi (by omega)
                      case fina =>
                        intro vs W hS hF
                        have e22 : vs 22 = .bool false := hF 22 (by omega) (fun _ _ => rfl)
                        clear hF
                        change wpList _ _ _ _ (Act.put (Act.put (Act.put (Act.put (Act.put (Act.put (Act.put (Act.put (Act.put (Act.put (Act.put (Act.put (Act.put (Act.put (Act.put (Act.put (Act.put (Act.put (Act.put (Act.put (Act.put (Act.put (Act.put _ (some 121) (vs 0)) (some 122) (vs 1)) (some 123) (vs 2)) (some 124) (vs 3)) (some 125) (vs 4)) (some 126) (vs 5)) (some 127) (vs 6)) (some 128) (vs 7)) (some 129) (vs 8)) (some 130) (vs 9)) (some 131) (vs 10)) (some 132) (vs 11)) (some 133) (vs 12)) (some 134) (vs 13)) (some 135) (vs 14)) (some 136) (vs 15)) (some 137) (vs 16)) (some 138) (vs 17)) (some 139) (vs 18)) (some 140) (vs 19)) (some 141) (vs 20)) (some 142) (vs 21)) (some 143) (vs 22)) W
                        rw [e22]
                        clear e22
                        generalize vs 0 = z0
                        generalize vs 1 = z1
                        generalize vs 2 = z2
                        generalize vs 3 = z3
                        generalize vs 4 = z4
                        generalize vs 5 = z5
                        generalize vs 6 = z6
                        generalize vs 7 = z7
                        generalize vs 8 = z8
                        generalize vs 9 = z9
                        generalize vs 10 = z10
                        generalize vs 11 = z11
                        generalize vs 12 = z12
                        generalize vs 13 = z13
                        generalize vs 14 = z14
                        generalize vs 15 = z15
                        generalize vs 16 = z16
                        generalize vs 17 = z17
                        generalize vs 18 = z18
                        generalize vs 19 = z19
                        generalize vs 20 = z20
                        generalize vs 21 = z21
                        simp only [putAll, List.drop_succ_cons, List.drop_zero, Act.put, List.setIfInBounds_toArray, List.set_cons_zero, List.set_cons_succ]
                        clear vs
                        rename World => W8
                        have HSS8 := Lib.hid (HSS.out.below hS)
                        have HTT8 := Lib.hid (HTT.out.below hS)
                        have HB8 := Lib.hid (HB7.out.trans (hS.mono HB7.out.size))
                        clear hS hq0 HSS HTT HB7 HRD7 HRL7 HSI HCI HBN
                        go_wp2_with fail
                        go_loopw [16] (fun vi wr => ∃ q : Nat, vi = .int .i64 (q : Int) ∧ q ≤ docs.length ∧ Below W8.heap.size W8 wr) (fun vi _ => docs.length - (intOf vi).toNat)
                        case atStart => exact ⟨0, rfl, Nat.zero_le _, Below.refl _ _⟩
                        case round =>
                          obtain ⟨q, rfl, hq, hbl⟩ := hrel
                          have HBL := Lib.hid hbl
                          clear hbl
                          have hr1 : wr.cell? ⟨N, 1, none⟩ = some (.slice DA docs.length ddc) := cell_of_row wr N 1 _ _ _ (blk_below HSS8.out.row HBL.out)
                          rcases (show q = docs.length ∨ q < docs.length by omega) with rfl | hql
                          · have hd : decide ((docs.length : Int) < (docs.length : Int)) = false := by simp
                            go_wp2_with fail
                            refine (awakeL (HB8.out.trans (HBL.out.mono HB8.out.size))).mono ?_
                            rintro e w7 ⟨rfl, hb7⟩
                            go_wp2_with fail
                            go_ret
                            exact ⟨rfl, hb7⟩
                          · exact absurd hql (by omega)
                · have hd : decide ((q : Int) < (docs.length : Int)) = true := by simp; omega
                  have hd' : decide (q < docs.length) = true := by simp; omega
                  obtain ⟨bd, od, rfl, hbd, hcd⟩ := HDCELL.out.resolve_left (by omega)
                  have hqr : q < rows.length := by rw [HROWS.out.1]; exact hql
                  obtain ⟨e, he⟩ : ∃ e, e = docs[q] := ⟨_, rfl⟩
                  have hex : wr.cell? ⟨bd, od + q * 6 + 0, none⟩ = some (encStr e.id) := by
                    have h1 := HROWS.out.2 q rows[q] e (List.getElem?_eq_getElem hqr) (by rw [he]; exact List.getElem?_eq_getElem hql)
                    obtain ⟨sq1, nd1, ch1, gr1, gn1, h2, _⟩ := h1
                    exact below_cell HBL.out (hcd q 0 _ _ (List.getElem?_eq_getElem hqr) (by rw [h2]; rfl))
                  have hq0 : wr.cell? ⟨N + 1, 0 + 0, none⟩ = some (encStr d.id) := cell_of_row wr (N + 1) 0 _ _ _ (blk_below HRD3.out HBL.out)
                  have HNI1 := Lib.hid (show e.id ≠ d.id → ∀ x ∈ docs.take (q + 1), x.id ≠ d.id from by
                    intro h x hx
                    rw [← List.take_append_getElem hql, ← he] at hx
                    rcases List.mem_append.1 hx with hx | hx
                    · exact HNI.out x hx
                    · rw [List.mem_singleton.1 hx]; exact h)
                  clear hcd
                  go_upto_region 20 with fail
                  refine region_f 9 (fun i vs W => match i with
                      | 0 => vs 0 = .pointer (some ⟨N, 0 + 1, none⟩)
                      | 1 => vs 1 = .slice (some ⟨bd, od, none⟩) docs.length ddc
                      | 2 => vs 2 = .int .i64 (q : Int)
                      | 3 => vs 3 = .pointer (some ⟨bd, od + q * 6, none⟩)
                      | 4 => vs 4 = .pointer (some ⟨bd, od + q * 6 + 0, none⟩)
                      | 5 => vs 5 = encStr e.id
                      | 6 => vs 6 = .pointer (some ⟨(N + 1), 0 + 0, none⟩)
                      | 7 => vs 7 = encStr d.id
                      | 8 => vs 8 = .bool (e.id == d.id)
                      | _ => True) (fun _ W W' => Below W.heap.size W W') (fun W => Below wr.heap.size wr W) (by kernel_rfl) (by kernel_rfl) ?hstg ?h0g ?stepg ?fing
                  case hstg =>
                    intro i k vs W W' _ _ h hG
                    match i, h with
                    | 0, h => exact h
                    | 1, h => exact h
                    | 2, h => exact h
                    | 3, h => exact h
                    | 4, h => exact h
                    | 5, h => exact h
                    | 6, h => exact h
                    | 7, h => exact h
                    | 8, h => exact h
                    | n + 9, _ => trivial
                  case h0g => exact (Below.refl _ _).drew
                  case stepg =>
                    intro i op hi ho ac W hS hag hdep
                    have hbr : Below W.heap.size W W := Below.refl _ _
                    match i, hi, ho with
                    | 0, _, rfl =>
                      exact ow_field fld27_1 _ rfl N (0) (hag 4 rfl) ⟨_, rfl, fun vs' h _ => h (fun e => by cases e), hbr, hS⟩
                    | 1, _, rfl =>
                      have hp : ac.eval (.tmp 84) = .pointer (some ⟨N, 0 + 1, none⟩) := hdep 0 (by omega) (by kernel_rfl)
                      exact ow_load_slice' _ 45 23 rfl N (0 + 1) hp (some ⟨bd, od, none⟩) docs.length ddc (below_cell hS hr1) Try.underlying23 ⟨_, rfl, fun vs' h _ => h (fun e => by cases e), hbr, hS⟩
                    | 2, _, rfl =>
                      exact ow_move _ rfl (v := .int .i64 (q : Int)) (hag 13 rfl) ⟨_, rfl, fun vs' h _ => h (fun e => by cases e), hbr, hS⟩
                    | 3, _, rfl =>
                      have hs : ac.eval (.tmp 85) = .slice (some ⟨bd, od, none⟩) docs.length ddc := hdep 1 (by omega) (by kernel_rfl)
                      have hi : ac.eval (.tmp 86) = .int .i64 (q : Int) := hdep 2 (by omega) (by kernel_rfl)
                      exact ow_index_n _ _ 45 23 6 rfl bd od docs.length ddc q hs hi hql Try.underlying23 info45 ⟨_, rfl, fun vs' h _ => h (fun e => by cases e), hbr, hS⟩
                    | 4, _, rfl =>
                      have hp : ac.eval (.tmp 87) = .pointer (some ⟨bd, od + q * 6, none⟩) := hdep 3 (by omega) (by kernel_rfl)
                      exact ow_field fld45_0 _ rfl bd (od + q * 6) hp ⟨_, rfl, fun vs' h _ => h (fun e => by cases e), hbr, hS⟩
                    | 5, _, rfl =>
                      have hp : ac.eval (.tmp 88) = .pointer (some ⟨bd, od + q * 6 + 0, none⟩) := hdep 4 (by omega) (by kernel_rfl)
                      exact ow_load_str _ 9 rfl bd (od + q * 6 + 0) hp _ (below_cell hS hex) Try.underlying9 ⟨_, rfl, fun vs' h _ => h (fun e => by cases e), hbr, hS⟩
                    | 6, _, rfl =>
                      exact ow_field fld45_0 _ rfl (N + 1) (0) (hag 5 rfl) ⟨_, rfl, fun vs' h _ => h (fun e => by cases e), hbr, hS⟩
                    | 7, _, rfl =>
                      have hp : ac.eval (.tmp 90) = .pointer (some ⟨(N + 1), 0 + 0, none⟩) := hdep 6 (by omega) (by kernel_rfl)
                      exact ow_load_str _ 9 rfl (N + 1) (0 + 0) hp _ (below_cell hS hq0) Try.underlying9 ⟨_, rfl, fun vs' h _ => h (fun e => by cases e), hbr, hS⟩
                    | 8, _, rfl =>
                      have h1 : ac.eval (.tmp 89) = encStr e.id := hdep 5 (by omega) (by kernel_rfl)
                      have h2 : ac.eval (.tmp 91) = encStr d.id := hdep 7 (by omega) (by kernel_rfl)
                      exact ow_eql_str _ _ _ rfl _ _ h1 h2 ⟨_, rfl, fun vs' h _ => h (fun e => by cases e), hbr, hS⟩
                    | n + 9, hi, _ => exact absurd hi (by omega)
                  case fing =>
                    intro vs W hS hF
                    have e8 : vs 8 = .bool (e.id == d.id) := hF 8 (by omega)
                    clear hF
                    change wpList _ _ _ _ (Act.put (Act.put (Act.put (Act.put (Act.put (Act.put (Act.put (Act.put (Act.put _ (some 84) (vs 0)) (some 85) (vs 1)) (some 86) (vs 2)) (some 87) (vs 3)) (some 88) (vs 4)) (some 89) (vs 5)) (some 90) (vs 6)) (some 91) (vs 7)) (some 92) (vs 8)) W
                    rw [e8]
                    clear e8
                    generalize vs 0 = z0
                    generalize vs 1 = z1
                    generalize vs 2 = z2
                    generalize vs 3 = z3
                    generalize vs 4 = z4
                    generalize vs 5 = z5
                    generalize vs 6 = z6
                    generalize vs 7 = z7
                    simp only [putAll, List.drop_succ_cons, List.drop_zero, Act.put, List.setIfInBounds_toArray, List.set_cons_zero, List.set_cons_succ]
                    clear vs
                    have HBI := Lib.hid (HBL.out.trans (hS.mono HBL.out.size))
                    clear hS hr1 hex hq0 HBL
                    by_cases hxu : e.id = d.id
                    · have hqq : (e.id == d.id) = true := by simpa using hxu
                      rw [hqq]
                      go_wp2_with fail
                      refine (awakeL (HB3.out.trans (HBI.out.mono HB3.out.size))).mono ?_
                      rintro e w7 ⟨rfl, hb7⟩
                      go_wp2_with fail
                      go_ret
                      exact ⟨rfl, hb7⟩
                    · have hqq : (e.id == d.id) = false := by simpa using hxu
                      rw [hqq]
                      have HXU := Lib.hid hxu
                      clear hxu hqq
                      go_wp2_with fail
                      go_roundw
                      case rel => exact ⟨q + 1, rfl, by omega, HBI.out, HNI1.out HXU.out⟩
                      case measure => simp [intOf]; omega
            · have hd : decide ((q : Int) < (d.chans.length : Int)) = true := by simp; omega
              have hd' : decide (q < d.chans.length) = true := by simp; omega
              obtain ⟨bc, oc1, rfl, hcs⟩ := HCE.out.resolve_left (by omega)
              obtain ⟨cs1, -, hcc, rfl⟩ := hcs q hql
              have HCX := Lib.hid (show w.cell? ⟨bc, oc1 + q, none⟩ = some (encStr (at_ d.chans q)) from by have := hcc.2 0 _ rfl; simpa using this)
              have HNC1 := Lib.hid (show at_ d.chans q ∉ lo → ∀ c ∈ d.chans.take (q + 1), c ∉ lo from by
                intro h c hc
                rcases (mem_take_succ hql c).1 hc with hc | hc
                · exact HNC.out c hc
                · rw [← hc]; exact h)
              clear hcs hcc
              go_wp2_with fail
              clear hq3
              go_loopw [12] (fun vi wq => ∃ q2 : Nat, vi = .int .i64 (q2 : Int) ∧ q2 ≤ lo.length ∧ Below w3.heap.size w3 wq ∧ ∀ x ∈ lo.take q2, at_ d.chans q ≠ x) (fun vi _ => lo.length - (intOf vi).toNat)
              case atStart => exact ⟨0, rfl, Nat.zero_le _, HBL.out, fun c hc => absurd hc (by simp)⟩
              case round =>
                clear HBL HNC
                obtain ⟨q2, rfl, hq2, hbl, hnx⟩ := hrel
                have HBL := Lib.hid hbl
                have HNX := Lib.hid hnx
                clear hbl hnx
                rcases (show q2 = lo.length ∨ q2 < lo.length by omega) with rfl | hq2l
                · have hdd : decide ((lo.length : Int) < (lo.length : Int)) = false := by simp
                  rw [List.take_length] at HNX
                  go_wp2_with fail
                  go_roundw
                  case rel => exact ⟨q + 1, rfl, by omega, HBL.out, HNC1.out (fun hm => HNX.out _ hm rfl)⟩
                  case measure => simp [intOf]; omega
                · have hdd : decide ((q2 : Int) < (lo.length : Int)) = true := by simp; omega
                  have hdd' : decide (q2 < lo.length) = true := by simp; omega
                  obtain ⟨bo, oo, rfl, hlo⟩ := HRO.out.resolve_left (by omega)
                  have hcx : wr.cell? ⟨bc, oc1 + q, none⟩ = some (encStr (at_ d.chans q)) := below_cell HBL.out (below_cell HB3.out HCX.out)
                  have hlx : wr.cell? ⟨bo, oo + q2, none⟩ = some (encStr (at_ lo q2)) := below_cell HBL.out (hlo q2 hq2l)
                  have hq3 : wr.cell? ⟨N + 1, 3, none⟩ = some (.slice (some ⟨bc, oc1, none⟩) d.chans.length dcc) := cell_of_row wr (N + 1) 3 _ _ _ (blk_below HRD3.out HBL.out)
                  have HNX1 := Lib.hid (show at_ d.chans q ≠ at_ lo q2 → ∀ x ∈ lo.take (q2 + 1), at_ d.chans q ≠ x from by
                    intro h x hx
                    rcases (mem_take_succ hq2l x).1 hx with hx | hx
                    · exact HNX.out x hx
                    · rw [← hx]; exact h)
                  clear hlo
                  go_upto_region 15 with fail
                  refine region_f 10 (fun i vs W => match i with
                      | 0 => vs 0 = .pointer (some ⟨(N + 1), 0 + 3, none⟩)
                      | 1 => vs 1 = .slice (some ⟨bc, oc1, none⟩) d.chans.length dcc
                      | 2 => vs 2 = .int .i64 (q : Int)
                      | 3 => vs 3 = .pointer (some ⟨bc, oc1 + (q), none⟩)
                      | 4 => vs 4 = encStr (at_ d.chans q)
                      | 5 => vs 5 = .slice (some ⟨bo, oo, none⟩) lo.length oc
                      | 6 => vs 6 = .int .i64 (q2 : Int)
                      | 7 => vs 7 = .pointer (some ⟨bo, oo + (q2), none⟩)
                      | 8 => vs 8 = encStr (at_ lo q2)
                      | 9 => vs 9 = .bool (at_ d.chans q == at_ lo q2)
                      | _ => True) (fun _ W W' => Below W.heap.size W W') (fun W => Below wr.heap.size wr W) (by kernel_rfl) (by kernel_rfl) ?hstf ?h0f ?stepf ?finf
                  case hstf =>
                    intro i k vs W W' _ _ h hG
                    match i, h with
                    | 0, h => exact h
                    | 1, h => exact h
                    | 2, h => exact h
                    | 3, h => exact h
                    | 4, h => exact h
                    | 5, h => exact h
                    | 6, h => exact h
                    | 7, h => exact h
                    | 8, h => exact h
                    | 9, h => exact h
                    | n + 10, _ => trivial
                  case h0f => exact (Below.refl _ _).drew
                  case stepf =>
                    intro i op hi ho ac W hS hag hdep
                    have hbr : Below W.heap.size W W := Below.refl _ _
                    match i, hi, ho with
                    | 0, _, rfl =>
                      exact ow_field fld45_3 _ rfl (N + 1) (0) (hag 5 rfl) ⟨_, rfl, fun vs' h _ => h (fun e => by cases e), hbr, hS⟩
                    | 1, _, rfl =>
                      have hp : ac.eval (.tmp 66) = .pointer (some ⟨(N + 1), 0 + 3, none⟩) := hdep 0 (by omega) (by kernel_rfl)
                      exact ow_load_slice' _ 9 35 rfl (N + 1) (0 + 3) hp (some ⟨bc, oc1, none⟩) d.chans.length dcc (below_cell hS hq3) Try.underlying35 ⟨_, rfl, fun vs' h _ => h (fun e => by cases e), hbr, hS⟩
                    | 2, _, rfl =>
                      exact ow_move _ rfl (v := .int .i64 (q : Int)) (hag 11 rfl) ⟨_, rfl, fun vs' h _ => h (fun e => by cases e), hbr, hS⟩
                    | 3, _, rfl =>
                      have hs : ac.eval (.tmp 67) = .slice (some ⟨bc, oc1, none⟩) d.chans.length dcc := hdep 1 (by omega) (by kernel_rfl)
                      have hi : ac.eval (.tmp 68) = .int .i64 (q : Int) := hdep 2 (by omega) (by kernel_rfl)
                      exact ow_index _ _ 9 35 rfl bc oc1 d.chans.length dcc (q) hs hi hql Try.underlying35 tag9 ⟨_, rfl, fun vs' h _ => h (fun e => by cases e), hbr, hS⟩
                    | 4, _, rfl =>
                      have hp : ac.eval (.tmp 69) = .pointer (some ⟨bc, oc1 + (q), none⟩) := hdep 3 (by omega) (by kernel_rfl)
                      exact ow_load_str _ 9 rfl bc (oc1 + (q)) hp _ (below_cell hS hcx) Try.underlying9 ⟨_, rfl, fun vs' h _ => h (fun e => by cases e), hbr, hS⟩
                    | 5, _, rfl =>
                      exact ow_move _ rfl (v := .slice (some ⟨bo, oo, none⟩) lo.length oc) (hag 9 rfl) ⟨_, rfl, fun vs' h _ => h (fun e => by cases e), hbr, hS⟩
                    | 6, _, rfl =>
                      exact ow_move _ rfl (v := .int .i64 (q2 : Int)) (hag 12 rfl) ⟨_, rfl, fun vs' h _ => h (fun e => by cases e), hbr, hS⟩
                    | 7, _, rfl =>
                      have hs : ac.eval (.tmp 71) = .slice (some ⟨bo, oo, none⟩) lo.length oc := hdep 5 (by omega) (by kernel_rfl)
                      have hi : ac.eval (.tmp 72) = .int .i64 (q2 : Int) := hdep 6 (by omega) (by kernel_rfl)
                      exact ow_index _ _ 9 35 rfl bo oo lo.length oc (q2) hs hi hq2l Try.underlying35 tag9 ⟨_, rfl, fun vs' h _ => h (fun e => by cases e), hbr, hS⟩
                    | 8, _, rfl =>
                      have hp : ac.eval (.tmp 73) = .pointer (some ⟨bo, oo + (q2), none⟩) := hdep 7 (by omega) (by kernel_rfl)
                      exact ow_load_str _ 9 rfl bo (oo + (q2)) hp _ (below_cell hS hlx) Try.underlying9 ⟨_, rfl, fun vs' h _ => h (fun e => by cases e), hbr, hS⟩
                    | 9, _, rfl =>
                      have h1 : ac.eval (.tmp 70) = encStr (at_ d.chans q) := hdep 4 (by omega) (by kernel_rfl)
                      have h2 : ac.eval (.tmp 74) = encStr (at_ lo q2) := hdep 8 (by omega) (by kernel_rfl)
                      exact ow_eql_str _ _ _ rfl _ _ h1 h2 ⟨_, rfl, fun vs' h _ => h (fun e => by cases e), hbr, hS⟩
                    | n + 10, hi, _ => exact absurd hi (by omega)
                  case finf =>
                    intro vs W hS hF
                    have e9 : vs 9 = .bool (at_ d.chans q == at_ lo q2) := hF 9 (by omega)
                    clear hF
                    change wpList _ _ _ _ (Act.put (Act.put (Act.put (Act.put (Act.put (Act.put (Act.put (Act.put (Act.put (Act.put _ (some 66) (vs 0)) (some 67) (vs 1)) (some 68) (vs 2)) (some 69) (vs 3)) (some 70) (vs 4)) (some 71) (vs 5)) (some 72) (vs 6)) (some 73) (vs 7)) (some 74) (vs 8)) (some 75) (vs 9)) W
                    rw [e9]
                    clear e9
                    generalize vs 0 = z0
                    generalize vs 1 = z1
                    generalize vs 2 = z2
                    generalize vs 3 = z3
                    generalize vs 4 = z4
                    generalize vs 5 = z5
                    generalize vs 6 = z6
                    generalize vs 7 = z7
                    generalize vs 8 = z8
                    simp only [putAll, List.drop_succ_cons, List.drop_zero, Act.put, List.setIfInBounds_toArray, List.set_cons_zero, List.set_cons_succ]
                    clear vs
                    have HBI := Lib.hid (HBL.out.trans (hS.mono HBL.out.size))
                    clear hS hq3 hcx hlx HBL
                    by_cases hxu : at_ d.chans q = at_ lo q2
                    · have hqq : (at_ d.chans q == at_ lo q2) = true := by simpa using hxu
                      rw [hqq]
                      go_wp2_with fail
                      refine (awakeL (HB3.out.trans (HBI.out.mono HB3.out.size))).mono ?_
                      rintro e w7 ⟨rfl, hb7⟩
                      go_wp2_with fail
                      go_ret
                      exact ⟨rfl, hb7⟩
                    · have hqq : (at_ d.chans q == at_ lo q2) = false := by simpa using hxu
                      rw [hqq]
                      have HXU := Lib.hid hxu
                      clear hxu hqq
                      go_wp2_with fail
                      go_roundw
                      case rel => exact ⟨q2 + 1, rfl, by omega, HBI.out, HNX1.out HXU.out⟩
                      case measure => simp [intOf]; omega
        · have hd : decide ((q : Int) < (d.grants.length : Int)) = true := by simp; omega
          have hd' : decide (q < d.grants.length) = true := by simp; omega
          obtain ⟨bg, og, rfl, hgr⟩ := HGE.out.resolve_left (by omega)
          obtain ⟨csg, -, hcg, x, hx, rfl⟩ := hgr q hql
          have hx0 : w3.cell? ⟨bg, og + q * 2, none⟩ = some (encStr x.1) := below_cell HB3.out (hcg.2 0 _ rfl)
          have HXN := Lib.hid (show x.1 ≠ u → ∀ g ∈ d.grants.take (q + 1), g.1 ≠ u from by
            intro h g hg
            rw [List.take_add_one, hx] at hg
            rcases List.mem_append.1 hg with hg | hg
            · exact HNU.out g hg
            · rw [show g = x by simpa using hg]; exact h)
          clear hgr hcg hx
          by_cases hxu : x.1 = u
          · have hqq : (x.1 == u) = true := by simpa using hxu
            go_wp2_with fail
            refine (awakeL HB3.out).mono ?_
            rintro e w7 ⟨rfl, hb7⟩
            go_wp2_with fail
            go_ret
            exact ⟨rfl, hb7⟩
          · have hqq : (x.1 == u) = false := by simpa using hxu
            have HXU := Lib.hid hxu
            clear hxu
            go_wp2_with fail
            go_roundw
            case rel => exact ⟨q + 1, rfl, by omega, trivial, HXN.out HXU.out⟩
            case measure => simp [intOf]; omega
end Go.Proofs.Ytncjgfhipflokaa
