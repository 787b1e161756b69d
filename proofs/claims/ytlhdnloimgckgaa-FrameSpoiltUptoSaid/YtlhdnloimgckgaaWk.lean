/-
  frame.Row.
-/
import Derived.Test.YtlhdnloimgckgaaWj
namespace Go.Proofs.Ytlhdnloimgckgaa
open Go.RowKit Go.Shelf

/-- Row, between two rounds -/
structure RowAt (w : World) (L : List (List UInt8)) (k : Nat) (s : Value) (W : World) : Prop where
  res : W.heap[w.heap.size]? = some (.cells zeroT 30 (0, 0))
  tail : W.heap[w.heap.size + 1]? = some (.cells (tvs (tailOf (L.take k))) 30 (0, 0))
  below : Below w.heap.size w W
  out : W.ownsRow w.heap.size 5 1 s (rowF 0 (L.take k)).length (bytesV (rowF 0 (L.take k)))
  small : ∀ p ∈ L.take k, p.length ≤ 16384

theorem tot_eq (L : List (List UInt8)) : tot L = L.length + L.flatten.length := by
  induction L with
  | nil => rfl
  | cons p ps ih => simp only [tot, List.map_cons, List.sum_cons, List.length_cons, List.flatten_cons, List.length_append] at *; omega

set_option maxHeartbeats 1000000 in
theorem Row_any (v : Value) (L : List (List UInt8)) (w : World) (hv : SBB w v L) (hsm : 8 * L.length + L.flatten.length ≤ 1099511627776) :
    Calls Try.prog 17 #[v] w fun e w' => (((∀ p ∈ L, p.length ≤ 16384) ∧ ∃ u, e = .returned (.tuple #[u, .agg (tvs (tailOf L)), .int .i64 0]) ∧ w'.ownsRow w.heap.size 5 1 u (rowF 0 L).length (bytesV (rowF 0 L))) ∨
      ((∃ p ∈ L, 16384 < p.length) ∧ e = .returned (.tuple #[.slice none 0 0, .agg zeroT, .int .i64 6]))) ∧ Below w.heap.size w w' := by
  obtain ⟨A, c, rfl, hv, hm⟩ := hv.shape
  have HV := Lib.hid hv
  clear hv
  go_enter Try.func17, Try.ntmps17
  go_wp2_with fail
  go_loopw [5, 14] (fun s i wr => ∃ k : Nat, k ≤ L.length ∧ i = .int .i64 k ∧ RowAt w L k s wr) (fun _ i _ => (L.length - (intOf i).toNat))
  case atStart =>
    refine ⟨0, by omega, rfl, ?_, ?_, ?_, ?_, by simp⟩
    · exact blk_alloc (heap_alloc_new w _) _
    · exact heap_alloc2_new w _ _
    · exact ((Below.refl _ _).alloc (Nat.le_refl _) _).alloc (by simp) _
    · exact World.ownsRow_nil _ _ _ _
  case round =>
    obtain ⟨k, hk, rfl, hr⟩ := hrel
    have HR := Lib.hid hr
    by_cases hlt : k < L.length
    · obtain ⟨b, o, A2, c2, rfl, hcell, hsb, hl2⟩ := HV.out.at_ k hlt
      have hcell2 := (hr.below.cell (World.block_lt_of_cell? w ⟨b, o + k, none⟩ hcell)).trans hcell
      have HS := Lib.hid (hsb.below hr.below)
      have HTK := Lib.hid (take_snoc L k hlt)
      have HMEM := Lib.hid (List.getElem_mem hlt)
      have HLE : Hid (8 * (L.take (k + 1)).length + (L.take (k + 1)).flatten.length ≤ 1099511627776) := Lib.hid (by
        have h1 := flat_len_le L (k + 1)
        have h2 : (L.take (k + 1)).length ≤ L.length := by simp; omega
        omega)
      obtain ⟨⟨tc, ts, tx⟩, hT⟩ : ∃ t, tailOf (L.take k) = t := ⟨_, rfl⟩
      have hT2 := tailOf_eq (L.take k)
      rw [hT] at hT2
      injection hT2 with h1 hT2
      injection hT2 with h2 h3
      have h4 := flat_len_le L k
      have h5 : (L.take k).length = k := by simp; omega
      have htc : tc ≤ 140737488355328 := by omega
      have hts : ts ≤ 140737488355328 := by omega
      have htx : tx < 4294967296 := by rw [h3]; exact lastS_lt (by omega) _
      have htail := hr.tail
      rw [hT] at htail
      have c0 : wr.cell? ⟨w.heap.size + 1, 0, none⟩ = some (.int .i64 (tc : Int)) := cell_of_row wr _ _ _ _ _ htail
      have c1 : wr.cell? ⟨w.heap.size + 1, 1, none⟩ = some (.int .i64 (ts : Int)) := cell_of_row wr _ _ _ _ _ htail
      have c2' : wr.cell? ⟨w.heap.size + 1, 2, none⟩ = some (.int .u32 (tx : Int)) := cell_of_row wr _ _ _ _ _ htail
      have HT := Lib.hid hT
      have HLS := Lib.hid h3
      clear htail hT h1 h2 h3 h4 h5 hcell hsb hr
      generalize L[k] = p at *
      by_cases hp : p.length ≤ 16384
      · go_wp2_with fail
        refine (Put_ok tc ts tx htx htc hts _ p _ HS.out hp).mono ?_
        rintro e w2 ⟨u, rfl, hown2, hb2⟩
        obtain ⟨C, hC⟩ : ∃ c, c = tc + 1 := ⟨_, rfl⟩
        obtain ⟨Z, hZ⟩ : ∃ z, z = ts + (8 + p.length) := ⟨_, rfl⟩
        obtain ⟨S4, hS4⟩ : ∃ s, s = rsum tx p := ⟨_, rfl⟩
        rw [← hC, ← hZ, ← hS4]
        have HC := Lib.hid hC
        have HZ := Lib.hid hZ
        have HS4 := Lib.hid hS4
        have HO2 := Lib.hid hown2
        have HB2 := Lib.hid hb2
        clear hC hZ hS4 hown2 hb2
        go_wp2_with fail
        obtain ⟨W9, hW9⟩ : ∃ W9, W9 = w2.alloc (Obj.cells #[Value.int IntKind.i64 ↑C, Value.int IntKind.i64 ↑Z, Value.int IntKind.u32 ↑S4] 30) := ⟨_, rfl⟩
        rw [← hW9]
        have hb9 : Below w2.heap.size w2 W9 := by rw [hW9]; exact below_alloc1 _ _
        have hnew : W9.heap[w2.heap.size]? = some (.cells (tvs (C, Z, S4)) 30 (0, 0)) := by rw [hW9]; exact World.alloc_heap_new _ _
        have hb29 : Below wr.heap.size wr W9 := HB2.out.trans (hb9.mono HB2.out.size)
        have HB9 := Lib.hid hb29
        have HN9 := Lib.hid hnew
        have HO9 := Lib.hid (own_move HO2.out (fun j cs _ h => blk_below h hb9))
        have HOS := Lib.hid (own_move HR.out.out (fun j cs _ h => blk_below h hb29))
        have HT9 := Lib.hid (blk_below HR.out.tail hb29)
        have HR9 := Lib.hid (blk_below HR.out.res hb29)
        have hlt9 : wr.heap.size ≤ W9.heap.size := hb29.size
        have hNw : w.heap.size + 1 < wr.heap.size := blk_lt HR.out.tail
        clear hW9 hb9 hnew hb29
        obtain ⟨i0, hi0, hz0, hz1, hz2⟩ := info_parts info5
        obtain ⟨own, hOwn⟩ : ∃ o, o = u5.ownBlock := ⟨_, rfl⟩
        have hownlt : ∀ j, some j = own → w.heap.size ≤ j ∧ j < wr.heap.size ∧ ∃ cs, wr.heap[j]? = some (.cells cs 5 (0, 0)) := by
          intro j hj
          rcases HR.out.out.2 with ⟨hv, _⟩ | ⟨g, cap, cur, hv, h2, h3, _⟩
          · rw [hOwn, hv] at hj; cases hj
          · rw [hOwn, hv] at hj
            injection hj with hj
            subst hj
            exact ⟨h2, blk_lt h3, cur, h3⟩
        have hT1 : some (w.heap.size + 1) ≠ own := by
          intro e
          obtain ⟨_, _, cs, h⟩ := hownlt _ e
          rw [HR.out.tail] at h
          injection h with h
          injection h with _ h
          cases h
        have hR1 : some w.heap.size ≠ own := by
          intro e
          obtain ⟨_, _, cs, h⟩ := hownlt _ e
          rw [HR.out.res] at h
          injection h with h
          injection h with _ h
          cases h
        have hrow1 : rowF 0 (L.take (k + 1)) = rowF 0 (L.take k) ++ rec_ tx p := by rw [HTK.out, rowF_snoc, HLS.out]
        have hrl : (rowF 0 (L.take (k + 1))).length ≤ 1099511627776 := by rw [rowF_length]; exact HLE.out
        rw [hrow1, List.length_append] at hrl
        have HRW := Lib.hid hrow1
        have HRL := Lib.hid hrl
        clear hrow1 hrl
        refine region_ev_p 5 (fun i v W => match i with
            | 0 => v = u5
            | 1 => v = u
            | 2 => W.ownsRow w.heap.size 5 1 v ((rowF 0 (L.take k)).length + (rec_ tx p).length) (bytesV (rowF 0 (L.take k)) ++ bytesV (rec_ tx p))
            | 3 => v = .agg (tvs (C, Z, S4))
            | 4 => W.ownsRow w.heap.size 5 1 v ((rowF 0 (L.take k)).length + (rec_ tx p).length) (bytesV (rowF 0 (L.take k)) ++ bytesV (rec_ tx p))
            | _ => True) (fun k W W' => (k ≠ 2 → W' = W) ∧ W.grownBy W' own) (fun W => W9.grownBy W own)
          (fun i a W => match i with
            | 0 => a.eval (.tmp 5) = u5
            | 2 => W.ownsRow w.heap.size 5 1 u5 (rowF 0 (L.take k)).length (bytesV (rowF 0 (L.take k)))
            | _ => True) (by kernel_rfl) (by kernel_rfl) ?hst ?h0 ?hp0 ?step ?fin
        case hst =>
          intro i j v W W' hji hnd hE hG
          match i, hE with
          | 0, h => exact h
          | 1, h => exact h
          | 2, h => rw [hG.1 hji]; exact h
          | 3, h => exact h
          | 4, h =>
            have hj2 : j ≠ 2 := by
              rintro rfl
              exact absurd (hnd.symm.trans (by kernel_rfl)) Bool.false_ne_true
            rw [hG.1 hj2]; exact h
          | n + 5, _ => trivial
        case h0 => exact grown_drew (grown_refl _ _)
        case hp0 =>
          intro i hi
          match i with
          | 0 => rfl
          | 2 => exact HOS.out
          | 1 | 3 | 4 => trivial
        case step =>
          intro i op hi ho a W hS hP hag hdep
          have hpd : ∀ (d : Tmp) (v : Value), d ≠ 5 → ∀ j, (match j with | 0 => a.eval (.tmp 5) = u5 | 2 => W.ownsRow w.heap.size 5 1 u5 (rowF 0 (L.take k)).length (bytesV (rowF 0 (L.take k))) | _ => True) →
              (match j with | 0 => (a.put (some d) v).eval (.tmp 5) = u5 | 2 => W.ownsRow w.heap.size 5 1 u5 (rowF 0 (L.take k)).length (bytesV (rowF 0 (L.take k))) | _ => True) := by
            intro d v hd j h
            split
            · rw [eval_put_other hd]; exact h
            · exact h
            · trivial
          match i, hi, ho with
          | 0, _, rfl => exact ow_move _ rfl hP ⟨_, rfl, ⟨rfl, fun h => by cases h⟩, ⟨fun _ => rfl, grown_refl _ _⟩, hS, fun j _ _ _ h => hpd _ _ (by decide) j h⟩
          | 1, _, rfl => exact ow_move _ rfl (hag 9 rfl) ⟨_, rfl, ⟨rfl, fun h => by cases h⟩, ⟨fun _ => rfl, grown_refl _ _⟩, hS, fun j _ _ _ h => hpd _ _ (by decide) j h⟩
          | 2, _, rfl =>
            have h0 : a.eval (.tmp 29) = u5 := hdep 0 (by omega) (by kernel_rfl)
            have h1 : a.eval (.tmp 30) = u := hdep 1 (by omega) (by kernel_rfl)
            have huW : W.ownsRow wr.heap.size 5 1 u (rec_ tx p).length (bytesV (rec_ tx p)) := own_move HO9.out (fun j cs hj h => blk_grown h hS (fun e => by have := hownlt j e; omega))
            have hrl := HRL.out
            obtain ⟨A5, c5, rfl, hsb5, _⟩ := (SB_of_own huW (by omega)).shape
            have hws := hS.size
            refine wp_append_src W _ _ 25 rfl w.heap.size 5 i0 (.int .u8 0) 1 Try.underlying25 hi0 hz0 hz1 hz2 rfl u5 _ _ h0 hP A5 (rec_ tx p).length c5 (bytesV (rec_ tx p)) h1 (bytesV_length _) hsb5.isNil hsb5.cells (bytesV_one _) (by unfold maxLen; omega) (by omega) (by omega) ?_
            intro v' w' hrow hg _
            rw [← hOwn] at hg
            refine ⟨_, rfl, ⟨hrow, fun h => by cases h⟩, ⟨fun h => absurd rfl h, hg⟩, hS.trans hg, fun j hj hne hdp hPj => ?_⟩
            match j, hj, hne with
            | 0, _, _ => exact absurd (hdp.symm.trans (by kernel_rfl)) Bool.false_ne_true
            | 1, _, _ => trivial
            | 3, _, _ => trivial
            | 4, _, _ => trivial
          | 3, _, rfl =>
            have hbW : W.heap[w2.heap.size]? = some (.cells (tvs (C, Z, S4)) 30 (0, 0)) := blk_grown HN9.out hS (fun e => by have := hownlt _ e; have := HB2.out.size; omega)
            exact ow_load_row 30 _ rfl w2.heap.size (hag 10 rfl) 30 _ (0, 0) _ hbW Try.underlying30 rfl (by kernel_rfl) ⟨_, rfl, ⟨rfl, fun h => by cases h⟩, ⟨fun _ => rfl, grown_refl _ _⟩, hS, fun j _ _ _ h => hpd _ _ (by decide) j h⟩
          | 4, _, rfl =>
            have h1 : W.ownsRow w.heap.size 5 1 (a.eval (.tmp 31)) ((rowF 0 (L.take k)).length + (rec_ tx p).length) (bytesV (rowF 0 (L.take k)) ++ bytesV (rec_ tx p)) := hdep 2 (by omega) (by kernel_rfl)
            refine ow_assign _ rfl rfl ⟨_, rfl, ⟨h1, fun h => by cases h⟩, ⟨fun _ => rfl, grown_refl _ _⟩, hS, fun j hj hne hdp hPj => ?_⟩
            match j, hj, hne with
            | 0, _, _ => exact absurd (hdp.symm.trans (by kernel_rfl)) Bool.false_ne_true
            | 1, _, _ => trivial
            | 2, _, _ => exact hPj
            | 3, _, _ => trivial
            | 4, _, h => exact absurd rfl h
        case fin =>
          intro a W hS hsz hdf hag hf
          obtain ⟨⟨tl⟩, ds⟩ := a
          match tl, hsz with
          | x0 :: x1 :: x2 :: x3 :: x4 :: x5 :: x6 :: x7 :: x8 :: x9 :: x10 :: x11 :: x12 :: x13 :: x14 :: x15 :: x16 :: x17 :: tl2, hsz =>
          match tl2, hsz with
          | [x18, x19, x20, x21, x22, x23, x24, x25, x26, x27, x28, x29, x30, x31, x32, x33, x34, x35], _ =>
          obtain rfl : ds = [] := hdf
          obtain rfl : x0 = .slice (some ⟨b, o, none⟩) L.length c := hag 0 rfl
          obtain rfl : x1 = undef := hag 1 rfl
          obtain rfl : x3 = .pointer (some ⟨w.heap.size, 0, none⟩) := hag 3 rfl
          obtain rfl : x6 = .pointer (some ⟨w.heap.size + 1, 0, none⟩) := hag 6 rfl
          obtain rfl : x7 = undef := hag 7 rfl
          obtain rfl : x12 = .slice (some ⟨b, o, none⟩) L.length c := hag 12 rfl
          obtain rfl : x13 = .int .i64 (L.length : Int) := hag 13 rfl
          obtain rfl : x14 = .int .i64 (k : Int) := hag 14 rfl
          obtain rfl : x32 = .agg (tvs (C, Z, S4)) := hf 3 (by omega)
          obtain rfl : x34 = undef := hag 34 rfl
          obtain rfl : x35 = undef := hag 35 rfl
          have h5 : W.ownsRow w.heap.size 5 1 x5 ((rowF 0 (L.take k)).length + (rec_ tx p).length) (bytesV (rowF 0 (L.take k)) ++ bytesV (rec_ tx p)) := hf 4 (by omega)
          clear hag hf hsz
          have H5 := Lib.hid h5
          have HTW := Lib.hid (blk_grown HT9.out hS hT1)
          have HRW' := Lib.hid (blk_grown HR9.out hS hR1)
          have HBW : Hid (Below w.heap.size w W) := Lib.hid ((HR.out.below.trans (HB9.out.mono HR.out.below.size)).grown hS (by have := HR.out.below.size; have := HB9.out.size; omega) (fun j e => (hownlt j e.symm).1))
          clear h5 hS
          change wpList Try.prog _ _ _ ⟨#[.slice (some ⟨b, o, none⟩) L.length c, undef, x2, .pointer (some ⟨w.heap.size, 0, none⟩), x4, x5, .pointer (some ⟨w.heap.size + 1, 0, none⟩), undef, x8, x9, x10, x11, .slice (some ⟨b, o, none⟩) L.length c, .int .i64 (L.length : Int), .int .i64 (k : Int), x15, x16, x17, x18, x19, x20, x21, x22, x23, x24, x25, x26, x27, x28, x29, x30, x31, .agg (tvs (C, Z, S4)), x33, undef, undef], []⟩ W
          simp only [List.drop_succ_cons, List.drop_zero]
          go_wp2_with (first | (refine wpList_store_row rfl 30 _ _ rfl (w.heap.size + 1) rfl 30 _ _ rfl HTW.out rfl (by kernel_rfl) (by simp [tvs, Value.oneCell']) ?_; intro w3 hT3 hS3 hG3))
          go_roundw
          case rel =>
            refine ⟨k + 1, by omega, by go_num, ?_, ?_, ?_, ?_, ?_⟩
            · exact blk_grown HRW'.out hG3 (fun e => by injection e with e; omega)
            · rw [HTK.out, tailOf_snoc, HT.out, ← HC.out, ← HZ.out, ← HS4.out]; exact hT3
            · exact HBW.out.grown hG3 HBW.out.size (fun j e => by injection e with e; omega)
            · rw [HRW.out, bytesV_append, List.length_append]
              exact own_move H5.out (fun j cs _ h => blk_grown h hG3 (fun e => by
                injection e with e
                subst e
                rw [HTW.out] at h
                injection h with h
                injection h with _ h
                cases h))
            · rw [HTK.out]
              intro q hq
              rcases List.mem_append.1 hq with h | h
              · exact HR.out.small q h
              · rw [List.mem_singleton.1 h]; exact hp
          case measure => (show L.length - ((k : Int) + 1).toNat < L.length - ((k : Int)).toNat; omega)
      · go_wp2_with fail
        refine (Put_long tc ts tx _ p _ HS.out (by omega)).mono ?_
        rintro e w2 ⟨rfl, hb2⟩
        have h1 := blk_below HR.out.res hb2
        have HB2 := Lib.hid hb2
        have H1 := Lib.hid h1
        clear hb2 h1
        go_wp2_with (first | (refine wpList_store_row rfl 30 _ _ rfl w.heap.size rfl 30 _ _ rfl (blk_alloc H1.out _) rfl (by kernel_rfl) (by simp [Value.oneCell']) ?_; intro w3 hT3 hS3 hG3))
        refine bodyPost_ret (results3 (P := Try.prog) (p0 := 2) (p := 3) (p2 := 4) (ty := 30) rfl _ _ w.heap.size 30 _ (0, 0) _ rfl hT3 Try.underlying30 rfl (by kernel_rfl)) rfl ⟨.inr ⟨⟨p, HMEM.out, by omega⟩, rfl⟩, ?_⟩
        have h1 := HR.out.below.trans (HB2.out.mono HR.out.below.size)
        exact (h1.alloc h1.size _).grown hG3 (by have := h1.size; simp; omega) (fun j e => by injection e with e; omega)
    · have hkL : k = L.length := by omega
      go_wp2_with fail
      have htk : L.take k = L := by rw [hkL]; simp
      have hres := hr.res
      have htl := hr.tail
      rw [htk] at htl
      refine region_ev_p 3 (fun i v _ => match i with | 0 => v = u5 | 1 => v = .agg (tvs (tailOf L)) | 2 => v = u5 | _ => True) (fun _ W W' => W' = W) (fun W => W = wr.drew) (fun i a _ => True) (by kernel_rfl) (by kernel_rfl) ?hst2 ?h02 ?hp02 ?step2 ?fin2
      case hst2 => rintro i j v W W' _ _ hE rfl; exact hE
      case h02 => rfl
      case hp02 => intro i _; trivial
      case step2 =>
        rintro i op hi ho a W rfl hP hag hdep
        match i, hi, ho with
        | 0, _, rfl => exact ow_move _ rfl (hag 5 rfl) ⟨_, rfl, ⟨rfl, fun h => by cases h⟩, rfl, rfl, fun _ _ _ _ _ => trivial⟩
        | 1, _, rfl => exact ow_load_row 30 _ rfl (w.heap.size + 1) (hag 6 rfl) 30 _ (0, 0) _ htl Try.underlying30 rfl (by kernel_rfl) ⟨_, rfl, ⟨rfl, fun h => by cases h⟩, rfl, rfl, fun _ _ _ _ _ => trivial⟩
        | 2, _, rfl =>
          have h1 : a.eval (.tmp 34) = u5 := hdep 0 (by omega) (by kernel_rfl)
          exact ow_assign _ rfl h1 ⟨_, rfl, ⟨rfl, fun h => by cases h⟩, rfl, rfl, fun _ _ _ _ _ => trivial⟩
      case fin2 =>
        rintro a W rfl hsz hdf hag hf
        obtain ⟨⟨tl⟩, ds⟩ := a
        match tl, hsz with
        | y0 :: y1 :: y2 :: y3 :: y4 :: y5 :: y6 :: y7 :: y8 :: y9 :: y10 :: y11 :: y12 :: y13 :: y14 :: y15 :: y16 :: y17 :: tl2, hsz =>
        match tl2, hsz with
        | [y18, y19, y20, y21, y22, y23, y24, y25, y26, y27, y28, y29, y30, y31, y32, y33, y34, y35], _ =>
        obtain rfl : ds = [] := hdf
        obtain rfl : u5 = y2 := (hf 2 (by omega)).symm
        obtain rfl : y3 = .pointer (some ⟨w.heap.size, 0, none⟩) := hag 3 rfl
        obtain rfl : y35 = .agg (tvs (tailOf L)) := hf 1 (by omega)
        clear hag hf hsz
        change wpList Try.prog _ _ _ ⟨#[y0, y1, u5, .pointer (some ⟨w.heap.size, 0, none⟩), y4, y5, y6, y7, y8, y9, y10, y11, y12, y13, y14, y15, y16, y17, y18, y19, y20, y21, y22, y23, y24, y25, y26, y27, y28, y29, y30, y31, y32, y33, y34, .agg (tvs (tailOf L))], []⟩ wr.drew
        simp only [List.drop_succ_cons, List.drop_zero]
        go_wp2_with (first | (refine wpList_store_row rfl 30 _ _ rfl w.heap.size rfl 30 _ _ rfl hres rfl (by kernel_rfl) (by simp [tvs, Value.oneCell']) ?_; intro w3 hT3 hS3 hG3))
        refine bodyPost_ret (results3 (P := Try.prog) (p0 := 2) (p := 3) (p2 := 4) (ty := 30) rfl _ _ w.heap.size 30 _ (0, 0) _ rfl hT3 Try.underlying30 rfl (by kernel_rfl)) rfl ⟨.inl ⟨?_, _, rfl, ?_⟩, ?_⟩
        · have := HR.out.small; rwa [htk] at this
        · have := HR.out.out
          rw [htk] at this
          exact own_move this (fun j cs _ h => blk_grown (w := wr.drew) h hG3 (fun e => by
            injection e with e
            subst e
            rw [hres] at h
            injection h with h
            injection h with _ h
            cases h))
        · exact (HR.out.below.drew).grown hG3 (by have := HR.out.below.size; simp; omega) (fun j e => by injection e with e; omega)
end Go.Proofs.Ytlhdnloimgckgaa
