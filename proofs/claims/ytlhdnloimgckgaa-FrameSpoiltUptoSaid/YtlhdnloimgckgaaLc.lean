/-
  FrameEnds, walked.
-/
import Derived.Test.YtlhdnloimgckgaaWo
import Derived.Test.YtlhdnloimgckgaaLb
import Derived.Test.YtlhdnloimgckgaaLaws
namespace Go.Proofs.Ytlhdnloimgckgaa
open Go.RowKit Go.Shelf

/-- a part of a slice of slices -/
theorem SBB.take {w : World} {A : Option Addr} {c : Nat} {L : List (List UInt8)} (h : SBB w (.slice A L.length c) L) (k : Nat) (hk : k ≤ L.length) : SBB w (.slice A k c) (L.take k) := by
  obtain ⟨A', c', e, h1, h2, h3⟩ := h
  injection e with e1 e2 e3
  subst e1; subst e3
  have hl : (L.take k).length = k := by simp; omega
  refine ⟨A, c, by rw [hl], by omega, by omega, ?_⟩
  rcases h3 with rfl | ⟨b, o, rfl, hc⟩
  · left; simp
  · refine .inr ⟨b, o, rfl, fun i hi => ?_⟩
    obtain ⟨u, hu, hs⟩ := hc i (by omega)
    exact ⟨u, hu, by simpa using hs⟩
theorem SBB.cap {w : World} {A : Option Addr} {c : Nat} {L : List (List UInt8)} (h : SBB w (.slice A L.length c) L) : L.length ≤ c := by
  obtain ⟨A', c', e, h1, _⟩ := h
  injection e with e1 e2 e3
  omega
theorem SB.take {w : World} {A : Option Addr} {c : Nat} {bs : List UInt8} (h : SB w (.slice A bs.length c) bs) (k : Nat) (hk : k ≤ bs.length) : SB w (.slice A k c) (bs.take k) := by
  obtain ⟨A', c', e, h1, h2, h3⟩ := h
  injection e with e1 e2 e3
  subst e1; subst e3
  have hl : (bs.take k).length = k := by simp; omega
  refine ⟨A, c, by rw [hl], by omega, by omega, ?_⟩
  rcases h3 with rfl | ⟨b, o, rfl, hc⟩
  · left; simp
  · refine .inr ⟨b, o, rfl, fun i hi => ?_⟩
    rw [hc i (by omega)]
    simp

set_option maxHeartbeats 1000000 in
theorem FrameEnds_any (v : Value) (L : List (List UInt8)) (cut : Int) (v2 : Value) (more : List UInt8) (w : World) (hv : SBB w v L) (hcut : (Lit.int .i64 cut).wf = true) (hv2 : SB w v2 more) (hms : more.length ≤ 1048576) :
    Calls Try.prog 6 #[v, .int .i64 cut, v2] w fun e w' => e = .returned (.bool true) ∧ Below w.heap.size w w' := by
  obtain ⟨A, c, rfl, hv, -⟩ := hv.shape
  obtain ⟨A2, c2, rfl, hv2, -⟩ := hv2.shape
  have HV := Lib.hid hv
  have HV2 := Lib.hid hv2
  have hcr : -9223372036854775808 ≤ cut ∧ cut ≤ 9223372036854775807 := by simpa [Lit.wf, IntKind.min, IntKind.max, IntKind.signed, IntKind.bits] using hcut
  have HCR := Lib.hid hcr
  clear hv hv2 hcut hcr
  by_cases hlong : 60000 < tot L
  · go_enter Try.func6, Try.ntmps6
    go_wp2_with fail
    refine (long_any _ L w HV.out).mono ?_
    rintro e w1 ⟨rfl, rfl⟩
    rw [show decide (60000 < tot L) = true from by simp [hlong]]
    clear hlong
    go_wp2_with fail
    refine (awake_any w).mono ?_
    rintro e w2 ⟨rfl, hb⟩
    have HB := Lib.hid hb
    clear hb
    go_wp2
    go_ret
    exact ⟨rfl, HB.out⟩
  · have htot := tot_eq L
    have HTOT : Hid (L.length + L.flatten.length ≤ 60000) := Lib.hid (by omega)
    have hd1 : decide (60000 < tot L) = false := by simp; omega
    clear htot hlong
    by_cases hm : more.length ≤ 60000
    · have hd2 : decide ((60000 : Int) < (more.length : Int)) = false := by simp; omega
      go_enter Try.func6, Try.ntmps6
      go_wp2_with fail
      refine (long_any _ L w HV.out).mono ?_
      rintro e w1 ⟨rfl, rfl⟩
      rw [hd1]
      clear hd1
      go_wp2_with fail
      refine (Row_any _ L w HV.out (by have := HTOT.out; omega)).mono ?_
      rintro e w1 ⟨h, hb1⟩
      have HB1 := Lib.hid hb1
      clear hb1
      rcases h with ⟨hall, u, rfl, hown⟩ | ⟨_, rfl⟩
      · obtain ⟨R, hR⟩ : ∃ R, R = rowF 0 L := ⟨_, rfl⟩
        have hRl : R.length ≤ 540000 := by rw [hR, rowF_length]; have := HTOT.out; omega
        rw [← hR] at hown
        obtain ⟨⟨tc, ts, tx⟩, hT⟩ : ∃ t, tailOf L = t := ⟨_, rfl⟩
        rw [hT]
        obtain ⟨Ab, cb, rfl, hsu, -⟩ := (SB_of_own hown (by omega)).shape
        have HR := Lib.hid hR
        have HSU := Lib.hid hsu
        have HALL := Lib.hid hall
        obtain ⟨K1, hK1⟩ : ∃ K1 : Nat, (if cut < 0 then (0 : Int) else cut) = (K1 : Int) := ⟨cut.toNat, by split <;> omega⟩
        obtain ⟨K, hK, hKR⟩ : ∃ K : Nat, (if (R.length : Int) < (K1 : Int) then (R.length : Int) else (K1 : Int)) = (K : Int) ∧ K ≤ R.length := by
          by_cases h : R.length < K1
          · exact ⟨R.length, by rw [if_pos (by omega)], Nat.le_refl _⟩
          · exact ⟨K1, by rw [if_neg (by omega)], by omega⟩
        have hK2 : (if R.length < K1 then (R.length : Int) else (K1 : Int)) = (K : Int) := by
          rw [← hK]
          by_cases h : R.length < K1
          · rw [if_pos h, if_pos (by omega)]
          · rw [if_neg h, if_neg (by omega)]
        simp only [tvs]
        clear hR hown hT hsu hall
        go_wp2_with fail
        obtain ⟨W2, hW2⟩ : ∃ W2, W2 = w1.alloc (Obj.cells #[Value.int IntKind.i64 ↑tc, Value.int IntKind.i64 ↑ts, Value.int IntKind.u32 ↑tx] 30) := ⟨_, rfl⟩
        rw [← hW2]
        have hb2 : Below w1.heap.size w1 W2 := by rw [hW2]; exact below_alloc1 _ _
        have HB2 : Hid (Below w.heap.size w W2) := Lib.hid (HB1.out.trans (hb2.mono HB1.out.size))
        have HSU2 := Lib.hid (HSU.out.below hb2)
        have HK := Lib.hid hK
        clear hW2 hb2 hK hK1 hK2
        go_loopw [11, 12] (fun i s wr => ∃ j z : Nat, j ≤ L.length ∧ i = .int .i64 (j : Int) ∧ s = .int .i64 (z : Int) ∧ z = 8 * j + (L.take j).flatten.length ∧ z ≤ K ∧ wr = W2) (fun i _ _ => L.length - (intOf i).toNat)
        case atStart => exact ⟨0, 0, by omega, rfl, rfl, by simp, by omega, rfl⟩
        case round =>
          obtain ⟨j, z, hj, rfl, rfl, hz, hzK, rfl⟩ := hrel
          have HZ := Lib.hid hz
          have hzs : z ≤ 540000 := by omega
          have hLl : L.length ≤ 60000 := by have := HTOT.out; omega
          clear hz
          by_cases hlt : j < L.length
          · obtain ⟨b, o, A3, c3, rfl, hcell, hsb, hl3⟩ := HV.out.at_ j hlt
            have hcell2 := cell_below HB2.out hcell
            have HFS := Lib.hid (flat_len_succ L j hlt)
            have HLJ : Hid (∀ h : j < L.length, (L[j]).length = (L[j]).length) := Lib.hid (fun _ => rfl)
            have hpl : (L[j]).length ≤ 60000 := by have := HTOT.out; have := len_le_flat (List.getElem_mem hlt); omega
            obtain ⟨p, hp⟩ : ∃ p, p = L[j] := ⟨_, rfl⟩
            rw [← hp] at hcell2 hpl
            have HP := Lib.hid hp
            clear hp hcell hsb
            by_cases hfit : z + (8 + p.length) ≤ K
            · go_wp2_with (first | (refine (Size_any A3 p.length c3 (by omega) _).mono ?_; rintro e w9 ⟨rfl, rfl⟩))
              go_roundw
              case rel =>
                refine ⟨j + 1, z + (8 + p.length), by omega, by go_num, by go_num, ?_, hfit, trivial⟩
                rw [HFS.out, HZ.out, ← HP.out]
                omega
              case measure => simp [intOf]; omega
            · have HMAX : Hid (∀ h : j < L.length, K < z + (8 + (L[j]).length)) := Lib.hid (fun _ => by rw [← HP.out]; omega)
              have hkc : K ≤ cb := by have := HSU2.out.cap.2; omega
              have hnf : ¬ z + (8 + p.length) ≤ K := hfit
              have hlt' : K < z + (8 + p.length) := by omega
              go_wp2_with (first | (refine (Size_any A3 p.length c3 (by omega) _).mono ?_; rintro e w9 ⟨rfl, rfl⟩) | fail)
              refine (All_any _ (R.take K) wr (HSU2.out.take K hKR) (by rw [List.length_take]; omega)).mono ?_
              rintro e w4 ⟨m, rfl, hout, hb4⟩
              have hrec : recs (R.take K).length 0 (R.take K) = L.take j := by
                rw [HR.out]
                exact recs_cut L HALL.out j K hj (by have := HZ.out; omega) (fun h => by have := HMAX.out h; have := HZ.out; omega)
              have htl : tailOf (L.take j) = (j, z, lastS 0 (L.take j)) := by rw [tailOf_eq, List.length_take, Nat.min_eq_left hj, HZ.out]
              rw [hrec] at hout ⊢
              rw [htl]
              obtain ⟨S, hS⟩ : ∃ S, S = lastS 0 (L.take j) := ⟨_, rfl⟩
              rw [← hS]
              have hjl : (L.take j).length = j := by rw [List.length_take, Nat.min_eq_left hj]
              have hsm : SBB w4 m (L.take j) := hout.sbb (by omega) (fun q hq => by have := len_le_flat (List.mem_of_mem_take hq); have := HTOT.out; omega)
              obtain ⟨Am, cm, rfl, hsm, -⟩ := hsm.shape
              rw [hjl] at hsm ⊢
              have HSM := Lib.hid hsm
              have HB4 : Hid (Below w.heap.size w w4) := Lib.hid (HB2.out.trans (hb4.mono HB2.out.size))
              have HSU4 := Lib.hid (HSU2.out.below hb4)
              have hjc : j ≤ c := by have := HV.out.cap; omega
              simp only [tv, tailV]
              clear hout hb4 hrec htl hS hsm hjl
              go_wp2_with fail
              obtain ⟨W5, hW5⟩ : ∃ W5, W5 = w4.alloc (Obj.cells #[Value.int IntKind.i64 ↑j, Value.int IntKind.i64 ↑z, Value.int IntKind.u32 ↑S] 30) := ⟨_, rfl⟩
              rw [← hW5]
              have hb5 : Below w4.heap.size w4 W5 := by rw [hW5]; exact below_alloc1 _ _
              have hn5 : W5.heap[w4.heap.size]? = some (.cells #[Value.int IntKind.i64 ↑j, Value.int IntKind.i64 ↑z, Value.int IntKind.u32 ↑S] 30 (0, 0)) := by rw [hW5]; exact World.alloc_heap_new _ _
              clear hW5
              have hsl : SBB W5 (.slice (some ⟨b, o, none⟩) j c) (L.take j) := ((HV.out.below HB4.out).below hb5).take j hj
              have hsm5 : SBB W5 (.slice Am j cm) (L.take j) := HSM.out.below hb5
              refine (Same_any _ _ (L.take j) (L.take j) W5 hsm5 hsl).mono ?_
              rintro e w6 ⟨rfl, hb6⟩
              rw [show decide (L.take j = L.take j) = true from by simp]
              have hb46 := hb5.trans (hb6.mono hb5.size)
              have hn6 := blk_below hn5 hb6
              have HB6 : Hid (Below w.heap.size w w6) := Lib.hid (HB4.out.trans (hb46.mono HB4.out.size))
              have HSU6 := Lib.hid (HSU4.out.below hb46)
              have HSM6 := Lib.hid (HSM.out.below hb46)
              have c0 : w6.cell? ⟨w4.heap.size, 0, none⟩ = some (.int .i64 (j : Int)) := cell_of_row w6 _ _ _ _ _ hn6
              have c1 : w6.cell? ⟨w4.heap.size, 1, none⟩ = some (.int .i64 (z : Int)) := cell_of_row w6 _ _ _ _ _ hn6
              clear hb5 hn5 hsl hsm5 hb6 hb46 hn6
              have hKl : (R.take K).length = K := by rw [List.length_take]; omega
              have hmade : (w6.alloc (.cells #[] 5)).ownsRow w6.heap.size 5 1 (.slice (some ⟨w6.heap.size, 0, none⟩) 0 0) 0 [] := World.ownsRow_made w6 #[] 0 (Nat.le_refl _) (by unfold maxLen; omega) (by simp)
              have hskt : SB (w6.alloc (.cells #[] 5)) (.slice Ab (R.take K).length cb) (R.take K) := by rw [hKl]; exact (HSU6.out.take K hKR).below (below_alloc1 _ _)
              obtain ⟨i0, hi0, hz0, hz1, hz2⟩ := info_parts info5
              have HI := Lib.hid hi0
              have HZ0 := Lib.hid hz0
              have HZ1 := Lib.hid hz1
              have HZ2 := Lib.hid hz2
              have HMADE := Lib.hid hmade
              have HSKT := Lib.hid hskt
              have HKL := Lib.hid hKl
              have HNIL : Hid (Ab = none → K = 0) := Lib.hid (fun h => by have := hskt.isNil h; omega)
              have HM2 : Hid (∀ w7 : World, Below w6.heap.size w6 w7 → SB w7 (.slice A2 more.length c2) more) := Lib.hid (fun w7 h => (HV2.out.below HB6.out).below h)
              have HMS := Lib.hid hm
              have HKB : Hid (K ≤ 540000) := Lib.hid (by omega)
              clear hi0 hz0 hz1 hz2 hmade hskt hKl
              go_wp2_with (first
                | (refine wpList_append_src _ rfl (.tmp 89) (.tmp 92) 25 rfl w6.heap.size 5 i0 (.int .u8 0) 1 Try.underlying25 HI.out HZ0.out HZ1.out HZ2.out rfl _ _ _ rfl HMADE.out Ab K cb (bytesV (R.take K)) rfl (by rw [bytesV_length]; exact HKL.out) HNIL.out HSKT.out.cells (bytesV_one _) (by have := HKB.out; unfold maxLen; omega) (by have := HKB.out; omega) (by simp) ?_; intro v3 w7 hown7 hg7 hat7; have hb67 : Below w6.heap.size w6 w7 := (below_alloc1 w6 _).grown hg7 (by simp) (fun k hk => (HMADE.out.lt k hk).1))
                | (refine wpList_append_src _ rfl (.tmp 93) (.tmp 94) 25 rfl w6.heap.size 5 i0 (.int .u8 0) 1 Try.underlying25 HI.out HZ0.out HZ1.out HZ2.out rfl _ _ _ rfl hown7 A2 more.length c2 (bytesV more) rfl (bytesV_length _) (HM2.out w7 hb67).isNil (HM2.out w7 hb67).cells (bytesV_one _) (by have := HKB.out; have := HMS.out; unfold maxLen; omega) (by have := HKB.out; have := HMS.out; omega) hb67.size ?_; intro v4 w8 hown8 hg8 hat8))
              have hsb8 : SB w8 v4 (R.take K ++ more) := by
                refine SB_of_own (base := w6.heap.size) ?_ (by rw [List.length_append, HKL.out]; have := HKB.out; have := HMS.out; omega)
                rw [List.length_append, HKL.out, bytesV_append]
                rw [Nat.zero_add, List.nil_append] at hown8
                exact hown8
              have hb68 : Below w6.heap.size w6 w8 := hb67.grown hg8 hb67.size (fun k hk => (hown7.lt k hk).1)
              refine (All_any _ (R.take K ++ more) w8 hsb8 (by rw [List.length_append, HKL.out]; have := HKB.out; have := HMS.out; omega)).mono ?_
              rintro e w9 ⟨n, rfl, hout9, hb9⟩
              obtain ⟨rest, hrest⟩ := recs_cut_more L HALL.out j K hj (by have := HZ.out; omega) (fun h => by have := HMAX.out h; have := HZ.out; omega) more
              have hlen9 := recs_len (R.take K ++ more).length 0 (R.take K ++ more)
              have hl0 : (R.take K ++ more).length ≤ 1099511627776 := by rw [List.length_append, HKL.out]; have := HKB.out; have := HMS.out; omega
              rw [← HR.out] at hrest
              rw [hrest] at hout9 hlen9 ⊢
              obtain ⟨Z9, hZ9⟩ : ∃ Z9, Z9 = 8 * (L.take j ++ rest).length + (L.take j ++ rest).flatten.length := ⟨_, rfl⟩
              obtain ⟨Q, hQ⟩ : ∃ Q, Q = (L.take j ++ rest).length := ⟨_, rfl⟩
              obtain ⟨S9, hS9⟩ : ∃ S9, S9 = lastS 0 (L.take j ++ rest) := ⟨_, rfl⟩
              have hjl : (L.take j).length = j := by rw [List.length_take, Nat.min_eq_left hj]
              have hQj : j ≤ Q := by rw [hQ, List.length_append, hjl]; omega
              have hzZ : z ≤ Z9 := by
                rw [hZ9, List.length_append, List.flatten_append, List.length_append, hjl]
                have := HZ.out
                omega
              rw [tailOf_eq, ← hQ, ← hS9]
              rw [show 8 * Q + (L.take j ++ rest).flatten.length = Z9 from by rw [hZ9, hQ]]
              have hs9 : SBB w9 n (L.take j ++ rest) := hout9.sbb (by omega) (fun q hq => by have := len_le_flat hq; omega)
              obtain ⟨An, cn, rfl, hs9, -⟩ := hs9.shape
              rw [← hQ]
              have hcn : Q ≤ cn := by rw [hQ]; exact hs9.cap
              have hjcn : j ≤ cn := by omega
              have HS9 : Hid (∀ W, Below w9.heap.size w9 W → SBB W (.slice An j cn) (L.take j)) := Lib.hid (fun W h => by
                have h1 := (hs9.below h).take j (by rw [← hQ]; exact hQj)
                rwa [List.take_append_of_le_length (by omega), List.take_of_length_le (by omega)] at h1)
              have hb69 : Below w6.heap.size w6 w9 := hb68.trans (hb9.mono hb68.size)
              have HB9 : Hid (Below w.heap.size w w9) := Lib.hid (HB6.out.trans (hb69.mono HB6.out.size))
              have HSM9 := Lib.hid (HSM6.out.below hb69)
              simp only [tv, tailV]
              clear hsb8 hb68 hout9 hb9 hrest hlen9 hl0 hZ9 hQ hS9 hjl hs9 hb69 hown7 hown8 hg7 hg8 hat7 hat8 hb67 c0 c1
              go_wp2_with fail
              obtain ⟨W10, hW10⟩ : ∃ W10, W10 = w9.alloc (Obj.cells #[Value.int IntKind.i64 ↑Q, Value.int IntKind.i64 ↑Z9, Value.int IntKind.u32 ↑S9] 30) := ⟨_, rfl⟩
              rw [← hW10]
              have hb10 : Below w9.heap.size w9 W10 := by rw [hW10]; exact below_alloc1 _ _
              have hn10 : W10.heap[w9.heap.size]? = some (.cells #[Value.int IntKind.i64 ↑Q, Value.int IntKind.i64 ↑Z9, Value.int IntKind.u32 ↑S9] 30 (0, 0)) := by rw [hW10]; exact World.alloc_heap_new _ _
              clear hW10
              refine (Same_any _ _ (L.take j) (L.take j) W10 (HS9.out W10 hb10) (HSM9.out.below hb10)).mono ?_
              rintro e w11 ⟨rfl, hb11⟩
              rw [show decide (L.take j = L.take j) = true from by simp]
              have hb911 := hb10.trans (hb11.mono hb10.size)
              have hn11 := blk_below hn10 hb11
              have d1 : w11.cell? ⟨w9.heap.size, 1, none⟩ = some (.int .i64 (Z9 : Int)) := cell_of_row w11 _ _ _ _ _ hn11
              have HB11 : Hid (Below w.heap.size w w11) := Lib.hid (HB9.out.trans (hb911.mono HB9.out.size))
              clear hb10 hn10 hb11 hb911 hn11
              go_wp2_with fail
              refine (awake_any w11).mono ?_
              rintro e w12 ⟨rfl, hb12⟩
              have HB12 := Lib.hid (HB11.out.trans (hb12.mono HB11.out.size))
              clear hb12
              go_wp2
              go_ret
              exact ⟨rfl, HB12.out⟩
          · have HMAX : Hid (∀ h : j < L.length, K < z + (8 + (L[j]).length)) := Lib.hid (fun h => absurd h hlt)
            have hkc : K ≤ cb := by have := HSU2.out.cap.2; omega
            go_wp2_with fail
            refine (All_any _ (R.take K) wr (HSU2.out.take K hKR) (by rw [List.length_take]; omega)).mono ?_
            rintro e w4 ⟨m, rfl, hout, hb4⟩
            have hrec : recs (R.take K).length 0 (R.take K) = L.take j := by
              rw [HR.out]
              exact recs_cut L HALL.out j K hj (by have := HZ.out; omega) (fun h => by have := HMAX.out h; have := HZ.out; omega)
            have htl : tailOf (L.take j) = (j, z, lastS 0 (L.take j)) := by rw [tailOf_eq, List.length_take, Nat.min_eq_left hj, HZ.out]
            rw [hrec] at hout ⊢
            rw [htl]
            obtain ⟨S, hS⟩ : ∃ S, S = lastS 0 (L.take j) := ⟨_, rfl⟩
            rw [← hS]
            have hjl : (L.take j).length = j := by rw [List.length_take, Nat.min_eq_left hj]
            have hsm : SBB w4 m (L.take j) := hout.sbb (by omega) (fun q hq => by have := len_le_flat (List.mem_of_mem_take hq); have := HTOT.out; omega)
            obtain ⟨Am, cm, rfl, hsm, -⟩ := hsm.shape
            rw [hjl] at hsm ⊢
            have HSM := Lib.hid hsm
            have HB4 : Hid (Below w.heap.size w w4) := Lib.hid (HB2.out.trans (hb4.mono HB2.out.size))
            have HSU4 := Lib.hid (HSU2.out.below hb4)
            have hjc : j ≤ c := by have := HV.out.cap; omega
            simp only [tv, tailV]
            clear hout hb4 hrec htl hS hsm hjl
            go_wp2_with fail
            obtain ⟨W5, hW5⟩ : ∃ W5, W5 = w4.alloc (Obj.cells #[Value.int IntKind.i64 ↑j, Value.int IntKind.i64 ↑z, Value.int IntKind.u32 ↑S] 30) := ⟨_, rfl⟩
            rw [← hW5]
            have hb5 : Below w4.heap.size w4 W5 := by rw [hW5]; exact below_alloc1 _ _
            have hn5 : W5.heap[w4.heap.size]? = some (.cells #[Value.int IntKind.i64 ↑j, Value.int IntKind.i64 ↑z, Value.int IntKind.u32 ↑S] 30 (0, 0)) := by rw [hW5]; exact World.alloc_heap_new _ _
            clear hW5
            have hsl : SBB W5 (.slice A j c) (L.take j) := ((HV.out.below HB4.out).below hb5).take j hj
            have hsm5 : SBB W5 (.slice Am j cm) (L.take j) := HSM.out.below hb5
            refine (Same_any _ _ (L.take j) (L.take j) W5 hsm5 hsl).mono ?_
            rintro e w6 ⟨rfl, hb6⟩
            rw [show decide (L.take j = L.take j) = true from by simp]
            have hb46 := hb5.trans (hb6.mono hb5.size)
            have hn6 := blk_below hn5 hb6
            have HB6 : Hid (Below w.heap.size w w6) := Lib.hid (HB4.out.trans (hb46.mono HB4.out.size))
            have HSU6 := Lib.hid (HSU4.out.below hb46)
            have HSM6 := Lib.hid (HSM.out.below hb46)
            have c0 : w6.cell? ⟨w4.heap.size, 0, none⟩ = some (.int .i64 (j : Int)) := cell_of_row w6 _ _ _ _ _ hn6
            have c1 : w6.cell? ⟨w4.heap.size, 1, none⟩ = some (.int .i64 (z : Int)) := cell_of_row w6 _ _ _ _ _ hn6
            clear hb5 hn5 hsl hsm5 hb6 hb46 hn6
            have hKl : (R.take K).length = K := by rw [List.length_take]; omega
            have hmade : (w6.alloc (.cells #[] 5)).ownsRow w6.heap.size 5 1 (.slice (some ⟨w6.heap.size, 0, none⟩) 0 0) 0 [] := World.ownsRow_made w6 #[] 0 (Nat.le_refl _) (by unfold maxLen; omega) (by simp)
            have hskt : SB (w6.alloc (.cells #[] 5)) (.slice Ab (R.take K).length cb) (R.take K) := by rw [hKl]; exact (HSU6.out.take K hKR).below (below_alloc1 _ _)
            obtain ⟨i0, hi0, hz0, hz1, hz2⟩ := info_parts info5
            have HI := Lib.hid hi0
            have HZ0 := Lib.hid hz0
            have HZ1 := Lib.hid hz1
            have HZ2 := Lib.hid hz2
            have HMADE := Lib.hid hmade
            have HSKT := Lib.hid hskt
            have HKL := Lib.hid hKl
            have HNIL : Hid (Ab = none → K = 0) := Lib.hid (fun h => by have := hskt.isNil h; omega)
            have HM2 : Hid (∀ w7 : World, Below w6.heap.size w6 w7 → SB w7 (.slice A2 more.length c2) more) := Lib.hid (fun w7 h => (HV2.out.below HB6.out).below h)
            have HMS := Lib.hid hm
            have HKB : Hid (K ≤ 540000) := Lib.hid (by omega)
            clear hi0 hz0 hz1 hz2 hmade hskt hKl
            go_wp2_with (first
              | (refine wpList_append_src _ rfl (.tmp 89) (.tmp 92) 25 rfl w6.heap.size 5 i0 (.int .u8 0) 1 Try.underlying25 HI.out HZ0.out HZ1.out HZ2.out rfl _ _ _ rfl HMADE.out Ab K cb (bytesV (R.take K)) rfl (by rw [bytesV_length]; exact HKL.out) HNIL.out HSKT.out.cells (bytesV_one _) (by have := HKB.out; unfold maxLen; omega) (by have := HKB.out; omega) (by simp) ?_; intro v3 w7 hown7 hg7 hat7; have hb67 : Below w6.heap.size w6 w7 := (below_alloc1 w6 _).grown hg7 (by simp) (fun k hk => (HMADE.out.lt k hk).1))
              | (refine wpList_append_src _ rfl (.tmp 93) (.tmp 94) 25 rfl w6.heap.size 5 i0 (.int .u8 0) 1 Try.underlying25 HI.out HZ0.out HZ1.out HZ2.out rfl _ _ _ rfl hown7 A2 more.length c2 (bytesV more) rfl (bytesV_length _) (HM2.out w7 hb67).isNil (HM2.out w7 hb67).cells (bytesV_one _) (by have := HKB.out; have := HMS.out; unfold maxLen; omega) (by have := HKB.out; have := HMS.out; omega) hb67.size ?_; intro v4 w8 hown8 hg8 hat8))
            have hsb8 : SB w8 v4 (R.take K ++ more) := by
              refine SB_of_own (base := w6.heap.size) ?_ (by rw [List.length_append, HKL.out]; have := HKB.out; have := HMS.out; omega)
              rw [List.length_append, HKL.out, bytesV_append]
              rw [Nat.zero_add, List.nil_append] at hown8
              exact hown8
            have hb68 : Below w6.heap.size w6 w8 := hb67.grown hg8 hb67.size (fun k hk => (hown7.lt k hk).1)
            refine (All_any _ (R.take K ++ more) w8 hsb8 (by rw [List.length_append, HKL.out]; have := HKB.out; have := HMS.out; omega)).mono ?_
            rintro e w9 ⟨n, rfl, hout9, hb9⟩
            obtain ⟨rest, hrest⟩ := recs_cut_more L HALL.out j K hj (by have := HZ.out; omega) (fun h => by have := HMAX.out h; have := HZ.out; omega) more
            have hlen9 := recs_len (R.take K ++ more).length 0 (R.take K ++ more)
            have hl0 : (R.take K ++ more).length ≤ 1099511627776 := by rw [List.length_append, HKL.out]; have := HKB.out; have := HMS.out; omega
            rw [← HR.out] at hrest
            rw [hrest] at hout9 hlen9 ⊢
            obtain ⟨Z9, hZ9⟩ : ∃ Z9, Z9 = 8 * (L.take j ++ rest).length + (L.take j ++ rest).flatten.length := ⟨_, rfl⟩
            obtain ⟨Q, hQ⟩ : ∃ Q, Q = (L.take j ++ rest).length := ⟨_, rfl⟩
            obtain ⟨S9, hS9⟩ : ∃ S9, S9 = lastS 0 (L.take j ++ rest) := ⟨_, rfl⟩
            have hjl : (L.take j).length = j := by rw [List.length_take, Nat.min_eq_left hj]
            have hQj : j ≤ Q := by rw [hQ, List.length_append, hjl]; omega
            have hzZ : z ≤ Z9 := by
              rw [hZ9, List.length_append, List.flatten_append, List.length_append, hjl]
              have := HZ.out
              omega
            rw [tailOf_eq, ← hQ, ← hS9]
            rw [show 8 * Q + (L.take j ++ rest).flatten.length = Z9 from by rw [hZ9, hQ]]
            have hs9 : SBB w9 n (L.take j ++ rest) := hout9.sbb (by omega) (fun q hq => by have := len_le_flat hq; omega)
            obtain ⟨An, cn, rfl, hs9, -⟩ := hs9.shape
            rw [← hQ]
            have hcn : Q ≤ cn := by rw [hQ]; exact hs9.cap
            have hjcn : j ≤ cn := by omega
            have HS9 : Hid (∀ W, Below w9.heap.size w9 W → SBB W (.slice An j cn) (L.take j)) := Lib.hid (fun W h => by
              have h1 := (hs9.below h).take j (by rw [← hQ]; exact hQj)
              rwa [List.take_append_of_le_length (by omega), List.take_of_length_le (by omega)] at h1)
            have hb69 : Below w6.heap.size w6 w9 := hb68.trans (hb9.mono hb68.size)
            have HB9 : Hid (Below w.heap.size w w9) := Lib.hid (HB6.out.trans (hb69.mono HB6.out.size))
            have HSM9 := Lib.hid (HSM6.out.below hb69)
            simp only [tv, tailV]
            clear hsb8 hb68 hout9 hb9 hrest hlen9 hl0 hZ9 hQ hS9 hjl hs9 hb69 hown7 hown8 hg7 hg8 hat7 hat8 hb67 c0 c1
            go_wp2_with fail
            obtain ⟨W10, hW10⟩ : ∃ W10, W10 = w9.alloc (Obj.cells #[Value.int IntKind.i64 ↑Q, Value.int IntKind.i64 ↑Z9, Value.int IntKind.u32 ↑S9] 30) := ⟨_, rfl⟩
            rw [← hW10]
            have hb10 : Below w9.heap.size w9 W10 := by rw [hW10]; exact below_alloc1 _ _
            have hn10 : W10.heap[w9.heap.size]? = some (.cells #[Value.int IntKind.i64 ↑Q, Value.int IntKind.i64 ↑Z9, Value.int IntKind.u32 ↑S9] 30 (0, 0)) := by rw [hW10]; exact World.alloc_heap_new _ _
            clear hW10
            refine (Same_any _ _ (L.take j) (L.take j) W10 (HS9.out W10 hb10) (HSM9.out.below hb10)).mono ?_
            rintro e w11 ⟨rfl, hb11⟩
            rw [show decide (L.take j = L.take j) = true from by simp]
            have hb911 := hb10.trans (hb11.mono hb10.size)
            have hn11 := blk_below hn10 hb11
            have d1 : w11.cell? ⟨w9.heap.size, 1, none⟩ = some (.int .i64 (Z9 : Int)) := cell_of_row w11 _ _ _ _ _ hn11
            have HB11 : Hid (Below w.heap.size w w11) := Lib.hid (HB9.out.trans (hb911.mono HB9.out.size))
            clear hb10 hn10 hb11 hb911 hn11
            go_wp2_with fail
            refine (awake_any w11).mono ?_
            rintro e w12 ⟨rfl, hb12⟩
            have HB12 := Lib.hid (HB11.out.trans (hb12.mono HB11.out.size))
            clear hb12
            go_wp2
            go_ret
            exact ⟨rfl, HB12.out⟩
      · simp only []
        go_wp2_with fail
        refine (awake_any _).mono ?_
        rintro e w2 ⟨rfl, hb2⟩
        have h0 := (below_alloc1 w1 (.cells #[.int .i64 0, .int .i64 0, .int .u32 0] 30))
        have HB2 : Hid (Below w.heap.size w w2) := Lib.hid (HB1.out.trans ((h0.trans (hb2.mono h0.size)).mono HB1.out.size))
        clear hb2 h0
        go_wp2
        go_ret
        exact ⟨rfl, HB2.out⟩
    · have hd2 : decide ((60000 : Int) < (more.length : Int)) = true := by simp; omega
      go_enter Try.func6, Try.ntmps6
      go_wp2_with fail
      refine (long_any _ L w HV.out).mono ?_
      rintro e w1 ⟨rfl, rfl⟩
      rw [hd1]
      clear hd1 hm
      go_wp2_with fail
      refine (awake_any w).mono ?_
      rintro e w2 ⟨rfl, hb⟩
      have HB := Lib.hid hb
      clear hb
      go_wp2
      go_ret
      exact ⟨rfl, HB.out⟩
end Go.Proofs.Ytlhdnloimgckgaa
