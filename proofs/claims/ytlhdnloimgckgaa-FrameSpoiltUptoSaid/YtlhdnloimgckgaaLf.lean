/-
  FrameSpoilt, walked.
-/
import Derived.Test.YtlhdnloimgckgaaLc
import Derived.Test.YtlhdnloimgckgaaWv
import Derived.BigQuiet
namespace Go.Proofs.Ytlhdnloimgckgaa
open Go.RowKit Go.Shelf

set_option maxHeartbeats 2000000 in
set_option maxRecDepth 4000 in
theorem FrameSpoilt_any (v : Value) (L : List (List UInt8)) (x1 x2 x3 x4 : Int) (w : World) (hv : SBB w v L) :
    Calls Try.prog 8 #[v, .int .i64 x1, .int .i64 x2, .int .i64 x3, .int .i64 x4] w fun e w' => e = .returned (.bool true) ∧ Below w.heap.size w w' := by
  obtain ⟨A, c, rfl, hv, -⟩ := hv.shape
  have HV := Lib.hid hv
  clear hv
  by_cases hlong : 60000 < tot L
  · go_enter Try.func8, Try.ntmps8
    go_wp2_with fail
    refine (long_any _ L w HV.out).mono ?_
    rintro e w1 ⟨rfl, rfl⟩
    rw [show decide (60000 < tot L) = true from by simp [hlong]]
    clear hlong
    go_wp2_with fail
    refine (awake_any w).mono ?_
    rintro e w2 ⟨rfl, hb⟩
    have HB := Lib.hid hb
    clear hb
    go_wp2
    go_ret
    exact ⟨rfl, HB.out⟩
  · have htot := tot_eq L
    have HTOT : Hid (L.length + L.flatten.length ≤ 60000) := Lib.hid (by omega)
    have hd1 : decide (60000 < tot L) = false := by simp; omega
    have hLl : L.length ≤ 60000 := by omega
    clear htot hlong
    by_cases hz : L.length = 0
    · have hz' : ((L.length : Int) == 0) = true := by rw [beq_iff_eq]; omega
      have HZ := Lib.hid hz
      clear hz
      go_enter Try.func8, Try.ntmps8
      go_wp2_with fail
      refine (long_any _ L w HV.out).mono ?_
      rintro e w1 ⟨rfl, rfl⟩
      rw [hd1]
      clear hd1
      go_wp2_with fail
      refine (awake_any w).mono ?_
      rintro e w2 ⟨rfl, hb⟩
      have HB := Lib.hid hb
      clear hb
      go_wp2
      go_ret
      exact ⟨rfl, HB.out⟩
    · have hz' : ((L.length : Int) == 0) = false := by rw [beq_eq_false_iff_ne]; omega
      have hLpos : 0 < L.length := by omega
      have hlz : ¬ ((L.length : Int) = 0) := by omega
      clear hz
      obtain ⟨m1, hm1, hm1'⟩ := i64_mask x1 65535 (by decide)
      have hm1 : bits BinOp.and IntKind.i64 x1 65535 = (m1 : Int) := hm1
      go_enter Try.func8, Try.ntmps8
      go_wp2_with fail
      refine (long_any _ L w HV.out).mono ?_
      rintro e w1 ⟨rfl, rfl⟩
      rw [hd1]
      clear hd1
      go_wp2_with fail
      refine (Row_any _ L w HV.out (by have := HTOT.out; omega)).mono ?_
      rintro e w1 ⟨h, hb1⟩
      have HB1 := Lib.hid hb1
      clear hb1
      rcases h with ⟨hall, u, rfl, hown⟩ | ⟨_, rfl⟩
      · obtain ⟨R, hR⟩ : ∃ R, R = rowF 0 L := ⟨_, rfl⟩
        have hRl : R.length ≤ 540000 := by rw [hR, rowF_length]; have := HTOT.out; omega
        have hRl' : R.length = 8 * L.length + L.flatten.length := by rw [hR, rowF_length]
        rw [← hR] at hown
        obtain ⟨⟨tc, ts, tx⟩, hT⟩ : ∃ t, tailOf L = t := ⟨_, rfl⟩
        rw [hT]
        obtain ⟨Ab, cb, rfl, hsu, -⟩ := (SB_of_own hown (by omega)).shape
        have HR := Lib.hid hR
        have HRL := Lib.hid hRl'
        have HSU := Lib.hid hsu
        have HALL := Lib.hid hall
        simp only [tvs]
        clear hR hown hT hsu hall hRl'
        go_wp2_with fail
        obtain ⟨W2, hW2⟩ : ∃ W2, W2 = w1.alloc (Obj.cells #[Value.int IntKind.i64 ↑tc, Value.int IntKind.i64 ↑ts, Value.int IntKind.u32 ↑tx] 30) := ⟨_, rfl⟩
        rw [← hW2]
        have hb2 : Below w1.heap.size w1 W2 := by rw [hW2]; exact below_alloc1 _ _
        have HB2 : Hid (Below w.heap.size w W2) := Lib.hid (HB1.out.trans (hb2.mono HB1.out.size))
        have HSU2 := Lib.hid (HSU.out.below hb2)
        clear hW2 hb2 HSU HB1
        obtain ⟨K, hK, hKL⟩ : ∃ K : Nat, (m1 : Int) % (L.length : Int) = (K : Int) ∧ K < L.length := ⟨m1 % L.length, by omega, Nat.mod_lt _ hLpos⟩
        rw [hK]
        clear hK hm1
        go_loopw [15, 16] (fun s i wr => ∃ j z : Nat, j ≤ K ∧ i = .int .i64 (j : Int) ∧ s = .int .i64 (z : Int) ∧ z = 8 * j + (L.take j).flatten.length ∧ wr = W2) (fun _ i _ => K - (intOf i).toNat)
        case atStart => exact ⟨0, 0, by omega, rfl, rfl, by simp, rfl⟩
        case round =>
          obtain ⟨j, z, hj, rfl, rfl, hz, rfl⟩ := hrel
          have HZ := Lib.hid hz
          have hzs : z ≤ 540000 := by have := flat_len_le L j; have := HTOT.out; omega
          clear hz
          have hjL : j < L.length := by omega
          obtain ⟨b, o, A3, c3, rfl, hcell, hsb, hl3⟩ := HV.out.at_ j hjL
          have hcell2 := cell_below HB2.out hcell
          have HFS := Lib.hid (flat_len_succ L j hjL)
          have hpl : (L[j]).length ≤ 60000 := by have := HTOT.out; have := len_le_flat (List.getElem_mem hjL); omega
          have hfit : z + (8 + (L[j]).length) ≤ R.length := by
            have h1 := flat_len_le L (j + 1)
            have := HZ.out; have := HFS.out; have := HRL.out
            omega
          have HFIT := Lib.hid hfit
          have hpl2 : (L[j]).length ≤ 16384 := HALL.out _ (List.getElem_mem hjL)
          obtain ⟨p, hp⟩ : ∃ p : List UInt8, p = L[j]'hjL := ⟨_, rfl⟩
          rw [← hp] at hcell2 hpl HFS HFIT hpl2
          have HP := Lib.hid hp
          clear hp hcell hsb hl3 hfit
          by_cases hlt : j < K
          · go_wp2_with (first | (refine (Size_any A3 p.length c3 (by omega) _).mono ?_; rintro e w9 ⟨rfl, rfl⟩) | fail)
            go_roundw
            case rel =>
              refine ⟨j + 1, z + (8 + p.length), by omega, by go_num, by go_num, ?_, trivial⟩
              rw [HFS.out, HZ.out]
              omega
            case measure => simp [intOf]; omega
          · obtain rfl : j = K := by omega
            have hfit2 := HFIT.out
            obtain ⟨m2, hm2, hm2'⟩ := i64_mask x2 268435455 (by decide)
            obtain ⟨m3, hm3, hm3'⟩ := i64_mask x3 268435455 (by decide)
            obtain ⟨m4, hm4, hm4'⟩ := i64_mask x4 268435455 (by decide)
            have hm2 : bits BinOp.and IntKind.i64 x2 268435455 = (m2 : Int) := hm2
            have hm3 : bits BinOp.and IntKind.i64 x3 268435455 = (m3 : Int) := hm3
            have hm4 : bits BinOp.and IntKind.i64 x4 268435455 = (m4 : Int) := hm4
            go_wp2_with (first | (refine (Size_any A3 p.length c3 (by omega) _).mono ?_; rintro e w9 ⟨rfl, rfl⟩) | fail)
            obtain ⟨N, hN⟩ : ∃ N : Nat, N = 8 * (4 + p.length) := ⟨_, rfl⟩
            have hNe : (8 * (8 + (p.length : Int) - 4)) = (N : Int) := by omega
            have hN0 : 0 < N := by omega
            have hNb : N ≤ 600000 := by omega
            rw [hNe]
            have HN := Lib.hid hN
            clear hNe hN hfit2
            refine region_f 13 (fun i vs W => match i with
                | 0 => vs 0 = .int .i64 x2
                | 1 => vs 1 = .int .i64 (m2 : Int)
                | 2 => vs 2 = .int .i64 (N : Int)
                | 3 => vs 3 = .int .i64 ((m2 % N : Nat) : Int)
                | 4 => vs 4 = .int .i64 x3
                | 5 => vs 5 = .int .i64 (m3 : Int)
                | 6 => vs 6 = .int .i64 (N : Int)
                | 7 => vs 7 = .int .i64 ((m3 % N : Nat) : Int)
                | 8 => vs 8 = .int .i64 x4
                | 9 => vs 9 = .int .i64 (m4 : Int)
                | 10 => vs 10 = .int .i64 (N : Int)
                | 11 => vs 11 = .int .i64 ((m4 % N : Nat) : Int)
                | 12 => ∃ g, vs 12 = .slice (some ⟨g, 0, none⟩) 3 3 ∧ wr.heap.size ≤ g ∧ W.heap[g]? = some (.cells #[.int .i64 ((m2 % N : Nat) : Int), .int .i64 ((m3 % N : Nat) : Int), .int .i64 ((m4 % N : Nat) : Int)] 3 (0, 0))
                | _ => True) (fun _ W W' => Below W.heap.size W W') (fun W => Below wr.heap.size wr W) (by kernel_rfl) (by kernel_rfl) ?hst5 ?h05 ?step5 ?fin5
            case hst5 =>
              intro i k vs w w' _ _ h hG
              match i, h with
              | 0, h => exact h
              | 1, h => exact h
              | 2, h => exact h
              | 3, h => exact h
              | 4, h => exact h
              | 5, h => exact h
              | 6, h => exact h
              | 7, h => exact h
              | 8, h => exact h
              | 9, h => exact h
              | 10, h => exact h
              | 11, h => exact h
              | 12, h => exact ⟨h.choose, h.choose_spec.1, h.choose_spec.2.1, blk_below h.choose_spec.2.2 hG⟩
              | n + 13, _ => trivial
            case h05 => exact (Below.refl _ _).drew
            case step5 =>
              intro i op hi ho a W hS hag hdep
              have hbr : Below W.heap.size W W := Below.refl _ _
              match i, hi, ho with
              | 0, _, rfl =>
                exact ow_move _ rfl (hag 2 rfl) ⟨_, rfl, fun vs' h _ => h (fun e => by cases e), hbr, hS⟩
              | 1, _, rfl =>
                have h1 : a.eval (.tmp 82) = .int .i64 x2 := hdep 0 (by omega) (by kernel_rfl)
                exact ow_and_mask _ _ rfl _ 268435455 h1 rfl hm2 ⟨_, rfl, fun vs' h _ => h (fun e => by cases e), hbr, hS⟩
              | 2, _, rfl =>
                exact ow_move _ rfl (hag 17 rfl) ⟨_, rfl, fun vs' h _ => h (fun e => by cases e), hbr, hS⟩
              | 3, _, rfl =>
                have h1 : a.eval (.tmp 83) = .int .i64 (m2 : Int) := hdep 1 (by omega) (by kernel_rfl)
                have h2 : a.eval (.tmp 84) = .int .i64 (N : Int) := hdep 2 (by omega) (by kernel_rfl)
                exact ow_rem_nat _ _ rfl m2 N h1 h2 hN0 ⟨_, rfl, fun vs' h _ => h (fun e => by cases e), hbr, hS⟩
              | 4, _, rfl =>
                exact ow_move _ rfl (hag 3 rfl) ⟨_, rfl, fun vs' h _ => h (fun e => by cases e), hbr, hS⟩
              | 5, _, rfl =>
                have h1 : a.eval (.tmp 86) = .int .i64 x3 := hdep 4 (by omega) (by kernel_rfl)
                exact ow_and_mask _ _ rfl _ 268435455 h1 rfl hm3 ⟨_, rfl, fun vs' h _ => h (fun e => by cases e), hbr, hS⟩
              | 6, _, rfl =>
                exact ow_move _ rfl (hag 17 rfl) ⟨_, rfl, fun vs' h _ => h (fun e => by cases e), hbr, hS⟩
              | 7, _, rfl =>
                have h1 : a.eval (.tmp 87) = .int .i64 (m3 : Int) := hdep 5 (by omega) (by kernel_rfl)
                have h2 : a.eval (.tmp 88) = .int .i64 (N : Int) := hdep 6 (by omega) (by kernel_rfl)
                exact ow_rem_nat _ _ rfl m3 N h1 h2 hN0 ⟨_, rfl, fun vs' h _ => h (fun e => by cases e), hbr, hS⟩
              | 8, _, rfl =>
                exact ow_move _ rfl (hag 4 rfl) ⟨_, rfl, fun vs' h _ => h (fun e => by cases e), hbr, hS⟩
              | 9, _, rfl =>
                have h1 : a.eval (.tmp 90) = .int .i64 x4 := hdep 8 (by omega) (by kernel_rfl)
                exact ow_and_mask _ _ rfl _ 268435455 h1 rfl hm4 ⟨_, rfl, fun vs' h _ => h (fun e => by cases e), hbr, hS⟩
              | 10, _, rfl =>
                exact ow_move _ rfl (hag 17 rfl) ⟨_, rfl, fun vs' h _ => h (fun e => by cases e), hbr, hS⟩
              | 11, _, rfl =>
                have h1 : a.eval (.tmp 91) = .int .i64 (m4 : Int) := hdep 9 (by omega) (by kernel_rfl)
                have h2 : a.eval (.tmp 92) = .int .i64 (N : Int) := hdep 10 (by omega) (by kernel_rfl)
                exact ow_rem_nat _ _ rfl m4 N h1 h2 hN0 ⟨_, rfl, fun vs' h _ => h (fun e => by cases e), hbr, hS⟩
              | 12, _, rfl =>
                have h1 : a.eval (.tmp 85) = .int .i64 ((m2 % N : Nat) : Int) := hdep 3 (by omega) (by kernel_rfl)
                have h2 : a.eval (.tmp 89) = .int .i64 ((m3 % N : Nat) : Int) := hdep 7 (by omega) (by kernel_rfl)
                have h3 : a.eval (.tmp 93) = .int .i64 ((m4 % N : Nat) : Int) := hdep 11 (by omega) (by kernel_rfl)
                exact ow_build46 _ _ _ rfl _ _ _ h1 h2 h3 ⟨_, rfl, fun vs' h _ => ⟨_, h (fun e => by cases e), hS.size, heap_alloc_new W _⟩, below_alloc1 _ _, hS.trans ((below_alloc1 W _).mono hS.size)⟩
              | n + 13, hi, _ => exact absurd hi (by omega)
            case fin5 =>
              intro vs W hS hF
              have e0 : vs 0 = .int .i64 x2 := hF 0 (by omega)
              have e1 : vs 1 = .int .i64 (m2 : Int) := hF 1 (by omega)
              have e2 : vs 2 = .int .i64 (N : Int) := hF 2 (by omega)
              have e3 : vs 3 = .int .i64 ((m2 % N : Nat) : Int) := hF 3 (by omega)
              have e4 : vs 4 = .int .i64 x3 := hF 4 (by omega)
              have e5 : vs 5 = .int .i64 (m3 : Int) := hF 5 (by omega)
              have e6 : vs 6 = .int .i64 (N : Int) := hF 6 (by omega)
              have e7 : vs 7 = .int .i64 ((m3 % N : Nat) : Int) := hF 7 (by omega)
              have e8 : vs 8 = .int .i64 x4 := hF 8 (by omega)
              have e9 : vs 9 = .int .i64 (m4 : Int) := hF 9 (by omega)
              have e10 : vs 10 = .int .i64 (N : Int) := hF 10 (by omega)
              have e11 : vs 11 = .int .i64 ((m4 % N : Nat) : Int) := hF 11 (by omega)
              have f12 := hF 12 (by omega)
              clear hF
              change wpList _ _ _ _ (Act.put (Act.put (Act.put (Act.put (Act.put (Act.put (Act.put (Act.put (Act.put (Act.put (Act.put (Act.put (Act.put _ (some 82) (vs 0)) (some 83) (vs 1)) (some 84) (vs 2)) (some 85) (vs 3)) (some 86) (vs 4)) (some 87) (vs 5)) (some 88) (vs 6)) (some 89) (vs 7)) (some 90) (vs 8)) (some 91) (vs 9)) (some 92) (vs 10)) (some 93) (vs 11)) (some 94) (vs 12)) W
              rw [e0, e1, e2, e3, e4, e5, e6, e7, e8, e9, e10, e11]
              clear e0 e1 e2 e3 e4 e5 e6 e7 e8 e9 e10 e11
              obtain ⟨gt, e12, hgt, hgc⟩ := f12
              rw [e12]
              clear e12
              simp only [putAll, List.drop_succ_cons, List.drop_zero, Act.put, List.setIfInBounds_toArray, List.set_cons_zero, List.set_cons_succ]
              clear vs
              have hN0' : ¬ ((N : Int) = 0) := by omega
              have HSS := Lib.hid hS
              have HGC := Lib.hid hgc
              clear hS hgc
              obtain ⟨T, hTdef⟩ : ∃ T : Nat → Nat, T = fun i => if i = 0 then m2 % N else if i = 1 then m3 % N else m4 % N := ⟨_, rfl⟩
              have hTlt : ∀ i, T i < N := by
                intro i
                rw [hTdef]
                show (if i = 0 then m2 % N else if i = 1 then m3 % N else m4 % N) < N
                split
                · exact Nat.mod_lt _ hN0
                · split <;> exact Nat.mod_lt _ hN0
              have hTc : ∀ i, i < 3 → W.cell? ⟨gt, i, none⟩ = some (.int .i64 (T i : Int)) := by
                intro i hi
                rw [cell_of_row W gt i _ _ _ HGC.out, hTdef]
                match i, hi with
                | 0, _ => rfl
                | 1, _ => rfl
                | 2, _ => rfl
              have HTL := Lib.hid hTlt
              have HTC := Lib.hid hTc
              clear hTdef hTlt hTc HGC hm2 hm3 hm4
              obtain ⟨i0, hi0, hz0, hz1, hz2⟩ := info_parts info5
              have HI := Lib.hid hi0
              have HZ0 := Lib.hid hz0
              have HZ1 := Lib.hid hz1
              have HZ2 := Lib.hid hz2
              have hmade : (W.alloc (.cells #[] 5)).ownsRow W.heap.size 5 1 (.slice (some ⟨W.heap.size, 0, none⟩) 0 0) 0 [] := World.ownsRow_made W #[] 0 (Nat.le_refl _) (by unfold maxLen; omega) (by simp)
              have HMADE := Lib.hid hmade
              have HSW := Lib.hid ((HSU2.out.below HSS.out).below (below_alloc1 W (.cells #[] 5)))
              have HRl := Lib.hid hRl
              clear hi0 hz0 hz1 hz2 hmade
              go_wp2_with (first | (at_builtin; (refine wpList_append_src _ rfl (.tmp 95) (.tmp 96) 25 rfl W.heap.size 5 i0 (.int .u8 0) 1 Try.underlying25 HI.out HZ0.out HZ1.out HZ2.out rfl _ _ _ rfl HMADE.out Ab R.length cb (bytesV R) rfl (bytesV_length _) HSW.out.isNil HSW.out.cells (bytesV_one _) (by have := HRl.out; unfold maxLen; omega) (by have := HRl.out; omega) (by simp) ?_; intro v7 w7 hown7 hg7 hat7)))
              have hRpos : 0 < R.length := by have := HFIT.out; omega
              have hb7 : Below W.heap.size W w7 := (below_alloc1 W _).grown hg7 (by simp) (fun k hk => (HMADE.out.lt k hk).1)
              have HB7 := Lib.hid hb7
              rw [Nat.zero_add, List.nil_append] at hown7
              rcases hown7.2 with ⟨_, h0⟩ | ⟨gc, cap, cur0, rfl, hgc, hg0, hnc, hcm, hsz, htk⟩
              · exact absurd h0 (by omega)
              rw [Nat.mul_one] at htk
              have HG0 := Lib.hid hg0
              have HTK := Lib.hid htk
              have HNC := Lib.hid hnc
              have HGC := Lib.hid hgc
              clear hown7 hg7 hat7 hb7 hg0 htk hcm hsz hnc hgc HMADE HSW HI HZ0 HZ1 HZ2
              go_loopw [20] (fun i wq => ∃ (k : Nat) (cur : Array Value) (C : List UInt8), k ≤ 3 ∧ i = .int .i64 (k : Int) ∧ wq.heap[gc]? = some (.cells cur 5 (0, 0)) ∧ cur.size = cur0.size ∧ C.length = R.length ∧ cur.toList.take R.length = bytesV C ∧ C.take (z + 4) = R.take (z + 4) ∧ C.drop (z + (8 + p.length)) = R.drop (z + (8 + p.length)) ∧ Crc.pars C = (Crc.pars R + k) % 2 ∧ Below W.heap.size W wq) (fun i _ => 3 - (intOf i).toNat)
              case atStart => exact ⟨0, cur0, R, by omega, rfl, HG0.out, rfl, rfl, HTK.out, rfl, rfl, by have := Crc.pars_lt R; omega, HB7.out⟩
              case round =>
                obtain ⟨k, cur, C, hk3, rfl, hcur, hcs, hCl, hCtk, hC1, hC2, hC3, hbq⟩ := hrel
                have HCUR := Lib.hid hcur
                have HCS := Lib.hid hcs
                have HCL := Lib.hid hCl
                have HCTK := Lib.hid hCtk
                have HC1 := Lib.hid hC1
                have HC2 := Lib.hid hC2
                have HC3 := Lib.hid hC3
                have HBQ := Lib.hid hbq
                clear hcur hcs hCl hCtk hC1 hC2 hC3 hbq
                by_cases hk : k < 3
                · have hd3 : decide ((k : Int) < 3) = true := by simp; omega
                  have hTk := HTL.out k
                  have hix : z + 4 + T k / 8 < R.length := by
                    have h1 := HN.out; have h2 := HFIT.out
                    omega
                  have hcT := cell_below HBQ.out (HTC.out k hk)
                  have hixC : z + 4 + T k / 8 < C.length := by rw [HCL.out]; exact hix
                  have hcC : wr.cell? ⟨gc, z + 4 + T k / 8, none⟩ = some (.int .u8 ((C[z + 4 + T k / 8]'hixC).toNat : Int)) := by
                    rw [cell_of_row wr gc _ _ _ _ HCUR.out]
                    have h1 : cur.toList[z + 4 + T k / 8]? = (bytesV C)[z + 4 + T k / 8]? := by rw [← HCTK.out, List.getElem?_take_of_lt hix]
                    simpa [bytesV, hixC] using h1
                  have hfz : wr.frozen? ⟨gc, z + 4 + T k / 8, none⟩ = false := frozen_of_row wr gc _ _ _ HCUR.out
                  obtain ⟨ch, hch⟩ : ∃ ch : UInt8, ch = C[z + 4 + T k / 8]'hixC := ⟨_, rfl⟩
                  rw [← hch] at hcC
                  have hchl := ch.toNat_lt
                  have HCH := Lib.hid hch
                  have hT8 : T k % 8 < 8 := Nat.mod_lt _ (by decide)
                  have HIX := Lib.hid hix
                  clear hch
                  go_wp2_with fail
                  refine region_f 18 (fun i vs W => match i with
                      | 0 => vs 0 = .slice (some ⟨gc, 0, none⟩) R.length cap
                      | 1 => vs 1 = .int .i64 (z : Int)
                      | 2 => vs 2 = .int .i64 ((z + 4 : Nat) : Int)
                      | 3 => vs 3 = .slice (some ⟨gt, 0, none⟩) 3 3
                      | 4 => vs 4 = .int .i64 (k : Int)
                      | 5 => vs 5 = .pointer (some ⟨gt, 0 + k, none⟩)
                      | 6 => vs 6 = .int .i64 (T k : Int)
                      | 7 => vs 7 = .int .i64 ((T k / 8 : Nat) : Int)
                      | 8 => vs 8 = .int .i64 ((z + 4 + T k / 8 : Nat) : Int)
                      | 9 => vs 9 = .pointer (some ⟨gc, 0 + (z + 4 + T k / 8), none⟩)
                      | 10 => vs 10 = .int .u8 (ch.toNat : Int)
                      | 11 => vs 11 = .slice (some ⟨gt, 0, none⟩) 3 3
                      | 12 => vs 12 = .int .i64 (k : Int)
                      | 13 => vs 13 = .pointer (some ⟨gt, 0 + k, none⟩)
                      | 14 => vs 14 = .int .i64 (T k : Int)
                      | 15 => vs 15 = .int .i64 ((T k % 8 : Nat) : Int)
                      | 16 => vs 16 = .int .u8 ((2 ^ (T k % 8) : Nat) : Int)
                      | 17 => vs 17 = .int .u8 ((ch.toNat ^^^ 2 ^ (T k % 8) : Nat) : Int)
                      | _ => True) (fun _ W W' => Below W.heap.size W W') (fun W => Below wr.heap.size wr W) (by kernel_rfl) (by kernel_rfl) (fun i k vs w w' _ _ h _ => h) ?h06 ?step6 ?fin6
                  case h06 => exact (Below.refl _ _).drew
                  case step6 =>
                    intro i op hi ho a W_1 hS hag hdep
                    have hbr : Below W_1.heap.size W_1 W_1 := Below.refl _ _
                    match i, hi, ho with
                    | 0, _, rfl =>
                      exact ow_move _ rfl (hag 19 rfl) ⟨_, rfl, fun vs' h _ => h (fun e => by cases e), hbr, hS⟩
                    | 1, _, rfl =>
                      exact ow_move _ rfl (hag 15 rfl) ⟨_, rfl, fun vs' h _ => h (fun e => by cases e), hbr, hS⟩
                    | 2, _, rfl =>
                      have h1 : a.eval (.tmp 103) = .int .i64 (z : Int) := hdep 1 (by omega) (by kernel_rfl)
                      exact ow_add_nat _ _ 3 3 z 4 rfl h1 rfl Try.underlying3 (by omega) ⟨_, rfl, fun vs' h _ => h (fun e => by cases e), hbr, hS⟩
                    | 3, _, rfl =>
                      exact ow_move _ rfl (hag 18 rfl) ⟨_, rfl, fun vs' h _ => h (fun e => by cases e), hbr, hS⟩
                    | 4, _, rfl =>
                      exact ow_move _ rfl (hag 20 rfl) ⟨_, rfl, fun vs' h _ => h (fun e => by cases e), hbr, hS⟩
                    | 5, _, rfl =>
                      have h1 : a.eval (.tmp 105) = .slice (some ⟨gt, 0, none⟩) 3 3 := hdep 3 (by omega) (by kernel_rfl)
                      have h2 : a.eval (.tmp 106) = .int .i64 (k : Int) := hdep 4 (by omega) (by kernel_rfl)
                      exact ow_index _ _ 3 46 rfl gt 0 3 3 k h1 h2 hk Try.underlying46 (by kernel_rfl) ⟨_, rfl, fun vs' h _ => h (fun e => by cases e), hbr, hS⟩
                    | 6, _, rfl =>
                      have h1 : a.eval (.tmp 107) = .pointer (some ⟨gt, 0 + k, none⟩) := hdep 5 (by omega) (by kernel_rfl)
                      exact ow_load_int _ 3 .i64 rfl gt (0 + k) h1 _ (by rw [Nat.zero_add]; exact cell_below hS hcT) Try.underlying3 ⟨_, rfl, fun vs' h _ => h (fun e => by cases e), hbr, hS⟩
                    | 7, _, rfl =>
                      have h1 : a.eval (.tmp 108) = .int .i64 (T k : Int) := hdep 6 (by omega) (by kernel_rfl)
                      exact ow_quo_nat _ _ rfl (T k) 8 h1 rfl (by decide) (by omega) ⟨_, rfl, fun vs' h _ => h (fun e => by cases e), hbr, hS⟩
                    | 8, _, rfl =>
                      have h1 : a.eval (.tmp 104) = .int .i64 ((z + 4 : Nat) : Int) := hdep 2 (by omega) (by kernel_rfl)
                      have h2 : a.eval (.tmp 109) = .int .i64 ((T k / 8 : Nat) : Int) := hdep 7 (by omega) (by kernel_rfl)
                      exact ow_add_nat _ _ 3 3 (z + 4) (T k / 8) rfl h1 h2 Try.underlying3 (by omega) ⟨_, rfl, fun vs' h _ => h (fun e => by cases e), hbr, hS⟩
                    | 9, _, rfl =>
                      have h1 : a.eval (.tmp 102) = .slice (some ⟨gc, 0, none⟩) R.length cap := hdep 0 (by omega) (by kernel_rfl)
                      have h2 : a.eval (.tmp 110) = .int .i64 ((z + 4 + T k / 8 : Nat) : Int) := hdep 8 (by omega) (by kernel_rfl)
                      exact ow_index _ _ 5 25 rfl gc 0 R.length cap (z + 4 + T k / 8) h1 h2 HIX.out Try.underlying25 (by kernel_rfl) ⟨_, rfl, fun vs' h _ => h (fun e => by cases e), hbr, hS⟩
                    | 10, _, rfl =>
                      have h1 : a.eval (.tmp 111) = .pointer (some ⟨gc, 0 + (z + 4 + T k / 8), none⟩) := hdep 9 (by omega) (by kernel_rfl)
                      exact ow_load_int _ 5 .u8 rfl gc (0 + (z + 4 + T k / 8)) h1 _ (by rw [Nat.zero_add]; exact cell_below hS hcC) Try.underlying5 ⟨_, rfl, fun vs' h _ => h (fun e => by cases e), hbr, hS⟩
                    | 11, _, rfl =>
                      exact ow_move _ rfl (hag 18 rfl) ⟨_, rfl, fun vs' h _ => h (fun e => by cases e), hbr, hS⟩
                    | 12, _, rfl =>
                      exact ow_move _ rfl (hag 20 rfl) ⟨_, rfl, fun vs' h _ => h (fun e => by cases e), hbr, hS⟩
                    | 13, _, rfl =>
                      have h1 : a.eval (.tmp 113) = .slice (some ⟨gt, 0, none⟩) 3 3 := hdep 11 (by omega) (by kernel_rfl)
                      have h2 : a.eval (.tmp 114) = .int .i64 (k : Int) := hdep 12 (by omega) (by kernel_rfl)
                      exact ow_index _ _ 3 46 rfl gt 0 3 3 k h1 h2 hk Try.underlying46 (by kernel_rfl) ⟨_, rfl, fun vs' h _ => h (fun e => by cases e), hbr, hS⟩
                    | 14, _, rfl =>
                      have h1 : a.eval (.tmp 115) = .pointer (some ⟨gt, 0 + k, none⟩) := hdep 13 (by omega) (by kernel_rfl)
                      exact ow_load_int _ 3 .i64 rfl gt (0 + k) h1 _ (by rw [Nat.zero_add]; exact cell_below hS hcT) Try.underlying3 ⟨_, rfl, fun vs' h _ => h (fun e => by cases e), hbr, hS⟩
                    | 15, _, rfl =>
                      have h1 : a.eval (.tmp 116) = .int .i64 (T k : Int) := hdep 14 (by omega) (by kernel_rfl)
                      exact ow_rem_nat _ _ rfl (T k) 8 h1 rfl (by decide) ⟨_, rfl, fun vs' h _ => h (fun e => by cases e), hbr, hS⟩
                    | 16, _, rfl =>
                      have h1 : a.eval (.tmp 117) = .int .i64 ((T k % 8 : Nat) : Int) := hdep 15 (by omega) (by kernel_rfl)
                      exact ow_shl1 _ _ rfl (T k % 8) hT8 rfl h1 ⟨_, rfl, fun vs' h _ => h (fun e => by cases e), hbr, hS⟩
                    | 17, _, rfl =>
                      have h1 : a.eval (.tmp 112) = .int .u8 (ch.toNat : Int) := hdep 10 (by omega) (by kernel_rfl)
                      have h2 : a.eval (.tmp 118) = .int .u8 ((2 ^ (T k % 8) : Nat) : Int) := hdep 16 (by omega) (by kernel_rfl)
                      exact ow_xor8 _ _ rfl _ _ hchl (pow_lt_256 hT8) h1 h2 ⟨_, rfl, fun vs' h _ => h (fun e => by cases e), hbr, hS⟩
                    | n + 18, hi, _ => exact absurd hi (by omega)
                  case fin6 =>
                    intro vs W_1 hS hF
                    have e0 : vs 0 = .slice (some ⟨gc, 0, none⟩) R.length cap := hF 0 (by omega)
                    have e1 : vs 1 = .int .i64 (z : Int) := hF 1 (by omega)
                    have e2 : vs 2 = .int .i64 ((z + 4 : Nat) : Int) := hF 2 (by omega)
                    have e3 : vs 3 = .slice (some ⟨gt, 0, none⟩) 3 3 := hF 3 (by omega)
                    have e4 : vs 4 = .int .i64 (k : Int) := hF 4 (by omega)
                    have e5 : vs 5 = .pointer (some ⟨gt, 0 + k, none⟩) := hF 5 (by omega)
                    have e6 : vs 6 = .int .i64 (T k : Int) := hF 6 (by omega)
                    have e7 : vs 7 = .int .i64 ((T k / 8 : Nat) : Int) := hF 7 (by omega)
                    have e8 : vs 8 = .int .i64 ((z + 4 + T k / 8 : Nat) : Int) := hF 8 (by omega)
                    have e9 : vs 9 = .pointer (some ⟨gc, 0 + (z + 4 + T k / 8), none⟩) := hF 9 (by omega)
                    have e10 : vs 10 = .int .u8 (ch.toNat : Int) := hF 10 (by omega)
                    have e11 : vs 11 = .slice (some ⟨gt, 0, none⟩) 3 3 := hF 11 (by omega)
                    have e12 : vs 12 = .int .i64 (k : Int) := hF 12 (by omega)
                    have e13 : vs 13 = .pointer (some ⟨gt, 0 + k, none⟩) := hF 13 (by omega)
                    have e14 : vs 14 = .int .i64 (T k : Int) := hF 14 (by omega)
                    have e15 : vs 15 = .int .i64 ((T k % 8 : Nat) : Int) := hF 15 (by omega)
                    have e16 : vs 16 = .int .u8 ((2 ^ (T k % 8) : Nat) : Int) := hF 16 (by omega)
                    have e17 : vs 17 = .int .u8 ((ch.toNat ^^^ 2 ^ (T k % 8) : Nat) : Int) := hF 17 (by omega)
                    clear hF
                    change wpList _ _ _ _ (Act.put (Act.put (Act.put (Act.put (Act.put (Act.put (Act.put (Act.put (Act.put (Act.put (Act.put (Act.put (Act.put (Act.put (Act.put (Act.put (Act.put (Act.put _ (some 102) (vs 0)) (some 103) (vs 1)) (some 104) (vs 2)) (some 105) (vs 3)) (some 106) (vs 4)) (some 107) (vs 5)) (some 108) (vs 6)) (some 109) (vs 7)) (some 110) (vs 8)) (some 111) (vs 9)) (some 112) (vs 10)) (some 113) (vs 11)) (some 114) (vs 12)) (some 115) (vs 13)) (some 116) (vs 14)) (some 117) (vs 15)) (some 118) (vs 16)) (some 119) (vs 17)) W_1
                    rw [e0, e1, e2, e3, e4, e5, e6, e7, e8, e9, e10, e11, e12, e13, e14, e15, e16, e17]
                    clear e0 e1 e2 e3 e4 e5 e6 e7 e8 e9 e10 e11 e12 e13 e14 e15 e16 e17
                    simp only [putAll, List.drop_succ_cons, List.drop_zero, Act.put, List.setIfInBounds_toArray, List.set_cons_zero, List.set_cons_succ]
                    clear vs
                    have hcC2 := cell_below hS hcC
                    have hcur2 := blk_below HCUR.out hS
                    have hfz2 : W_1.frozen? ⟨gc, z + 4 + T k / 8, none⟩ = false := frozen_of_row W_1 gc _ _ _ hcur2
                    obtain ⟨VX, hVX⟩ : ∃ VX : Nat, VX = ch.toNat ^^^ 2 ^ (T k % 8) := ⟨_, rfl⟩
                    obtain ⟨IX, hIX⟩ : ∃ IX : Nat, IX = z + 4 + T k / 8 := ⟨_, rfl⟩
                    have hIXR := HIX.out
                    rw [← hIX] at hfz2 hcC2 hIXR ⊢
                    rw [← hVX]
                    have HVX := Lib.hid hVX
                    have HIXE := Lib.hid hIX
                    have HCUR2 := Lib.hid hcur2
                    have HS2 := Lib.hid hS
                    clear hVX hIX hcC hfz hcT hcur2 hS
                    go_wp2_with fail
                    go_roundw
                    case rel =>
                      have hIXC : IX < C.length := by rw [HCL.out]; exact hIXR
                      have hflip : (VX : Int) = (((flip ch (T k % 8)).toNat : Nat) : Int) := by rw [flip_toNat _ _ hT8, HVX.out]
                      have hIXlo : z + 4 ≤ IX := by have := HIXE.out; omega
                      have hIXhi : IX < z + (8 + p.length) := by have := HIXE.out; have := HN.out; have := HTL.out k; omega
                      refine ⟨k + 1, cur.setIfInBounds IX (.int .u8 (VX : Int)), C.set IX (flip ch (T k % 8)), by omega, by go_num, blk_setCell (i := IX) HCUR2.out _, by simp [HCS.out], by simp [HCL.out], ?_, ?_, ?_, ?_, ?_⟩
                      · have e : cur.setIfInBounds IX (.int .u8 (VX : Int)) = (cur.toList.set IX (.int .u8 (VX : Int))).toArray := by
                          apply Array.toList_inj.1
                          simp
                        rw [e]
                        show List.take R.length (cur.toList.set IX _) = _
                        rw [List.take_set, HCTK.out, hflip]
                        simp [bytesV, List.map_set]
                      · rw [take_set_lt _ _ _ _ hIXlo, HC1.out]
                      · rw [drop_set_ge _ _ _ _ hIXhi, HC2.out]
                      · rw [pars_set C IX hIXC _ ?_, HC3.out]
                        · have := Crc.pars_lt R; omega
                        · have e : C[IX]'hIXC = ch := by
                            have h := HCH.out
                            have h2 := HIXE.out
                            subst h2
                            exact h.symm
                          rw [e]
                          exact flip_par ch _ hT8
                      · exact (HBQ.out.trans (HS2.out.mono HBQ.out.size)).setCell (p := ⟨gc, IX, none⟩) (by have := HGC.out; exact this) _
                    case measure => simp [intOf]; omega
                · obtain rfl : k = 3 := by omega
                  have hC3' : Crc.pars C = (Crc.pars R + 1) % 2 := by have := HC3.out; have := Crc.pars_lt R; omega
                  have hneq : C ≠ R := by
                    intro e
                    rw [e] at hC3'
                    have := Crc.pars_lt R
                    omega
                  have hzA : z = (rowF 0 (L.take j)).length := by rw [rowF_length, List.length_take, Nat.min_eq_left (by omega)]; exact HZ.out
                  have hrec : recs C.length 0 C = L.take j := by
                    refine recs_spoilt L HALL.out j hjL C (by rw [HCL.out, HR.out]) ?_ ?_ ?_
                    · rw [← hzA, ← HR.out]; exact HC1.out
                    · rw [← hzA, ← HR.out, ← HP.out]; exact HC2.out
                    · rw [← HR.out]; exact hC3'
                  have hsbc : SB wr (.slice (some ⟨gc, 0, none⟩) R.length cap) C := by
                    refine ⟨_, cap, by rw [HCL.out], by rw [HCL.out]; exact HNC.out, by rw [HCL.out]; have := HRl.out; omega, .inr ⟨gc, 0, rfl, fun i hi => ?_⟩⟩
                    have hi2 : i < R.length := by rw [← HCL.out]; exact hi
                    rw [Nat.zero_add, cell_of_row wr gc i _ _ _ HCUR.out]
                    have h1 : cur.toList[i]? = (bytesV C)[i]? := by rw [← HCTK.out, List.getElem?_take_of_lt hi2]
                    simpa [bytesV, hi] using h1
                  have hsbr : SB wr (.slice Ab R.length cb) R := (HSU2.out.below HSS.out).below HBQ.out
                  have kc := conv_str wr _ C hsbc
                  have kr := conv_str wr _ R hsbr
                  have hcr : (C == R) = false := beq_eq_false_iff_ne.2 hneq
                  have HSBC := Lib.hid hsbc
                  have HREC := Lib.hid hrec
                  clear hC3' hneq hzA hrec hsbc hsbr
                  go_wp2_with fail
                  have hCl : C.length ≤ 1099511627776 := by rw [HCL.out]; have := HRl.out; omega
                  refine (All_any _ C wr HSBC.out hCl).mono ?_
                  rintro e w8 ⟨u8, rfl, hout, hb8⟩
                  rw [HREC.out] at hout ⊢
                  obtain ⟨⟨qc, qs, qx⟩, hT⟩ : ∃ t, tailOf (L.take j) = t := ⟨_, rfl⟩
                  have hqc : qc = j := by
                    have h := tailOf_count (L.take j)
                    rw [hT, List.length_take, Nat.min_eq_left (by omega)] at h
                    exact h
                  rw [hT]
                  have hlt : (L.take j).length = j := by simp; omega
                  have hsm := hout.sbb (by omega) (fun q hq => by have := HALL.out q (List.mem_of_mem_take hq); omega)
                  obtain ⟨Aq, cq, rfl, hsm, -⟩ := hsm.shape
                  rw [hlt] at hsm ⊢
                  have hwr : Below w.heap.size w wr := HB2.out.trans ((HSS.out.trans (HBQ.out.mono HSS.out.size)).mono HB2.out.size)
                  have HW8 := Lib.hid (hwr.trans (hb8.mono hwr.size))
                  have HSM := Lib.hid hsm
                  simp only [tv, tailV]
                  subst hqc
                  have hjc : qc ≤ c := by have := HV.out.cap; omega
                  clear hout hb8 hT hlt hsm hwr kc kr hcr hCl
                  go_wp2_with fail
                  obtain ⟨w9, hw9⟩ : ∃ w9, w9 = w8.alloc (Obj.cells #[Value.int IntKind.i64 ↑qc, Value.int IntKind.i64 ↑qs, Value.int IntKind.u32 ↑qx] 30) := ⟨_, rfl⟩
                  rw [← hw9]
                  have hb9 : Below w8.heap.size w8 w9 := by rw [hw9]; exact below_alloc1 _ _
                  have hn9 : w9.heap[w8.heap.size]? = some (.cells #[Value.int IntKind.i64 ↑qc, Value.int IntKind.i64 ↑qs, Value.int IntKind.u32 ↑qx] 30 (0, 0)) := by rw [hw9]; exact World.alloc_heap_new _ _
                  have hw9' : Below w.heap.size w w9 := HW8.out.trans (hb9.mono HW8.out.size)
                  refine (Same_any _ _ (L.take qc) (L.take qc) w9 (HSM.out.below hb9) ((HV.out.below hw9').take qc (by omega))).mono ?_
                  rintro e wx ⟨rfl, hbx⟩
                  rw [show decide (L.take qc = L.take qc) = true from by simp]
                  have HBX := Lib.hid (hw9'.trans (hbx.mono hw9'.size))
                  have nx := blk_below hn9 hbx
                  have n0 : wx.cell? ⟨w8.heap.size, 0, none⟩ = some (.int .i64 (qc : Int)) := cell_of_row wx _ _ _ _ _ nx
                  clear hbx hw9 hb9 hn9 hw9' nx
                  go_wp2_with fail
                  refine (awake_any _).mono ?_
                  rintro e wy ⟨rfl, hby⟩
                  have HBY := Lib.hid (HBX.out.trans (hby.mono HBX.out.size))
                  clear hby
                  go_wp2
                  go_ret
                  exact ⟨rfl, HBY.out⟩
      · go_wp2_with fail
        refine (awake_any _).mono ?_
        rintro e w2 ⟨rfl, hb2⟩
        have HB2 : Hid (Below w.heap.size w w2) := Lib.hid (HB1.out.trans (((below_alloc1 w1 _).trans (hb2.mono (by simp))).mono HB1.out.size))
        clear hb2
        go_wp2
        go_ret
        exact ⟨rfl, HB2.out⟩
end Go.Proofs.Ytlhdnloimgckgaa
