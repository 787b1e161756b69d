/-
  FrameChecks, walked.
-/
import Derived.Test.YtlhdnloimgckgaaWl
import Derived.Test.YtlhdnloimgckgaaWe
namespace Go.Proofs.Ytlhdnloimgckgaa
open Go.RowKit Go.Shelf

set_option maxHeartbeats 1000000 in
theorem FrameChecks_any (v : Value) (L : List (List UInt8)) (w : World) (hv : SBB w v L) :
    Calls Try.prog 3 #[v] w fun e w' => e = .returned (.bool true) ∧ Below w.heap.size w w' := by
  obtain ⟨A, c, rfl, hv, -⟩ := hv.shape
  have HV := Lib.hid hv
  clear hv
  obtain ⟨i0, hi0, hz0, hz1, hz2⟩ := info_parts info5
  have HI0 := Lib.hid hi0
  have HZ0 := Lib.hid hz0
  have HZ1 := Lib.hid hz1
  have HZ2 := Lib.hid hz2
  clear hi0 hz0 hz1 hz2
  go_enter Try.func3, Try.ntmps3
  go_wp2_with fail
  refine (long_any _ L w HV.out).mono ?_
  rintro e w1 ⟨rfl, rfl⟩
  by_cases hlong : 60000 < tot L
  · rw [show decide (60000 < tot L) = true from by simp [hlong]]
    go_wp2_with fail
    refine (awake_any w).mono ?_
    rintro e w2 ⟨rfl, hb⟩
    have HB := Lib.hid hb
    clear hb
    go_wp2
    go_ret
    exact ⟨rfl, HB.out⟩
  · rw [show decide (60000 < tot L) = false from by simp [hlong]]
    have htot := tot_eq L
    have HTOT : Hid (L.length + L.flatten.length ≤ 60000) := Lib.hid (by omega)
    have hLl : L.length ≤ 60000 := by omega
    clear htot hlong
    go_wp2_with fail
    go_loopw [3, 4] (fun s i wr => ∃ k : Nat, k ≤ L.length ∧ i = .int .i64 k ∧ wr.ownsRow w.heap.size 5 1 s (L.take k).flatten.length (bytesV (L.take k).flatten) ∧ Below w.heap.size w wr) (fun _ i _ => (L.length - (intOf i).toNat))
    case atStart => exact ⟨0, by omega, rfl, World.ownsRow_nil _ _ _ _, Below.refl _ _⟩
    case round =>
      obtain ⟨k, hk, rfl, hown, hbel⟩ := hrel
      have HO := Lib.hid hown
      have HB := Lib.hid hbel
      clear hown hbel
      by_cases hlt : k < L.length
      · obtain ⟨b, o, A2, c2, rfl, hcell, hsb, hl2⟩ := HV.out.at_ k hlt
        have hcell2 := cell_below HB.out hcell
        have HS := Lib.hid (hsb.below HB.out)
        have HT := Lib.hid (take_flat_succ L k hlt)
        have HT2 := Lib.hid (flat_len_succ L k hlt)
        have HLE := Lib.hid (flat_len_le L (k + 1))
        clear hcell hsb
        generalize L[k] = bs at *
        go_wp2_with (first | (refine wpList_append_src _ rfl (.tmp 14) (.tmp 18) 25 rfl w.heap.size 5 i0 (.int .u8 0) 1 Try.underlying25 HI0.out HZ0.out HZ1.out HZ2.out rfl _ _ _ rfl HO.out A2 bs.length c2 (bytesV bs) rfl (bytesV_length bs) HS.out.isNil HS.out.cells (bytesV_one bs) (by have := HLE.out; have := HT2.out; have := HTOT.out; unfold maxLen; omega) (by have := HLE.out; have := HT2.out; have := HTOT.out; omega) HB.out.size ?_; intro v3 w3 hown3 hg3 hat3))
        have HO3 := Lib.hid hown3
        have HB3 := Lib.hid (HB.out.grown hg3 HB.out.size (fun k hk => (HO.out.lt k hk).1))
        clear hown3 hg3 hat3
        go_wp2
        go_roundw
        case rel => exact ⟨k + 1, by omega, by go_num, by rw [HT2.out, HT.out, bytesV_append]; exact HO3.out, HB3.out⟩
        case measure => simp [intOf]; omega
      · have hkL : k = L.length := by omega
        have htk : L.take k = L := by rw [hkL]; simp
        have h1 := HO.out
        rw [htk] at h1
        obtain ⟨F, hF⟩ : ∃ F, F = L.flatten := ⟨_, rfl⟩
        rw [← hF] at h1
        have HF := Lib.hid hF
        have hsb := SB_of_own h1 (by have := HTOT.out; rw [hF]; omega)
        obtain ⟨A3, c3, rfl, hsb, -⟩ := hsb.shape
        have HS := Lib.hid hsb
        clear h1 hsb HO hF
        go_wp2_with fail
        refine (Check_any _ L _ (HV.out.below HB.out)).mono ?_
        rintro e w2 ⟨rfl, hb2⟩
        have HB2 := Lib.hid (HB.out.trans (hb2.mono HB.out.size))
        have HS2 := Lib.hid (HS.out.below hb2)
        clear hb2 HB HS
        rw [← HF.out]
        obtain ⟨X, hX⟩ : ∃ X, X = Crc.check F := ⟨_, rfl⟩
        rw [← hX]
        have HX := Lib.hid hX
        clear hX
        go_wp2_with fail
        refine (refCheck_any _ F _ HS2.out).mono ?_
        rintro e w3 ⟨rfl, rfl⟩
        rw [← HX.out]
        go_wp2_with fail
        obtain ⟨W3, hW3⟩ : ∃ W3, W3 = w2.alloc (Obj.cells #[Value.slice A3 F.length c3] 25) := ⟨_, rfl⟩
        rw [← hW3]
        have hb3 : Below w2.heap.size w2 W3 := by rw [hW3]; exact below_alloc1 _ _
        have hs3 : SBB W3 (.slice (some ⟨w2.heap.size, 0, none⟩) 1 1) [F] := by
          rw [hW3]
          exact SBB_one (heap_alloc_new w2 _) (HS2.out.below (below_alloc1 _ _))
        clear hW3
        refine (Check_any _ [F] W3 hs3).mono ?_
        rintro e w4 ⟨rfl, hb4⟩
        rw [show ([F] : List (List UInt8)).flatten = F from by simp, ← HX.out]
        have hb24 := hb3.trans (hb4.mono hb3.size)
        have HB4 := Lib.hid (HB2.out.trans (hb24.mono HB2.out.size))
        clear hb3 hs3 hb4 hb24 HS2 HB2
        go_wp2_with fail
        refine (Check_any _ L _ (HV.out.below HB4.out)).mono ?_
        rintro e w5 ⟨rfl, hb5⟩
        have HB5 := Lib.hid (HB4.out.trans (hb5.mono HB4.out.size))
        rw [← HF.out, ← HX.out]
        clear hb5
        go_wp2_with fail
        refine (awake_any w5).mono ?_
        rintro e w6 ⟨rfl, hb6⟩
        have HB6 := Lib.hid (HB5.out.trans (hb6.mono HB5.out.size))
        clear hb6
        go_wp2
        go_ret
        exact ⟨rfl, HB6.out⟩
end Go.Proofs.Ytlhdnloimgckgaa
