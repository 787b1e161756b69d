/-
  A heap of texts behind an interface: what goes down.
-/
import Derived.Test.YtncjgfhipflokaaGb
namespace Go.Proofs.Ytncjgfhipflokaa
open Go.RowKit Hp

set_option maxHeartbeats 1000000 in
set_option maxRecDepth 4000 in
theorem down_any (B p : Nat) (X : Nat → Prop) (ts : List S) (n : Nat) (w : World) (h : HT w B X p ts) (hd : DnI ts n 0) (hn : n ≤ ts.length) (hl : ts.length ≤ 100000) :
    Calls Try.prog 47 #[.iface 76 (.pointer (some ⟨p, 0, none⟩)), .int .i64 0, .int .i64 (n : Int)] w fun e w' => ∃ b ts', e = .returned (.bool b) ∧ ts'.Perm ts ∧ HP ts' n ∧ (∀ k, n ≤ k → at_ ts' k = at_ ts k) ∧ HT w' B X p ts' ∧ Fr X p w w' := by
  have HH := Lib.hid h
  have HD := Lib.hid hd
  clear h hd
  go_enter Try.func47, Try.ntmps47
  go_wp2_with fail
  go_loopw [7] (fun iv wr => ∃ (q : Nat) (us : List S), iv = .int .i64 (q : Int) ∧ q ≤ n ∧ us.Perm ts ∧ DnI us n q ∧ (∀ k, n ≤ k → at_ us k = at_ ts k) ∧ HT wr B X p us ∧ Fr X p w wr) (fun iv _ => n - (intOf iv).toNat)
  case atStart => exact ⟨0, ts, rfl, Nat.zero_le _, List.Perm.refl _, HD.out, fun _ _ => rfl, HH.out, Fr.refl _ _ _⟩
  case round =>
    clear HH HD
    obtain ⟨q, us, rfl, hq, hpm, hd, hk, hh, hf⟩ := hrel
    have hlen : us.length = ts.length := hpm.length_eq
    have hlu : us.length ≤ 100000 := by rw [hlen]; exact hl
    have hnu : n ≤ us.length := by rw [hlen]; exact hn
    have HH := Lib.hid hh
    have HD := Lib.hid hd
    have HP := Lib.hid hpm
    have HF := Lib.hid hf
    have HK := Lib.hid hk
    clear hh hd hpm hf hk hlen
    obtain ⟨j1, hj1⟩ : ∃ j1, j1 = 2 * q + 1 := ⟨_, rfl⟩
    have hj1' : (2 : Int) * (q : Int) + 1 = (j1 : Int) := by omega
    have HJ1 := Lib.hid hj1
    clear hj1
    by_cases hge : n ≤ j1
    · have hd1 : decide ((n : Int) ≤ (j1 : Int)) = true := by simp; omega
      have hd1' : decide (n ≤ j1) = true := decide_eq_true hge
      go_wp2_with fail
      go_ret
      refine ⟨_, us, rfl, HP.out, HD.out.stop (fun k hk0 hkn hp => ?_), HK.out, HH.out, HF.out⟩
      have := par_of hk0 hp
      have := HJ1.out
      omega
    have hd1 : decide ((n : Int) ≤ (j1 : Int)) = false := decide_eq_false (by omega)
    have hd1' : decide (n ≤ j1) = false := decide_eq_false hge
    have hd2 : decide ((j1 : Int) < 0) = false := decide_eq_false (by omega)
    obtain ⟨j2, hj2⟩ : ∃ j2, j2 = j1 + 1 := ⟨_, rfl⟩
    have hj2' : (j1 : Int) + 1 = (j2 : Int) := by omega
    have HJ2 := Lib.hid hj2
    clear hj2
    have hpar1 : par j1 = q := by rw [HJ1.out]; exact par_one q
    have hpar2 : par j2 = q := by rw [HJ2.out, HJ1.out]; exact par_two q
    have HPA1 := Lib.hid hpar1
    have HPA2 := Lib.hid hpar2
    clear hpar1 hpar2
    by_cases h2n : j2 < n
    · have hd3 : decide ((j2 : Int) < (n : Int)) = true := by simp; omega
      have hd3' : decide (j2 < n) = true := decide_eq_true h2n
      obtain ⟨v, hrow, htx, hX⟩ := HH.out.at_
      obtain ⟨A, c, rfl⟩ := htx.shape
      have hml := meth_Less (row_cell hrow)
      have HT0 := Lib.hid htx
      have HR0 := Lib.hid hrow
      clear htx hrow
      go_wp2_with fail
      refine (Less_any wr B _ us j2 j1 HT0.out (by omega) (by omega)).mono ?_
      rintro e w1 ⟨rfl, hb1⟩
      have HT1 := Lib.hid (HT0.out.below hb1)
      have HR1 := Lib.hid (blk_below HR0.out hb1)
      have HF1 := Lib.hid (HF.out.trans (Fr.of_below hb1))
      have HH1 := Lib.hid (HH.out.below hb1)
      clear hb1 HT0 HR0 HF HH hml
      by_cases hlt0 : at_ us j2 < at_ us j1
      · rw [decide_eq_true hlt0]
        have HMN := Lib.hid (show ∀ k, 0 < k → k < n → par k = q → at_ us j2 ≤ at_ us k from fun k hk0 hkn hp => by
          rcases par_of hk0 hp with e | e
          · rw [e, ← HJ1.out]; exact le_of_lt hlt0
          · rw [show k = j2 by have := HJ1.out; have := HJ2.out; omega]; exact le_refl _)
        have hjn : j2 < n := h2n
        have hj0 : 0 < j2 := by have := HJ2.out; omega
        have hqj : q < j2 := by have := HJ1.out; have := HJ2.out; omega
        clear hlt0
        have hml := meth_Less (row_cell HR1.out)
        go_wp2_with fail
        refine (Less_any w1 B _ us j2 q HT1.out (by omega) (by omega)).mono ?_
        rintro e w2 ⟨rfl, hb2⟩
        have HT2 := Lib.hid (HT1.out.below hb2)
        have HR2 := Lib.hid (blk_below HR1.out hb2)
        have HF2 := Lib.hid (HF1.out.trans (Fr.of_below hb2))
        have HH2 := Lib.hid (HH1.out.below hb2)
        clear hb2 HT1 HR1 HF1 HH1 hml
        have hms := meth_Swap (row_cell HR2.out)
        by_cases hlt : at_ us j2 < at_ us q
        · rw [decide_eq_true hlt]
          have HLT := Lib.hid hlt
          clear hlt
          go_wp2_with fail
          refine (Swap_any w2 B _ us q j2 HT2.out (by omega) (by omega)).mono ?_
          rintro e w3 ⟨rfl, htx3, hgr⟩
          have HH3 := Lib.hid (HT.own hX HH2.out.le HR2.out HT2.out htx3 hgr)
          have HF3 := Lib.hid (HF2.out.trans (Fr.of_own HT2.out hX hgr))
          clear htx3 hgr
          go_wp2_with fail
          go_roundw
          case rel =>
            refine ⟨j2, swapL us q j2, rfl, by omega, (swap_perm us q j2 (by omega) (by omega)).trans HP.out, HD.out.step hnu hj0 hjn HPA2.out HLT.out HMN.out, fun k hk => ?_, HH3.out, HF3.out⟩
            rw [at_swap us q j2 k (by omega) (by omega), if_neg (by omega), if_neg (by omega)]
            exact HK.out k hk
          case measure => simp [intOf]; omega
        · rw [decide_eq_false hlt]
          have HLT := Lib.hid hlt
          clear hlt
          go_wp2_with fail
          go_ret
          exact ⟨_, us, rfl, HP.out, HD.out.stop (fun k hk0 hkn hp => tr (le_of_not HLT.out) (HMN.out k hk0 hkn hp)), HK.out, HH2.out, HF2.out⟩
      · rw [decide_eq_false hlt0]
        have HMN := Lib.hid (show ∀ k, 0 < k → k < n → par k = q → at_ us j1 ≤ at_ us k from fun k hk0 hkn hp => by
          rcases par_of hk0 hp with e | e
          · rw [e, ← HJ1.out]; exact le_refl _
          · rw [show k = j2 by have := HJ1.out; have := HJ2.out; omega]; exact hlt0)
        have hjn : j1 < n := by omega
        have hj0 : 0 < j1 := by have := HJ1.out; omega
        have hqj : q < j1 := by have := HJ1.out; omega
        clear hlt0
        have hml := meth_Less (row_cell HR1.out)
        go_wp2_with fail
        refine (Less_any w1 B _ us j1 q HT1.out (by omega) (by omega)).mono ?_
        rintro e w2 ⟨rfl, hb2⟩
        have HT2 := Lib.hid (HT1.out.below hb2)
        have HR2 := Lib.hid (blk_below HR1.out hb2)
        have HF2 := Lib.hid (HF1.out.trans (Fr.of_below hb2))
        have HH2 := Lib.hid (HH1.out.below hb2)
        clear hb2 HT1 HR1 HF1 HH1 hml
        have hms := meth_Swap (row_cell HR2.out)
        by_cases hlt : at_ us j1 < at_ us q
        · rw [decide_eq_true hlt]
          have HLT := Lib.hid hlt
          clear hlt
          go_wp2_with fail
          refine (Swap_any w2 B _ us q j1 HT2.out (by omega) (by omega)).mono ?_
          rintro e w3 ⟨rfl, htx3, hgr⟩
          have HH3 := Lib.hid (HT.own hX HH2.out.le HR2.out HT2.out htx3 hgr)
          have HF3 := Lib.hid (HF2.out.trans (Fr.of_own HT2.out hX hgr))
          clear htx3 hgr
          go_wp2_with fail
          go_roundw
          case rel =>
            refine ⟨j1, swapL us q j1, rfl, by omega, (swap_perm us q j1 (by omega) (by omega)).trans HP.out, HD.out.step hnu hj0 hjn HPA1.out HLT.out HMN.out, fun k hk => ?_, HH3.out, HF3.out⟩
            rw [at_swap us q j1 k (by omega) (by omega), if_neg (by omega), if_neg (by omega)]
            exact HK.out k hk
          case measure => simp [intOf]; omega
        · rw [decide_eq_false hlt]
          have HLT := Lib.hid hlt
          clear hlt
          go_wp2_with fail
          go_ret
          exact ⟨_, us, rfl, HP.out, HD.out.stop (fun k hk0 hkn hp => tr (le_of_not HLT.out) (HMN.out k hk0 hkn hp)), HK.out, HH2.out, HF2.out⟩
    · have hd3 : decide ((j2 : Int) < (n : Int)) = false := by simp; omega
      have hd3' : decide (j2 < n) = false := decide_eq_false h2n
      obtain ⟨v, hrow, htx, hX⟩ := HH.out.at_
      obtain ⟨A, c, rfl⟩ := htx.shape
      have HMN := Lib.hid (show ∀ k, 0 < k → k < n → par k = q → at_ us j1 ≤ at_ us k from fun k hk0 hkn hp => by
        rcases par_of hk0 hp with e | e
        · rw [e, ← HJ1.out]; exact le_refl _
        · exact absurd hkn (by have := HJ1.out; have := HJ2.out; omega))
      have hjn : j1 < n := by omega
      have hj0 : 0 < j1 := by have := HJ1.out; omega
      have hqj : q < j1 := by have := HJ1.out; omega
      have HT1 := Lib.hid htx
      have HR1 := Lib.hid hrow
      have HF1 := Lib.hid HF.out
      have HH1 := Lib.hid HH.out
      clear htx hrow HF HH
      have hml := meth_Less (row_cell HR1.out)
      go_wp2_with fail
      refine (Less_any wr B _ us j1 q HT1.out (by omega) (by omega)).mono ?_
      rintro e w2 ⟨rfl, hb2⟩
      have HT2 := Lib.hid (HT1.out.below hb2)
      have HR2 := Lib.hid (blk_below HR1.out hb2)
      have HF2 := Lib.hid (HF1.out.trans (Fr.of_below hb2))
      have HH2 := Lib.hid (HH1.out.below hb2)
      clear hb2 HT1 HR1 HF1 HH1 hml
      have hms := meth_Swap (row_cell HR2.out)
      by_cases hlt : at_ us j1 < at_ us q
      · rw [decide_eq_true hlt]
        have HLT := Lib.hid hlt
        clear hlt
        go_wp2_with fail
        refine (Swap_any w2 B _ us q j1 HT2.out (by omega) (by omega)).mono ?_
        rintro e w3 ⟨rfl, htx3, hgr⟩
        have HH3 := Lib.hid (HT.own hX HH2.out.le HR2.out HT2.out htx3 hgr)
        have HF3 := Lib.hid (HF2.out.trans (Fr.of_own HT2.out hX hgr))
        clear htx3 hgr
        go_wp2_with fail
        go_roundw
        case rel =>
          refine ⟨j1, swapL us q j1, rfl, by omega, (swap_perm us q j1 (by omega) (by omega)).trans HP.out, HD.out.step hnu hj0 hjn HPA1.out HLT.out HMN.out, fun k hk => ?_, HH3.out, HF3.out⟩
          rw [at_swap us q j1 k (by omega) (by omega), if_neg (by omega), if_neg (by omega)]
          exact HK.out k hk
        case measure => simp [intOf]; omega
      · rw [decide_eq_false hlt]
        have HLT := Lib.hid hlt
        clear hlt
        go_wp2_with fail
        go_ret
        exact ⟨_, us, rfl, HP.out, HD.out.stop (fun k hk0 hkn hp => tr (le_of_not HLT.out) (HMN.out k hk0 hkn hp)), HK.out, HH2.out, HF2.out⟩
end Go.Proofs.Ytncjgfhipflokaa
