/-
  Same; spoil.
-/
import Derived.Test.YtlhdnloimgckgaaWl
import Derived.BigQuiet
namespace Go.Proofs.Ytlhdnloimgckgaa
open Go.RowKit Go.Shelf

theorem SB.drewN {w : World} {v : Value} {bs : List UInt8} (h : SB w v bs) (q : Nat) : SB (w.drewN q) v bs := h

set_option maxHeartbeats 800000 in
theorem Same_any (v1 v2 : Value) (L1 L2 : List (List UInt8)) (w : World) (h1 : SBB w v1 L1) (h2 : SBB w v2 L2) :
    Calls Try.prog 15 #[v1, v2] w fun e w' => e = .returned (.bool (decide (L1 = L2))) ∧ Below w.heap.size w w' := by
  obtain ⟨A1, c1, rfl, h1, hm1⟩ := h1.shape
  obtain ⟨A2, c2, rfl, h2, hm2⟩ := h2.shape
  have H1 := Lib.hid h1
  have H2 := Lib.hid h2
  clear h1 h2
  by_cases hlen : L1.length = L2.length
  · have HL := Lib.hid hlen
    have hne : ((L1.length : Int) != (L2.length : Int)) = false := by simp [hlen]
    clear hlen
    go_enter Try.func15, Try.ntmps15
    go_wp2
    go_loopw [5] (fun i wr => ∃ k : Nat, k ≤ L1.length ∧ i = .int .i64 k ∧ L1.take k = L2.take k ∧ Below w.heap.size w wr) (fun i _ => (L1.length - (intOf i).toNat))
    case atStart => exact ⟨0, by omega, rfl, by simp, Below.refl _ _⟩
    case round =>
      obtain ⟨k, hk, rfl, htk, hbel⟩ := hrel
      have HB := Lib.hid hbel
      have HTK := Lib.hid htk
      clear hbel htk
      by_cases hlt : k < L1.length
      · have hlt2 : k < L2.length := by have := HL.out; omega
        obtain ⟨b, o, A3, c3, rfl, hcell, hsb, hl3⟩ := H1.out.at_ k hlt
        obtain ⟨b', o', A4, c4, rfl, hcell', hsb', hl4⟩ := H2.out.at_ k hlt2
        have hc1 := cell_below HB.out hcell
        have hc2 := cell_below HB.out hcell'
        have HT1 := Lib.hid (take_snoc L1 k hlt)
        have HT2 := Lib.hid (take_snoc L2 k hlt2)
        have HEQ : Hid (L1[k] ≠ L2[k] → L1 ≠ L2) := Lib.hid (fun h e => h (by subst e; rfl))
        have hs3 := hsb.below HB.out
        have hs4 := hsb'.below HB.out
        clear hcell hcell' hsb hsb'
        generalize L1[k] = p at *
        generalize L2[k] = q at *
        have k3 := fun n => conv_str (wr.drewN n) _ p (hs3.drewN n)
        have k4 := fun n => conv_str (wr.drewN n) _ q (hs4.drewN n)
        have HS3 := Lib.hid hs3
        have HS4 := Lib.hid hs4
        clear hs3 hs4
        by_cases hpq : p = q
        · subst hpq
          go_wp2
          go_quiet (fail)
          go_wp2
          go_roundw
          case rel => exact ⟨k + 1, by omega, by go_num, by rw [HT1.out, HT2.out, HTK.out], below_drewN HB.out _⟩
          case measure => simp [intOf]; omega
        · have HNE := Lib.hid (HEQ.out hpq)
          have hbq : (p == q) = false := beq_eq_false_iff_ne.2 hpq
          clear HEQ hpq
          go_wp2
          go_quiet (fail)
          go_wp2
          go_ret
          exact ⟨by rw [show decide (L1 = L2) = false from decide_eq_false HNE.out]; rfl, below_drewN HB.out _⟩
      · have hkL : k = L1.length := by omega
        have hLL : L1 = L2 := by
          have h1 := HTK.out
          rw [hkL, List.take_of_length_le (Nat.le_refl _), HL.out, List.take_of_length_le (Nat.le_refl _)] at h1
          exact h1
        have HLL := Lib.hid hLL
        clear hLL
        go_wp2
        go_ret
        exact ⟨by rw [show decide (L1 = L2) = true from decide_eq_true HLL.out]; rfl, HB.out⟩
  · have hne : ((L1.length : Int) != (L2.length : Int)) = true := by rw [bne_iff_ne]; omega
    have HNE : Hid (L1 ≠ L2) := Lib.hid (fun e => hlen (by rw [e]))
    go_enter Try.func15, Try.ntmps15
    go_wp2
    go_ret
    exact ⟨by rw [show decide (L1 = L2) = false from decide_eq_false HNE.out]; rfl, Below.refl _ _⟩

/-- spoil: whatever the bytes, they are bytes still -/
theorem spoil_any (B : Nat) (v : Value) (bs : List UInt8) (w : World) (hv : w.ownsRow B 5 1 v bs.length (bytesV bs)) (hm : bs.length ≤ 140737488355328) :
    Calls Try.prog 16 #[v] w fun e w' => (∃ u, e = .returned u) ∧ w.grownBy w' v.ownBlock ∧ ∃ bs' : List UInt8, bs'.length = bs.length ∧ w'.ownsRow B 5 1 v bs.length (bytesV bs') := by
  rcases hv.2 with ⟨rfl, h0⟩ | ⟨g, cap, cur, rfl, hB, hg, hnc, hcm, hsz, htk⟩
  · go_enter Try.func16, Try.ntmps16
    go_wp2
    go_loopw [2] (fun i wr => i = .int .i64 0 ∧ wr = w) (fun _ _ => 0)
    case atStart => exact ⟨rfl, rfl⟩
    case round =>
      obtain ⟨rfl, rfl⟩ := hrel
      go_wp2
      go_end0
      exact ⟨⟨_, rfl⟩, grown_refl _ _, bs, rfl, hv⟩
  · have hHN := Lib.hid hnc
    go_enter Try.func16, Try.ntmps16
    go_wp2
    go_loopw [2] (fun i wr => ∃ (k : Nat) (cur' : Array Value) (bs' : List UInt8), k ≤ bs.length ∧ i = .int .i64 k ∧ wr.heap[g]? = some (.cells cur' 5 (0, 0)) ∧ cur'.size = cur.size ∧ bs'.length = bs.length ∧ cur'.toList.take bs.length = bytesV bs' ∧ w.grownBy wr (some g)) (fun i _ => (bs.length - (intOf i).toNat))
    case atStart => exact ⟨0, cur, bs, by omega, rfl, hg, rfl, rfl, by rw [Nat.mul_one] at htk; exact htk, grown_refl _ _⟩
    case round =>
      obtain ⟨k, cur', bs', hk, rfl, hb, hs', hl', htk', hgr⟩ := hrel
      by_cases hlt : k < bs.length
      · have hkl : k < bs'.length := by omega
        have hc : wr.cell? ⟨g, k, none⟩ = some (.int .u8 ((bs'[k]).toNat : Int)) := by
          rw [cell_of_row wr g k _ _ _ hb]
          have h1 : cur'.toList[k]? = (bytesV bs')[k]? := by rw [← htk', List.getElem?_take_of_lt hlt]
          simpa [bytesV, hkl] using h1
        have hf : wr.frozen? ⟨g, k, none⟩ = false := frozen_of_row wr g k _ _ hb
        have hby := (bs'[k]).toNat_lt
        have HB := Lib.hid hb
        have HS := Lib.hid hs'
        have HTK := Lib.hid htk'
        have HGR := Lib.hid hgr
        obtain ⟨x, hx⟩ : ∃ x, x = bs'[k] := ⟨_, rfl⟩
        rw [← hx] at hc hby
        have HX := Lib.hid hx
        clear hb hs' htk' hgr hx
        go_wp2
        go_roundw
        case rel =>
          refine ⟨k + 1, cur'.setIfInBounds k (.int .u8 (((x + 1 : UInt8).toNat : Nat) : Int)), bs'.set k (x + 1), by omega, by go_num, ?_, by simp [HS.out], by simp [hl'], ?_, ?_⟩
          · have hx1 : (((x + 1 : UInt8).toNat : Nat) : Int) = ((x.toNat : Int) + 1) % 256 := by
              rw [UInt8.toNat_add]
              simp
            rw [hx1]
            exact blk_setCell (i := k) HB.out _
          · have e : cur'.setIfInBounds k (.int .u8 (((x + 1 : UInt8).toNat : Nat) : Int)) = (cur'.toList.set k (.int .u8 (((x + 1 : UInt8).toNat : Nat) : Int))).toArray := by
              apply Array.toList_inj.1
              simp
            rw [e]
            show List.take bs.length (cur'.toList.set k _) = _
            rw [List.take_set, HTK.out]
            simp [bytesV, List.map_set]
          · exact grown_setCell HGR.out k _
        case measure => simp [intOf]; omega
      · have hkn : k = bs.length := by omega
        have HB := Lib.hid hb
        have HS := Lib.hid hs'
        have HTK := Lib.hid htk'
        have HGR := Lib.hid hgr
        clear hb hs' htk' hgr
        go_wp2
        go_end0
        refine ⟨⟨_, rfl⟩, HGR.out, bs', hl', ?_⟩
        exact ⟨by rw [bytesV_length]; omega, .inr ⟨g, cap, cur', rfl, hB, HB.out, hHN.out, hcm, by rw [HS.out]; exact hsz, by rw [Nat.mul_one]; exact HTK.out⟩⟩
end Go.Proofs.Ytlhdnloimgckgaa
