import Derived.Test.YtlhdnloimgckgaaWc
namespace Go.Proofs.Ytlhdnloimgckgaa
open Go.RowKit

def tot (L : List (List UInt8)) : Nat := (L.map fun b => b.length + 1).sum
theorem tot_take_succ (L : List (List UInt8)) (k : Nat) (h : k < L.length) : tot (L.take (k + 1)) = tot (L.take k) + (L[k].length + 1) := by
  unfold tot; rw [List.take_succ_eq_append_getElem h, List.map_append, List.sum_append]; simp only [List.map_cons, List.map_nil, List.sum_cons, List.sum_nil, Nat.add_zero]
theorem tot_take_le (L : List (List UInt8)) (k : Nat) : tot (L.take k) ≤ tot L := by
  unfold tot
  conv => rhs; rw [← List.take_append_drop k L, List.map_append, List.sum_append]
  exact Nat.le_add_right _ _
theorem SBB.shape {w : World} {v : Value} {L : List (List UInt8)} (h : SBB w v L) : ∃ A c, v = .slice A L.length c ∧ SBB w (.slice A L.length c) L ∧ L.length ≤ 140737488355328 := by
  have h0 := h
  obtain ⟨A, c, rfl, h1, h2, _⟩ := h
  exact ⟨A, c, rfl, h0, h2⟩
theorem SBB.at_ {w : World} {A : Option Addr} {c : Nat} {L : List (List UInt8)} (h : SBB w (.slice A L.length c) L) (k : Nat) (hk : k < L.length) :
    ∃ b o A2 c2, A = some ⟨b, o, none⟩ ∧ w.cell? ⟨b, o + k, none⟩ = some (.slice A2 L[k].length c2) ∧ SB w (.slice A2 L[k].length c2) L[k] ∧ L[k].length ≤ 140737488355328 := by
  obtain ⟨A', c', e, _, _, h'⟩ := h
  injection e with e1 e2 e3
  subst e1
  obtain ⟨b, o, rfl, hc⟩ := h'.resolve_left (by intro h; subst h; simp at hk)
  obtain ⟨u, hu, hs⟩ := hc k hk
  obtain ⟨A2, c2, rfl, h3, h4⟩ := hs.shape
  exact ⟨b, o, A2, c2, rfl, hu, h3, h4⟩
theorem SB.at_ {w : World} {A : Option Addr} {c : Nat} {bs : List UInt8} (h : SB w (.slice A bs.length c) bs) (k : Nat) (hk : k < bs.length) :
    ∃ b o, A = some ⟨b, o, none⟩ ∧ w.cell? ⟨b, o + k, none⟩ = some (.int .u8 ((bs[k]).toNat : Int)) := by
  obtain ⟨A', c', e, _, _, h'⟩ := h
  injection e with e1 e2 e3
  subst e1
  obtain ⟨b, o, rfl, hc⟩ := h'.resolve_left (by intro h; subst h; simp at hk)
  exact ⟨b, o, rfl, hc k hk⟩

set_option maxHeartbeats 400000 in
theorem long_any (v : Value) (L : List (List UInt8)) (w : World) (hv : SBB w v L) :
    Calls Try.prog 9 #[v] w fun e w' => e = .returned (.bool (decide (60000 < tot L))) ∧ w = w' := by
  obtain ⟨A, c, rfl, hv, hm⟩ := hv.shape
  have HV := Lib.hid hv
  clear hv
  go_enter Try.func9, Try.ntmps9
  go_wp2
  go_loop [3, 4] (fun n i => ∃ k : Nat, k ≤ L.length ∧ i = .int .i64 k ∧ n = .int .i64 (tot (L.take k) : Nat) ∧ tot (L.take k) ≤ 60000) (fun _ i => (L.length - (intOf i).toNat))
  case atStart => exact ⟨0, by omega, rfl, by simp [tot], by simp [tot]⟩
  case round =>
    obtain ⟨k, hk, rfl, rfl, hn⟩ := hrel
    have H0 := Lib.hid hn
    by_cases hlt : k < L.length
    · obtain ⟨b, o, A2, c2, rfl, hcell, _, hl2⟩ := HV.out.at_ k hlt
      have HT := Lib.hid (tot_take_succ L k hlt)
      have HLe := Lib.hid (tot_take_le L (k + 1))
      generalize tot (L.take k) = T at *
      generalize L[k].length = m at *
      by_cases hbig : 60000 < T + (m + 1)
      · have hd : decide ((60000 : Int) < (T : Int) + (1 + (m : Int))) = true := by simp; omega
        have HB := Lib.hid hbig
        clear hbig
        go_wp2
        go_ret
        refine ⟨?_, rfl⟩
        have h1 := HB.out; have h2 := HT.out; have h3 := HLe.out
        rw [show decide (60000 < tot L) = true from by simp; omega]
        rfl
      · have hd : decide ((60000 : Int) < (T : Int) + (1 + (m : Int))) = false := by simp; omega
        have HB := Lib.hid hbig
        clear hbig
        go_wp2
        go_round
        case rel => exact ⟨k + 1, by omega, by go_num, by rw [HT.out]; go_num, by rw [HT.out]; have := HB.out; omega⟩
        case measure => simp [intOf]; omega
    · have HM : Hid (k = L.length) := by have : k = L.length := by omega
                                         exact this
      clear hn
      go_wp2
      go_ret
      refine ⟨?_, rfl⟩
      have h1 := H0.out
      rw [HM.out, List.take_length] at h1
      rw [show decide (60000 < tot L) = false from by simp; omega]
      rfl
end Go.Proofs.Ytlhdnloimgckgaa
