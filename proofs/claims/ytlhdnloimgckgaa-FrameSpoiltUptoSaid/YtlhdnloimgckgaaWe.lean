import Derived.Test.YtlhdnloimgckgaaWd
namespace Go.Proofs.Ytlhdnloimgckgaa
open Go.RowKit

theorem and1 (x : Nat) (h : x < 4294967296) : bits BinOp.and IntKind.u32 (x : Int) 1 = ((x % 2 : Nat) : Int) := by
  have h1 := u32_and_nat x 1 h (by decide)
  rw [nat_mask1] at h1
  exact h1
theorem and1s (c m : Nat) (h : c < 256) : bits BinOp.and IntKind.u32 ((c : Int) / 2 ^ m % 4294967296) 1 = ((c / 2 ^ m % 2 : Nat) : Int) := by
  have e : ((c : Int) / 2 ^ m % 4294967296) = ((c / 2 ^ m % 4294967296 : Nat) : Int) := by simp
  rw [e, and1 _ (Nat.mod_lt _ (by decide))]
  have : c / 2 ^ m ≤ c := Nat.div_le_self _ _
  rw [Nat.mod_eq_of_lt (show c / 2 ^ m < 4294967296 by omega)]
theorem rk_yes {X c m : Nat} (hx : Crc.rk X c m < 4294967296) (hc : c < 256) (h : (bits BinOp.and IntKind.u32 (Crc.rk X c m : Nat) 1 != bits BinOp.and IntKind.u32 ((c : Int) / 2 ^ m % 4294967296) 1) = true) :
    bits BinOp.xor IntKind.u32 (((Crc.rk X c m : Nat) : Int) / 2) 2197175160 = ((Crc.rk X c (m + 1) : Nat) : Int) := by
  rw [and1 _ hx, and1s _ _ hc] at h
  have h2 : Crc.rk X c m % 2 ≠ c / 2 ^ m % 2 := by
    have := bne_iff_ne.1 h
    omega
  rw [Crc.rk, Crc.rbit, if_neg h2, show (((Crc.rk X c m : Nat) : Int) / 2) = ((Crc.rk X c m / 2 : Nat) : Int) from by omega]
  exact u32_xor_nat _ 2197175160 (by omega) (by decide)
theorem rk_no {X c m : Nat} (hx : Crc.rk X c m < 4294967296) (hc : c < 256) (h : (bits BinOp.and IntKind.u32 (Crc.rk X c m : Nat) 1 != bits BinOp.and IntKind.u32 ((c : Int) / 2 ^ m % 4294967296) 1) = false) :
    (((Crc.rk X c m : Nat) : Int) / 2) = ((Crc.rk X c (m + 1) : Nat) : Int) := by
  rw [and1 _ hx, and1s _ _ hc] at h
  have h2 : Crc.rk X c m % 2 = c / 2 ^ m % 2 := by
    have := bne_eq_false_iff_eq.1 h
    omega
  rw [Crc.rk, Crc.rbit, if_pos h2]
  omega
set_option maxHeartbeats 800000 in
theorem refCheck_any (v : Value) (bs : List UInt8) (w : World) (hv : SB w v bs) :
    Calls Try.prog 12 #[v] w fun e w' => e = .returned (.int .u32 ((Crc.check bs : Nat) : Int)) ∧ w = w' := by
  obtain ⟨A, c, rfl, hv, hm⟩ := hv.shape
  have HV := Lib.hid hv
  clear hv
  go_enter Try.func12, Try.ntmps12
  go_wp2
  go_loop [3, 4] (fun x i => ∃ k : Nat, k ≤ bs.length ∧ i = .int .i64 k ∧ x = .int .u32 ((Crc.crcs 4294967295 (bs.take k) : Nat) : Int)) (fun _ i => (bs.length - (intOf i).toNat))
  case atStart => exact ⟨0, by omega, rfl, by simp [Crc.crcs]⟩
  case round =>
    obtain ⟨k, hk, rfl, rfl⟩ := hrel
    by_cases hlt : k < bs.length
    · obtain ⟨b, o, rfl, hcell⟩ := HV.out.at_ k hlt
      have HL : Hid (Crc.crcs 4294967295 (bs.take (k + 1)) = Crc.cbyte (Crc.crcs 4294967295 (bs.take k)) bs[k]) := by
        have := take_snoc bs k hlt
        rw [this, Crc.crcs_snoc]; exact rfl
      have HX : Hid (Crc.crcs 4294967295 (bs.take k) < 4294967296) := Crc.crcs_lt _ (by decide)
      have hbl := Crc.byte_lt bs[k]
      generalize bs[k] = ch at *
      generalize Crc.crcs 4294967295 (bs.take k) = X at *
      go_wp2
      go_loop [3, 5] (fun x j => ∃ m : Nat, m ≤ 8 ∧ j = .int .i64 m ∧ x = .int .u32 ((Crc.rk X ch.toNat m : Nat) : Int)) (fun _ j => (8 - (intOf j).toNat))
      case atStart => exact ⟨0, by omega, rfl, rfl⟩
      case round =>
        obtain ⟨m, hm8, rfl, rfl⟩ := hrel
        by_cases hlt2 : m < 8
        · have hd : decide ((m : Int) < 8) = true := by simp; omega
          have hx : Crc.rk X ch.toNat m < 4294967296 := Crc.rk_lt HX.out m
          go_wp2
          · go_round
            case rel => exact ⟨m + 1, by omega, by go_num, by rw [rk_yes hx hbl ‹_›]⟩
            case measure => simp [intOf]; omega
          · go_round
            case rel => exact ⟨m + 1, by omega, by go_num, by rw [rk_no hx hbl ‹_›]⟩
            case measure => simp [intOf]; omega
        · have hd : decide ((m : Int) < 8) = false := by simp; omega
          have HM : Hid (m = 8) := by have : m = 8 := by omega
                                      exact this
          go_wp2
          go_round
          case rel => exact ⟨k + 1, by omega, by go_num, by rw [HL.out, ← Crc.rk_byte, HM.out]⟩
          case measure => simp [intOf]; omega
    · have HM : Hid (k = bs.length) := by have : k = bs.length := by omega
                                          exact this
      have hx : Crc.crcs 4294967295 (bs.take k) < 4294967296 := Crc.crcs_lt _ (by decide)
      have e : bits BinOp.xor IntKind.u32 (Crc.crcs 4294967295 (bs.take k) : Nat) 4294967295 = ((Crc.crcs 4294967295 (bs.take k) ^^^ 4294967295 : Nat) : Int) := u32_xor_nat _ 4294967295 hx (by decide)
      go_wp2
      go_ret
      exact ⟨by simp only [Crc.check]; rw [HM.out, List.take_length]; rfl, rfl⟩
end Go.Proofs.Ytlhdnloimgckgaa
