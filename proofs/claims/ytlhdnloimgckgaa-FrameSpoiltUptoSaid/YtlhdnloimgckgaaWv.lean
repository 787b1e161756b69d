/-
  Words for FrameSpoilt: a bit is turned.
-/
import Derived.Test.YtlhdnloimgckgaaWu
import Derived.Test.YtlhdnloimgckgaaLaws3
namespace Go.Proofs.Ytlhdnloimgckgaa
open Go.RowKit Go.Shelf

section
variable {Q : Exit → Act → World → Prop} {o : Oper} {a : Act} {w : World} {K : Act → World → Prop}
theorem ow_shl1 (x y : Operand) (ho : o.op = .binOp .shl 5 x y 3) (k : Nat) (hk : k < 8) (hx : a.eval x = .int .u8 1) (hy : a.eval y = .int .i64 (k : Int)) (h : K (a.put o.dst (.int .u8 ((2 ^ k : Nat) : Int))) w) : o.wp Try.prog a w K Q := by
  refine ow_value (v := .int .u8 ((2 ^ k : Nat) : Int)) ?_ h
  unfold execOp
  simp only [ho, hx, hy]
  have hk' : k = 0 ∨ k = 1 ∨ k = 2 ∨ k = 3 ∨ k = 4 ∨ k = 5 ∨ k = 6 ∨ k = 7 := by omega
  rcases hk' with rfl | rfl | rfl | rfl | rfl | rfl | rfl | rfl <;> rfl
theorem ow_xor8 (x y : Operand) (ho : o.op = .binOp .xor 5 x y 5) (i j : Nat) (hi : i < 256) (hj : j < 256) (hx : a.eval x = .int .u8 (i : Int)) (hy : a.eval y = .int .u8 (j : Int)) (h : K (a.put o.dst (.int .u8 ((i ^^^ j : Nat) : Int))) w) : o.wp Try.prog a w K Q := by
  refine ow_value (v := .int .u8 ((i ^^^ j : Nat) : Int)) ?_ h
  unfold execOp
  simp only [ho, hx, hy]
  have h1 := u8_xor_nat i j hi hj
  simp [go_sem, h1]
end
/-- a byte with one bit turned -/
def flip (x : UInt8) (k : Nat) : UInt8 := x ^^^ UInt8.ofNat (2 ^ k)
theorem flip_toNat (x : UInt8) (k : Nat) (hk : k < 8) : (flip x k).toNat = x.toNat ^^^ 2 ^ k := by
  have h : (UInt8.ofNat (2 ^ k)).toNat = 2 ^ k := by
    rw [Crc.ofNat_toNat]
    have h1 : 2 ^ k ≤ 2 ^ 7 := Nat.pow_le_pow_right (by decide) (by omega)
    exact Nat.mod_eq_of_lt (Nat.lt_of_le_of_lt h1 (by decide))
  unfold flip
  rw [UInt8.toNat_xor, h]
theorem flip_par (x : UInt8) (k : Nat) (hk : k < 8) : (Crc.par (flip x k).toNat + Crc.par x.toNat) % 2 = 1 := by
  rw [flip_toNat x k hk, Crc.par_xor, par_bit]
  omega
theorem pow_lt_256 {k : Nat} (hk : k < 8) : 2 ^ k < 256 := by
  have h1 : 2 ^ k ≤ 2 ^ 7 := Nat.pow_le_pow_right (by decide) (by omega)
  exact Nat.lt_of_le_of_lt h1 (by decide)
/-- what turning a bit between two places leaves -/
theorem take_set_lt {α : Type} (l : List α) (i n : Nat) (v : α) (h : n ≤ i) : (l.set i v).take n = l.take n := by
  rw [List.take_set, List.set_eq_of_length_le (by rw [List.length_take]; omega)]
theorem drop_set_ge {α : Type} (l : List α) (i n : Nat) (v : α) (h : i < n) : (l.set i v).drop n = l.drop n := by
  rw [List.drop_set]; simp [h]
end Go.Proofs.Ytlhdnloimgckgaa
