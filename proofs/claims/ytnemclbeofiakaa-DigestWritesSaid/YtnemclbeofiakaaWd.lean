/-
  The words of a block.
-/
import Derived.Test.YtnemclbeofiakaaWc
namespace Go.Proofs.Ytnemclbeofiakaa
open Go.RowKit Bl

theorem getD_take (bs : List UInt8) (n k : Nat) : (bs.take n).getD k 0 = if k < n then bs.getD k 0 else 0 := by
  rw [List.getD_eq_getElem?_getD, List.getElem?_take]
  split
  · rw [List.getD_eq_getElem?_getD]
  · rfl
theorem word_take_ne (bs : List UInt8) (i j : Nat) (h : j ≠ i / 4) : word (bs.take (i + 1)) j = word (bs.take i) j := by
  have e : ∀ k, k ≠ i → (bs.take (i + 1)).getD k 0 = (bs.take i).getD k 0 := by
    intro k hk
    rw [getD_take, getD_take]
    by_cases h1 : k < i
    · rw [if_pos (by omega), if_pos h1]
    · rw [if_neg (by omega), if_neg h1]
  unfold word
  rw [e (4 * j) (by omega), e (4 * j + 1) (by omega), e (4 * j + 2) (by omega), e (4 * j + 3) (by omega)]
theorem word_step (bs : List UInt8) (i : Nat) (h : i < bs.length) : word (bs.take (i + 1)) (i / 4) = (word (bs.take i) (i / 4) ||| (bs[i]).toNat * 2 ^ (8 * (i % 4)) % M) := by
  have hb : bs.getD i 0 = bs[i] := by rw [List.getD_eq_getElem?_getD]; simp [h]
  obtain ⟨q, hq⟩ : ∃ q, q = i / 4 := ⟨_, rfl⟩
  have hc := (bs[i]).toNat_lt
  have g : ∀ k, ((bs.take i).getD k 0).toNat < 256 := fun k => UInt8.toNat_lt _
  have hr : i % 4 = 0 ∨ i % 4 = 1 ∨ i % 4 = 2 ∨ i % 4 = 3 := by omega
  unfold word
  rw [← hq]
  have e : ∀ k n, (bs.take n).getD k 0 = if k < n then bs.getD k 0 else 0 := fun k n => getD_take bs n k
  have z : (0 : UInt8).toNat = 0 := rfl
  have b0 := (bs.getD (4 * q) 0).toNat_lt; have b1 := (bs.getD (4 * q + 1) 0).toNat_lt; have b2 := (bs.getD (4 * q + 2) 0).toNat_lt
  rcases hr with hr | hr | hr | hr
  · obtain rfl : i = 4 * q := by omega
    simp only [e, hr]
    simp only [show (4 * q < 4 * q + 1) = True from by simp, show ¬ (4 * q + 1 < 4 * q + 1) from by omega, show ¬ (4 * q + 2 < 4 * q + 1) from by omega, show ¬ (4 * q + 3 < 4 * q + 1) from by omega, show ¬ (4 * q < 4 * q) from by omega, show ¬ (4 * q + 1 < 4 * q) from by omega, show ¬ (4 * q + 2 < 4 * q) from by omega, show ¬ (4 * q + 3 < 4 * q) from by omega, if_true, if_false, z, hb, Nat.mul_zero, Nat.add_zero, Nat.pow_zero, Nat.mul_one, Nat.zero_or]
    unfold M; omega
  · obtain rfl : i = 4 * q + 1 := by omega
    simp only [e, hr]
    simp only [show (4 * q < 4 * q + 1 + 1) = True from by simp; omega, show (4 * q + 1 < 4 * q + 1 + 1) = True from by simp, show ¬ (4 * q + 2 < 4 * q + 1 + 1) from by omega, show ¬ (4 * q + 3 < 4 * q + 1 + 1) from by omega, show (4 * q < 4 * q + 1) = True from by simp, show ¬ (4 * q + 1 < 4 * q + 1) from by omega, show ¬ (4 * q + 2 < 4 * q + 1) from by omega, show ¬ (4 * q + 3 < 4 * q + 1) from by omega, if_true, if_false, z, hb, Nat.mul_zero, Nat.add_zero, Nat.mul_one]
    rw [Nat.or_comm, nat_join 8 _ _ (by unfold M; omega) (by omega)]
    unfold M; omega
  · obtain rfl : i = 4 * q + 2 := by omega
    simp only [e, hr]
    simp only [show (4 * q < 4 * q + 2 + 1) = True from by simp; omega, show (4 * q + 1 < 4 * q + 2 + 1) = True from by simp, show (4 * q + 2 < 4 * q + 2 + 1) = True from by simp, show ¬ (4 * q + 3 < 4 * q + 2 + 1) from by omega, show (4 * q < 4 * q + 2) = True from by simp, show (4 * q + 1 < 4 * q + 2) = True from by simp, show ¬ (4 * q + 2 < 4 * q + 2) from by omega, show ¬ (4 * q + 3 < 4 * q + 2) from by omega, if_true, if_false, z, hb, Nat.mul_zero, Nat.add_zero]
    rw [Nat.or_comm, nat_join 16 _ _ (by unfold M; omega) (by omega)]
    unfold M; omega
  · obtain rfl : i = 4 * q + 3 := by omega
    simp only [e, hr]
    simp only [show (4 * q < 4 * q + 3 + 1) = True from by simp; omega, show (4 * q + 1 < 4 * q + 3 + 1) = True from by simp, show (4 * q + 2 < 4 * q + 3 + 1) = True from by simp, show (4 * q + 3 < 4 * q + 3 + 1) = True from by simp, show (4 * q < 4 * q + 3) = True from by simp, show (4 * q + 1 < 4 * q + 3) = True from by simp, show (4 * q + 2 < 4 * q + 3) = True from by simp, show ¬ (4 * q + 3 < 4 * q + 3) from by omega, if_true, if_false, z, hb, Nat.mul_zero, Nat.add_zero]
    rw [Nat.or_comm, nat_join 24 _ _ (by unfold M; omega) (by omega)]
    unfold M; omega
theorem words_step (bs : List UInt8) (i : Nat) (h : i < bs.length) (h64 : i < 64) : wordsF (bs.take (i + 1)) = (wordsF (bs.take i)).set (i / 4) ((wordsF (bs.take i)).getD (i / 4) 0 ||| (bs[i]).toNat * 2 ^ (8 * (i % 4)) % M) := by
  have hg : ∀ (b : List UInt8) (j : Nat), j < 16 → (wordsF b).getD j 0 = word b j := fun b j hj => by
    rw [List.getD_eq_getElem?_getD]; simp [wordsF, hj]
  rw [hg _ _ (by omega), ← word_step bs i h]
  apply List.ext_getElem?
  intro j
  rw [List.getElem?_set]
  have hl : (wordsF (bs.take i)).length = 16 := by simp [wordsF]
  by_cases hj : i / 4 = j
  · subst hj
    rw [if_pos rfl, hl, if_pos (by omega)]
    simp [wordsF, show i / 4 < 16 by omega]
  · rw [if_neg hj]
    unfold wordsF
    by_cases hj2 : j < 16
    · simp [hj2, word_take_ne bs i j (fun e => hj e.symm)]
    · simp [hj2]

section
variable {P : Program} {Q : Exit → Act → World → Prop} {o : Oper} {a : Act} {w : World} {K : Act → World → Prop}
theorem ow_or32 (x y : Operand) (t ty : TypeId) (i j : Nat) (ho : o.op = .binOp .or t x y ty) (hx : a.eval x = .int .u32 (i : Int)) (hy : a.eval y = .int .u32 (j : Int)) (hi : i < M) (hj : j < M)
    (h : K (a.put o.dst (.int .u32 ((i ||| j : Nat) : Int))) w) : o.wp P a w K Q := by
  refine ow_value (v := .int .u32 ((i ||| j : Nat) : Int)) ?_ h
  unfold execOp
  simp only [ho, hx, hy]
  have hw := u32_or_nat i j hi hj
  simp [go_sem, hw]
end
theorem ow_shl32 {Q : Exit → Act → World → Prop} {o : Oper} {a : Act} {w : World} {K : Act → World → Prop} (x y : Operand) (i k : Nat) (ho : o.op = .binOp .shl 22 x y 3) (hx : a.eval x = .int .u32 (i : Int)) (hy : a.eval y = .int .i64 (k : Int)) (hk : k ≤ 31)
    (h : K (a.put o.dst (.int .u32 ((i * 2 ^ k % M : Nat) : Int))) w) : o.wp Try.prog a w K Q := by
  refine ow_value (v := .int .u32 ((i * 2 ^ k % M : Nat) : Int)) ?_ h
  unfold execOp
  simp only [ho, hx, hy]
  have hw : IntKind.u32.wrap ((i : Int) * 2 ^ k) = ((i * 2 ^ k % M : Nat) : Int) := by
    rw [IntKind.wrap_u32', Int.natCast_emod, Int.natCast_mul, Int.natCast_pow]
    rfl
  simp [go_sem]
  rw [hw]
  simp
theorem ow_conv8 {Q : Exit → Act → World → Prop} {o : Oper} {a : Act} {w : World} {K : Act → World → Prop} (x : Operand) (i : Nat) (ho : o.op = .convert 5 22 x) (hx : a.eval x = .int .u8 (i : Int)) (hi : i < M)
    (h : K (a.put o.dst (.int .u32 (i : Int))) w) : o.wp Try.prog a w K Q := by
  refine ow_value (v := .int .u32 (i : Int)) ?_ h
  unfold execOp
  simp only [ho, hx]
  have hw : IntKind.u32.wrap (i : Int) = (i : Int) := by rw [IntKind.wrap_u32']; unfold M at hi; omega
  simp [go_sem, hw]
end Go.Proofs.Ytnemclbeofiakaa
