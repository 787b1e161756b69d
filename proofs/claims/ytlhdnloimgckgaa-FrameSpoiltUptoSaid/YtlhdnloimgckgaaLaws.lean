/-
  The laws of rows of records, in plain Lean: a row that is cut; a row that goes on; a row whose records are others. No program here.
-/
import Derived.Test.YtlhdnloimgckgaaSpec
namespace Go.Proofs.Ytlhdnloimgckgaa

theorem recs_not {x : Nat} {b : List UInt8} (h : okRec x b = false) (f : Nat) : recs f x b = [] := by
  cases f with
  | zero => rfl
  | succ f => simp [recs, h]
theorem okRec_few {x : Nat} {b : List UInt8} (h : b.length < 8) : okRec x b = false := by
  unfold okRec
  have : ¬ 8 ≤ b.length := by omega
  simp [this]
theorem nAt_take (b : List UInt8) (n : Nat) (h : 4 ≤ n) : nAt (b.take n) 0 = nAt b 0 := by
  have e : ∀ i, i < 4 → (b.take n).getD i 0 = b.getD i 0 := fun i hi => by simp [List.getD_eq_getElem?_getD, List.getElem?_take_of_lt (show i < n by omega)]
  unfold nAt
  rw [e 0 (by omega), e (0 + 1) (by omega), e (0 + 2) (by omega), e (0 + 3) (by omega)]
theorem nAt_rec (x : Nat) (p r : List UInt8) (hp : p.length ≤ 16384) : nAt (rec_ x p ++ r) 0 = p.length := by
  have e : rec_ x p ++ r = Crc.be4 p.length ++ (Crc.be4 (rsum x p) ++ (p ++ r)) := by simp [rec_]
  rw [e]; exact nAt_be4 _ (by omega) _
/-- a record that is cut is none -/
theorem okRec_cut (y x : Nat) (p r : List UInt8) (hp : p.length ≤ 16384) (n : Nat) (hn : n < 8 + p.length) : okRec y ((rec_ x p ++ r).take n) = false := by
  rcases Nat.lt_or_ge n 8 with h | h
  · exact okRec_few (by rw [List.length_take]; omega)
  · have h1 : nAt ((rec_ x p ++ r).take n) 0 = p.length := by rw [nAt_take _ _ (by omega), nAt_rec x p r hp]
    have h2 : ((rec_ x p ++ r).take n).length ≤ n := by rw [List.length_take]; omega
    unfold okRec
    rw [h1]
    have h3 : ¬ p.length ≤ ((rec_ x p ++ r).take n).length - 8 := by omega
    simp only [h3, decide_false, Bool.and_false, Bool.false_and]
theorem recs_row (ps : List (List UInt8)) (hp : ∀ p ∈ ps, p.length ≤ 16384) : recs (rowF 0 ps).length 0 (rowF 0 ps) = ps := by
  have h := recs_rowF ps hp 0 [] (rowF 0 ps).length (by simp)
  rw [List.append_nil] at h
  rw [h, recs_not (okRec_few (by simp)), List.append_nil]
/-- a row that is cut at k, of which 'whole' records are whole -/
theorem row_cut (L : List (List UInt8)) (hp : ∀ p ∈ L, p.length ≤ 16384) (whole k : Nat) (hw : whole ≤ L.length) (h1 : 8 * whole + (L.take whole).flatten.length ≤ k) (h2 : ∀ h : whole < L.length, k < 8 * whole + (L.take whole).flatten.length + (8 + (L[whole]).length)) :
    ∃ r, (rowF 0 L).take k = rowF 0 (L.take whole) ++ r ∧ okRec (lastS 0 (L.take whole)) r = false := by
  have hl : (rowF 0 (L.take whole)).length = 8 * whole + (L.take whole).flatten.length := by
    rw [rowF_length, List.length_take, Nat.min_eq_left hw]
  have hsplit : rowF 0 L = rowF 0 (L.take whole) ++ rowF (lastS 0 (L.take whole)) (L.drop whole) := by
    rw [← rowF_append, List.take_append_drop]
  refine ⟨(rowF (lastS 0 (L.take whole)) (L.drop whole)).take (k - (rowF 0 (L.take whole)).length), ?_, ?_⟩
  · rw [hsplit, List.take_append]
    rw [List.take_of_length_le (by omega)]
  · rcases Nat.lt_or_ge whole L.length with hlt | hge
    · rw [List.drop_eq_getElem_cons hlt]
      exact okRec_cut _ _ _ _ (hp _ (List.getElem_mem hlt)) _ (by have := h2 hlt; omega)
    · rw [List.drop_eq_nil_of_le hge]
      exact okRec_few (by simp [rowF])
theorem recs_cut (L : List (List UInt8)) (hp : ∀ p ∈ L, p.length ≤ 16384) (whole k : Nat) (hw : whole ≤ L.length) (h1 : 8 * whole + (L.take whole).flatten.length ≤ k) (h2 : ∀ h : whole < L.length, k < 8 * whole + (L.take whole).flatten.length + (8 + (L[whole]).length)) :
    recs ((rowF 0 L).take k).length 0 ((rowF 0 L).take k) = L.take whole := by
  obtain ⟨r, e, hr⟩ := row_cut L hp whole k hw h1 h2
  rw [e, recs_rowF _ (fun p h => hp p (List.mem_of_mem_take h)) 0 r _ (Nat.le_refl _), recs_not hr, List.append_nil]
theorem recs_cut_more (L : List (List UInt8)) (hp : ∀ p ∈ L, p.length ≤ 16384) (whole k : Nat) (hw : whole ≤ L.length) (h1 : 8 * whole + (L.take whole).flatten.length ≤ k) (h2 : ∀ h : whole < L.length, k < 8 * whole + (L.take whole).flatten.length + (8 + (L[whole]).length)) (more : List UInt8) :
    ∃ rest, recs ((rowF 0 L).take k ++ more).length 0 ((rowF 0 L).take k ++ more) = L.take whole ++ rest := by
  obtain ⟨r, e, _⟩ := row_cut L hp whole k hw h1 h2
  rw [e, List.append_assoc]
  exact ⟨_, recs_rowF _ (fun p h => hp p (List.mem_of_mem_take h)) 0 (r ++ more) _ (Nat.le_refl _)⟩

/-- the sum tells the sum ahead -/
theorem check_inj {x y : Nat} (hx : x < 4294967296) (hy : y < 4294967296) (r : List UInt8) (h : Crc.check (Crc.le4 x ++ r) = Crc.check (Crc.le4 y ++ r)) : x = y := by
  unfold Crc.check at h
  have h1 := Crc.xor_right_inj h
  rw [Crc.crcs_append, Crc.crcs_append] at h1
  have h2 := Crc.crcs_inj r (Crc.crcs_lt _ (by decide)) (Crc.crcs_lt _ (by decide)) h1
  rw [Crc.crcs_le4 (by simpa using hx), Crc.crcs_le4 (by simpa using hy)] at h2
  have h3 := Crc.cn_inj 32 (Crc.xor_lt (by decide) (by simpa using hx)) (Crc.xor_lt (by decide) (by simpa using hy)) h2
  rw [Nat.xor_comm 4294967295 x, Nat.xor_comm 4294967295 y] at h3
  exact Crc.xor_right_inj h3
theorem rsum_inj {x y : Nat} (hx : x < 4294967296) (hy : y < 4294967296) (p : List UInt8) (h : rsum x p = rsum y p) : x = y := by
  unfold rsum at h
  rw [List.append_assoc, List.append_assoc] at h
  exact check_inj hx hy _ h
theorem be4_inj' {x y : Nat} (hx : x < 4294967296) (hy : y < 4294967296) (h : Crc.be4 x = Crc.be4 y) : x = y := by
  have h1 := nAt_be4 x hx []
  have h2 := nAt_be4 y hy []
  rw [← h1, h, h2]
theorem rec_inj {x y : Nat} (hx : x < 4294967296) (hy : y < 4294967296) (p : List UInt8) : rec_ x p = rec_ y p ↔ x = y := by
  constructor
  · intro h
    unfold rec_ at h
    rw [List.append_assoc, List.append_assoc] at h
    have h1 := List.append_cancel_left h
    have h2 := List.append_cancel_right h1
    exact rsum_inj hx hy p (be4_inj' (rsum_lt _ _) (rsum_lt _ _) h2)
  · rintro rfl; rfl
/-- a record that was made behind another sum is none -/
theorem okRec_other {x y : Nat} (hx : x < 4294967296) (hy : y < 4294967296) (hne : x ≠ y) (p r : List UInt8) (hp : p.length ≤ 16384) : okRec y (rec_ x p ++ r) = false := by
  cases h : okRec y (rec_ x p ++ r) with
  | false => rfl
  | true =>
    obtain ⟨h1, _⟩ := okRec_sum h
    obtain ⟨_, h2, h3, _⟩ := okRec_rec (x := x) (p := p) (r := r) hp
    rw [h2, h3] at h1
    exact absurd (rsum_inj hx hy p h1) hne
end Go.Proofs.Ytlhdnloimgckgaa
