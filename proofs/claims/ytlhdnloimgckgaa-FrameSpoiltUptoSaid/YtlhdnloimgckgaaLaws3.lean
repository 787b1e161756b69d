/-
  Plain laws for FrameSpoilt: an odd number of bits turned is told. No program here.
-/
import Derived.Test.YtlhdnloimgckgaaLaws2
namespace Go.Proofs.Ytlhdnloimgckgaa
open Crc

theorem par_split (k : Nat) : ∀ x, par x = (par (x % 2 ^ k) + par (x / 2 ^ k)) % 2 := by
  induction k with
  | zero => intro x; have := par_lt x; simp [Nat.mod_one, par]; omega
  | succ k ih =>
    intro x
    have h1 : (x % 2 ^ (k + 1)) % 2 = x % 2 := by rw [Nat.pow_succ, Nat.mul_comm, Nat.mod_mul_right_mod]
    have h2 : (x % 2 ^ (k + 1)) / 2 = (x / 2) % 2 ^ k := by rw [Nat.pow_succ, Nat.mul_comm, Nat.mod_mul_right_div_self]
    have h3 : x / 2 ^ (k + 1) = x / 2 / 2 ^ k := by rw [Nat.pow_succ, Nat.mul_comm, Nat.div_div_eq_div_mul]
    rw [par_eq x, ih (x / 2), par_eq (x % 2 ^ (k + 1)), h1, h2, h3]
    omega
theorem pars_be4 {x : Nat} (hx : x < 4294967296) : pars (be4 x) = par x := by
  have h1 := par_split 8 x
  have h2 := par_split 8 (x / 2 ^ 8)
  have h3 := par_split 8 (x / 2 ^ 8 / 2 ^ 8)
  have e1 : x / 2 ^ 8 / 2 ^ 8 = x / 65536 := by omega
  have e2 : x / 2 ^ 8 / 2 ^ 8 / 2 ^ 8 = x / 16777216 := by omega
  rw [e1] at h2
  rw [e2, e1] at h3
  have e3 : x / 16777216 % 256 = x / 16777216 := by omega
  have t : ∀ y : Nat, (UInt8.ofNat y).toNat = y % 256 := ofNat_toNat
  unfold be4
  simp only [pars_cons, t, e3]
  have h0 : pars [] = 0 := rfl
  rw [h0]
  simp only [show (2 : Nat) ^ 8 = 256 from rfl] at h1 h2 h3
  omega
theorem be4_at (b : List UInt8) (h : 8 ≤ b.length) : (b.drop 4).take 4 = be4 (nAt b 4) := by
  unfold nAt
  rw [be4_num4]
  match b, h with
  | _ :: _ :: _ :: _ :: _ :: _ :: _ :: _ :: r, _ => simp
/-- a record that is told is even -/
theorem okRec_even {x : Nat} {b : List UInt8} (h : okRec x b = true) : (pars (le4 x) + pars (b.take (8 + nAt b 0))) % 2 = 0 := by
  obtain ⟨_, h8, _, _, _⟩ := okRec_sum h
  unfold okRec at h
  simp only [Bool.and_eq_true, decide_eq_true_eq, beq_iff_eq] at h
  have h4 := congrArg par h.2
  rw [par_check, pars_append, pars_append, ← pars_be4 (nAt_lt b 4), ← be4_at b h8] at h4
  have e : b.take (8 + nAt b 0) = b.take 4 ++ ((b.drop 4).take 4 ++ (b.drop 8).take (nAt b 0)) := by
    rw [List.take_add, show (8 : Nat) = 4 + 4 from rfl, List.take_add, List.append_assoc]
  rw [e, pars_append, pars_append]
  have := pars_lt (b.take 4); have := pars_lt ((b.drop 4).take 4); have := pars_lt ((b.drop 8).take (nAt b 0)); have := pars_lt (le4 x)
  omega

theorem par_bit (k : Nat) : par (2 ^ k) = 1 := by
  induction k with
  | zero => simp [par]
  | succ k ih =>
    have h : 2 ^ (k + 1) = 2 * 2 ^ k := by rw [Nat.pow_succ, Nat.mul_comm]
    rw [par_eq, h, Nat.mul_mod_right, Nat.mul_div_cancel_left _ (by decide), ih]
theorem pars_set (c : List UInt8) (i : Nat) (hi : i < c.length) (v : UInt8) (hv : (par v.toNat + par (c[i]).toNat) % 2 = 1) : pars (c.set i v) = (pars c + 1) % 2 := by
  induction c generalizing i with
  | nil => simp at hi
  | cons x xs ih =>
    cases i with
    | zero =>
      simp only [List.set_cons_zero, List.getElem_cons_zero] at hv ⊢
      rw [pars_cons, pars_cons]
      have := par_lt v.toNat; have := par_lt x.toNat
      omega
    | succ i =>
      simp only [List.set_cons_succ, List.getElem_cons_succ] at hv ⊢
      rw [pars_cons, pars_cons, ih i (by simpa using hi) hv]
      omega

/-- where an odd number of bits of record K is turned, none of its length, those ahead of it are told, and no others -/
theorem recs_spoilt (L : List (List UInt8)) (hp : ∀ p ∈ L, p.length ≤ 16384) (K : Nat) (hK : K < L.length) (c : List UInt8) (hl : c.length = (rowF 0 L).length)
    (h1 : c.take ((rowF 0 (L.take K)).length + 4) = (rowF 0 L).take ((rowF 0 (L.take K)).length + 4)) (h2 : c.drop ((rowF 0 (L.take K)).length + (8 + (L[K]).length)) = (rowF 0 L).drop ((rowF 0 (L.take K)).length + (8 + (L[K]).length)))
    (h3 : pars c = (pars (rowF 0 L) + 1) % 2) : recs c.length 0 c = L.take K := by
  obtain ⟨A, hA⟩ : ∃ A, A = rowF 0 (L.take K) := ⟨_, rfl⟩
  obtain ⟨S, hS⟩ : ∃ S, S = lastS 0 (L.take K) := ⟨_, rfl⟩
  obtain ⟨R, hR⟩ : ∃ R, R = rec_ S L[K] := ⟨_, rfl⟩
  obtain ⟨B, hB⟩ : ∃ B, B = rowF (rsum S L[K]) (L.drop (K + 1)) := ⟨_, rfl⟩
  have hb : rowF 0 L = A ++ (R ++ B) := by
    have : rowF 0 L = rowF 0 (L.take K) ++ rowF (lastS 0 (L.take K)) (L.drop K) := by rw [← rowF_append, List.take_append_drop]
    rw [this, hA, hR, hB, hS, List.drop_eq_getElem_cons hK]
    rfl
  have hRl : R.length = 8 + (L[K]).length := by rw [hR, rec_length]
  rw [← hA, hb] at h1
  rw [← hA, hb] at h2
  rw [hb] at h3 hl
  have hn : 8 ≤ 8 + (L[K]).length := by omega
  have hpl := hp _ (List.getElem_mem hK)
  have hnR : nAt (R ++ B) 0 = (L[K]).length := by rw [hR]; exact nAt_rec S _ B hpl
  have hRok : okRec S (R ++ B) = true := by rw [hR]; exact (okRec_rec hpl).1
  obtain ⟨n, hn'⟩ : ∃ n, n = 8 + (L[K]).length := ⟨_, rfl⟩
  rw [← hn'] at hRl h2 hn
  obtain ⟨R', hR'⟩ : ∃ R', R' = (c.drop A.length).take n := ⟨_, rfl⟩
  have hlen : c.length = A.length + (n + B.length) := by rw [hl]; simp [hRl]
  have hR'l : R'.length = n := by rw [hR', List.length_take, List.length_drop]; omega
  have hcA : c.take A.length = A := by
    have := congrArg (List.take A.length) h1
    rw [List.take_take, List.take_take, Nat.min_eq_left (by omega)] at this
    rw [this]; simp
  have hcB : c.drop (A.length + n) = B := by
    rw [h2, ← hRl, ← List.length_append, ← List.append_assoc]
    simp
  have hc : c = A ++ (R' ++ B) := by
    rw [← hcB, hR', ← List.drop_drop, List.take_append_drop]
    conv => lhs; rw [← List.take_append_drop A.length c, hcA]
  have h4 : (R' ++ B).take 4 = (R ++ B).take 4 := by
    rw [hc, List.take_length_add_append, List.take_length_add_append] at h1
    exact List.append_cancel_left h1
  have hn4 : nAt (R' ++ B) 0 = (L[K]).length := by
    rw [← nAt_take (R' ++ B) 4 (by omega), h4, nAt_take (R ++ B) 4 (by omega), hnR]
  have hno : okRec S (R' ++ B) = false := by
    cases h : okRec S (R' ++ B) with
    | false => rfl
    | true =>
      have e1 := okRec_even h
      have e2 := okRec_even hRok
      rw [hn4, ← hn', ← hR'l, List.take_left] at e1
      rw [hnR, ← hn', ← hRl, List.take_left] at e2
      rw [hc, pars_append, pars_append, pars_append, pars_append] at h3
      have := pars_lt A; have := pars_lt B; have := pars_lt R; have := pars_lt R'; have := pars_lt (le4 S)
      omega
  rw [hc, hA, recs_rowF _ (fun p h => hp p (List.mem_of_mem_take h)) 0 _ _ (Nat.le_refl _), ← hS, recs_not hno, List.append_nil]
end Go.Proofs.Ytlhdnloimgckgaa
