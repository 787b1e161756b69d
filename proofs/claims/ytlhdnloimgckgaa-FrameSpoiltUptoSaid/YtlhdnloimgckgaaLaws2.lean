/-
  Plain laws for FrameRow and FrameSpoilt: a row of records, one by one. No program here.
-/
import Derived.Test.YtlhdnloimgckgaaLaws
namespace Go.Proofs.Ytlhdnloimgckgaa

/-- the records of a row, one by one -/
def rowL : Nat → List (List UInt8) → List (List UInt8)
  | _, [] => []
  | x, p :: ps => rec_ x p :: rowL (rsum x p) ps
theorem rowL_flatten (x : Nat) (ps : List (List UInt8)) : (rowL x ps).flatten = rowF x ps := by
  induction ps generalizing x with
  | nil => rfl
  | cons p ps ih => simp [rowL, rowF, ih]
theorem rowL_length (x : Nat) (ps : List (List UInt8)) : (rowL x ps).length = ps.length := by
  induction ps generalizing x with
  | nil => rfl
  | cons p ps ih => simp [rowL, ih]
theorem rowL_append (x : Nat) (a b : List (List UInt8)) : rowL x (a ++ b) = rowL x a ++ rowL (lastS x a) b := by
  induction a generalizing x with
  | nil => rfl
  | cons p ps ih => simp [rowL, lastS, ih]
theorem rowL_snoc (x : Nat) (a : List (List UInt8)) (p : List UInt8) : rowL x (a ++ [p]) = rowL x a ++ [rec_ (lastS x a) p] := by rw [rowL_append]; rfl
theorem rowL_split (x : Nat) (ps : List (List UInt8)) (k : Nat) : rowL x ps = rowL x (ps.take k) ++ rowL (lastS x (ps.take k)) (ps.drop k) := by
  rw [← rowL_append, List.take_append_drop]
theorem rowL_take (x : Nat) (ps : List (List UInt8)) (k : Nat) (hk : k ≤ ps.length) : (rowL x ps).take k = rowL x (ps.take k) := by
  rw [rowL_split x ps k, List.take_append_of_le_length (by rw [rowL_length, List.length_take]; omega), List.take_of_length_le (by rw [rowL_length, List.length_take]; omega)]
theorem rowL_drop (x : Nat) (ps : List (List UInt8)) (k : Nat) (hk : k ≤ ps.length) : (rowL x ps).drop k = rowL (lastS x (ps.take k)) (ps.drop k) := by
  have h : (rowL x (ps.take k)).length = k := by rw [rowL_length, List.length_take]; omega
  rw [rowL_split x ps k, List.drop_append_of_le_length (by omega), List.drop_of_length_le (by omega), List.nil_append]
theorem rowL_get (x : Nat) (ps : List (List UInt8)) (k : Nat) (hk : k < ps.length) : (rowL x ps)[k]? = some (rec_ (lastS x (ps.take k)) ps[k]) := by
  have h : (rowL x (ps.take k)).length = k := by rw [rowL_length, List.length_take]; omega
  rw [rowL_split x ps k, List.getElem?_append_right (by omega), h, Nat.sub_self, List.drop_eq_getElem_cons hk]
  rfl
theorem rowL_flatten_take (ps : List (List UInt8)) (k : Nat) : (rowL 0 (ps.take k)).flatten.length ≤ 8 * ps.length + ps.flatten.length := by
  rw [rowL_flatten, rowF_length]
  have h1 : (ps.take k).flatten.length ≤ ps.flatten.length := by
    conv => rhs; rw [← List.take_append_drop k ps, List.flatten_append, List.length_append]
    exact Nat.le_add_right _ _
  have h2 : (ps.take k).length ≤ ps.length := by simp; omega
  omega

/-- a log out of which a record is taken -/
theorem recs_out (L : List (List UInt8)) (hp : ∀ p ∈ L, p.length ≤ 16384) (k : Nat) (_hk : k < L.length) (hs : ¬ (k + 1 < L.length ∧ lastS 0 (L.take k) = lastS 0 (L.take (k + 1)))) :
    recs (rowF 0 (L.take k) ++ rowF (lastS 0 (L.take (k + 1))) (L.drop (k + 1))).length 0 (rowF 0 (L.take k) ++ rowF (lastS 0 (L.take (k + 1))) (L.drop (k + 1))) = L.take k := by
  rw [recs_rowF _ (fun p h => hp p (List.mem_of_mem_take h)) 0 _ _ (Nat.le_refl _), recs_not ?_, List.append_nil]
  rcases Nat.lt_or_ge (k + 1) L.length with h | h
  · rw [List.drop_eq_getElem_cons h]
    exact okRec_other (lastS_lt (by decide) _) (lastS_lt (by decide) _) (fun e => hs ⟨h, e.symm⟩) _ _ (hp _ (List.getElem_mem h))
  · rw [List.drop_eq_nil_of_le h]
    exact okRec_few (by simp [rowF])
/-- a log into which a record of its own is put once more, behind another sum -/
theorem recs_in_other (L : List (List UInt8)) (hp : ∀ p ∈ L, p.length ≤ 16384) (i p : Nat) (hi : i < L.length) (hne : lastS 0 (L.take p) ≠ lastS 0 (L.take i)) (r : List UInt8) :
    recs (rowF 0 (L.take p) ++ (rec_ (lastS 0 (L.take i)) L[i] ++ r)).length 0 (rowF 0 (L.take p) ++ (rec_ (lastS 0 (L.take i)) L[i] ++ r)) = L.take p := by
  rw [recs_rowF _ (fun q h => hp q (List.mem_of_mem_take h)) 0 _ _ (Nat.le_refl _), recs_not ?_, List.append_nil]
  exact okRec_other (lastS_lt (by decide) _) (lastS_lt (by decide) _) (fun e => hne e.symm) _ _ (hp _ (List.getElem_mem hi))
/-- .. behind the sum that it was made behind -/
theorem recs_in_same (L : List (List UInt8)) (hp : ∀ p ∈ L, p.length ≤ 16384) (i p : Nat) (hi : i < L.length) (he : lastS 0 (L.take p) = lastS 0 (L.take i)) (r : List UInt8) :
    ∃ rest, recs (rowF 0 (L.take p) ++ (rec_ (lastS 0 (L.take i)) L[i] ++ r)).length 0 (rowF 0 (L.take p) ++ (rec_ (lastS 0 (L.take i)) L[i] ++ r)) = L.take p ++ (L[i] :: rest) := by
  have h1 : rowF 0 (L.take p) ++ (rec_ (lastS 0 (L.take i)) L[i] ++ r) = rowF 0 (L.take p ++ [L[i]]) ++ r := by
    rw [rowF_snoc, he, List.append_assoc]
  rw [h1, recs_rowF _ (fun q h => ?_) 0 _ _ (Nat.le_refl _)]
  · exact ⟨_, by rw [List.append_assoc]; rfl⟩
  · rcases List.mem_append.1 h with h | h
    · exact hp q (List.mem_of_mem_take h)
    · rw [List.mem_singleton.1 h]; exact hp _ (List.getElem_mem hi)
end Go.Proofs.Ytlhdnloimgckgaa
