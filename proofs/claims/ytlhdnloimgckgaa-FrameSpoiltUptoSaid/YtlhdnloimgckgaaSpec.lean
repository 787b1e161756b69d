/-
  What the frame package computes, in plain Lean: a record, a row of records, what bytes tell. No program here.
-/
import Derived.Test.YtlhdnloimgckgaaCrc
namespace Go.Proofs.Ytlhdnloimgckgaa

def num4 (a b c d : UInt8) : Nat := a.toNat * 16777216 + b.toNat * 65536 + c.toNat * 256 + d.toNat
theorem num4_lt (a b c d : UInt8) : num4 a b c d < 4294967296 := by
  have := a.toNat_lt; have := b.toNat_lt; have := c.toNat_lt; have := d.toNat_lt
  unfold num4; omega
/-- the sum of a record with payload p behind the sum x -/
def rsum (x : Nat) (p : List UInt8) : Nat := Crc.check (Crc.le4 x ++ Crc.be4 p.length ++ p)
def rec_ (x : Nat) (p : List UInt8) : List UInt8 := Crc.be4 p.length ++ Crc.be4 (rsum x p) ++ p
theorem rsum_lt (x : Nat) (p : List UInt8) : rsum x p < 4294967296 := Crc.check_lt _
theorem rec_length (x : Nat) (p : List UInt8) : (rec_ x p).length = 8 + p.length := by simp [rec_, Crc.be4]; omega

def nAt (b : List UInt8) (i : Nat) : Nat := num4 (b.getD i 0) (b.getD (i + 1) 0) (b.getD (i + 2) 0) (b.getD (i + 3) 0)
theorem nAt_lt (b : List UInt8) (i : Nat) : nAt b i < 4294967296 := num4_lt _ _ _ _
/-- is there a record behind the sum x? -/
def okRec (x : Nat) (b : List UInt8) : Bool :=
  decide (8 ≤ b.length) && decide (nAt b 0 ≤ 16384) && decide (nAt b 0 ≤ b.length - 8) && (Crc.check (Crc.le4 x ++ b.take 4 ++ (b.drop 8).take (nAt b 0)) == nAt b 4)
def recs : Nat → Nat → List UInt8 → List (List UInt8)
  | 0, _, _ => []
  | f + 1, x, b => if okRec x b then (b.drop 8).take (nAt b 0) :: recs f (nAt b 4) (b.drop (8 + nAt b 0)) else []
/-- the tail behind a row of payloads: how many, how long, the last sum -/
def tailOf (ps : List (List UInt8)) : Nat × Nat × Nat := ps.foldl (fun t p => (t.1 + 1, t.2.1 + (8 + p.length), rsum t.2.2 p)) (0, 0, 0)
theorem tailOf_snoc (ps : List (List UInt8)) (p : List UInt8) : tailOf (ps ++ [p]) = ((tailOf ps).1 + 1, (tailOf ps).2.1 + (8 + p.length), rsum (tailOf ps).2.2 p) := by simp [tailOf]
theorem snoc_ind {α : Type} {P : List α → Prop} (h0 : P []) (hs : ∀ l x, P l → P (l ++ [x])) (l : List α) : P l := by
  have key : ∀ m : List α, P m.reverse := by
    intro m
    induction m with
    | nil => exact h0
    | cons x m ih => rw [List.reverse_cons]; exact hs _ _ ih
  have := key l.reverse
  rwa [List.reverse_reverse] at this
theorem tailOf_lt (ps : List (List UInt8)) : (tailOf ps).2.2 < 4294967296 := by
  refine snoc_ind (P := fun ps => (tailOf ps).2.2 < 4294967296) (by simp [tailOf]) (fun ps p _ => ?_) ps
  rw [tailOf_snoc]; exact rsum_lt _ _
theorem tailOf_count (ps : List (List UInt8)) : (tailOf ps).1 = ps.length := by
  refine snoc_ind (P := fun ps => (tailOf ps).1 = ps.length) (by simp [tailOf]) (fun ps p ih => ?_) ps
  rw [tailOf_snoc]; simp [ih]

theorem tailOf_size (ps : List (List UInt8)) : (tailOf ps).2.1 = 8 * ps.length + ps.flatten.length := by
  refine snoc_ind (P := fun ps => (tailOf ps).2.1 = 8 * ps.length + ps.flatten.length) (by simp [tailOf]) (fun ps p ih => ?_) ps
  rw [tailOf_snoc]; simp [ih]; omega
theorem be4_num4 (a b c d : UInt8) : Crc.be4 (num4 a b c d) = [a, b, c, d] := by
  have ha := a.toNat_lt; have hb := b.toNat_lt; have hc := c.toNat_lt; have hd := d.toNat_lt
  unfold Crc.be4 num4
  refine List.cons_eq_cons.2 ⟨?_, List.cons_eq_cons.2 ⟨?_, List.cons_eq_cons.2 ⟨?_, List.cons_eq_cons.2 ⟨?_, rfl⟩⟩⟩⟩
  all_goals (apply UInt8.toNat_inj.1; rw [Crc.ofNat_toNat]; omega)
theorem take4_eq (b : List UInt8) (h : 4 ≤ b.length) : b.take 4 = Crc.be4 (nAt b 0) := by
  unfold nAt
  rw [be4_num4]
  match b, h with
  | a :: b :: c :: d :: r, _ => simp
/-- the sum of a record that is told is the one that Put makes -/
theorem okRec_sum {x : Nat} {b : List UInt8} (h : okRec x b = true) : nAt b 4 = rsum x ((b.drop 8).take (nAt b 0)) ∧ 8 ≤ b.length ∧ nAt b 0 ≤ 16384 ∧ nAt b 0 ≤ b.length - 8 ∧ ((b.drop 8).take (nAt b 0)).length = nAt b 0 := by
  unfold okRec at h
  simp only [Bool.and_eq_true, decide_eq_true_eq, beq_iff_eq] at h
  obtain ⟨⟨⟨h1, h2⟩, h3⟩, h4⟩ := h
  have hl : ((b.drop 8).take (nAt b 0)).length = nAt b 0 := by simp; omega
  refine ⟨?_, h1, h2, h3, hl⟩
  unfold rsum
  rw [hl, ← h4, take4_eq b (by omega)]
theorem recs_more (f : Nat) : ∀ (x : Nat) (b : List UInt8) (g : Nat), b.length ≤ f → b.length ≤ g → recs f x b = recs g x b := by
  induction f with
  | zero =>
    intro x b g h1 h2
    have : b = [] := List.eq_nil_of_length_eq_zero (by omega)
    subst this
    cases g with
    | zero => rfl
    | succ g => simp [recs, okRec]
  | succ f ih =>
    intro x b g h1 h2
    cases g with
    | zero =>
      have : b = [] := List.eq_nil_of_length_eq_zero (by omega)
      subst this
      simp [recs, okRec]
    | succ g =>
      simp only [recs]
      split
      · rename_i h
        have := (okRec_sum h).2.1
        rw [ih _ _ g (by simp; omega) (by simp; omega)]
      · rfl
/-- records, one behind the other, the first one behind the sum x -/
def rowF : Nat → List (List UInt8) → List UInt8
  | _, [] => []
  | x, p :: ps => rec_ x p ++ rowF (rsum x p) ps
/-- the sum behind them -/
def lastS (x : Nat) (ps : List (List UInt8)) : Nat := ps.foldl rsum x
theorem lastS_append (x : Nat) (a b : List (List UInt8)) : lastS x (a ++ b) = lastS (lastS x a) b := by simp [lastS]
theorem rowF_append (x : Nat) (a b : List (List UInt8)) : rowF x (a ++ b) = rowF x a ++ rowF (lastS x a) b := by
  induction a generalizing x with
  | nil => rfl
  | cons p ps ih => simp [rowF, lastS, ih]
theorem rowF_snoc (x : Nat) (a : List (List UInt8)) (p : List UInt8) : rowF x (a ++ [p]) = rowF x a ++ rec_ (lastS x a) p := by rw [rowF_append]; simp [rowF]
theorem lastS_snoc (x : Nat) (a : List (List UInt8)) (p : List UInt8) : lastS x (a ++ [p]) = rsum (lastS x a) p := by rw [lastS_append]; rfl
theorem tailOf_sum (ps : List (List UInt8)) : (tailOf ps).2.2 = lastS 0 ps := by
  refine snoc_ind (P := fun ps => (tailOf ps).2.2 = lastS 0 ps) rfl (fun ps p ih => ?_) ps
  rw [tailOf_snoc, lastS_snoc, ih]
theorem tailOf_eq (ps : List (List UInt8)) : tailOf ps = (ps.length, 8 * ps.length + ps.flatten.length, lastS 0 ps) := by
  have h1 := tailOf_count ps; have h2 := tailOf_size ps; have h3 := tailOf_sum ps
  rw [← h1, ← h3, h1, ← h2, ← h1]
theorem rowF_length (x : Nat) (ps : List (List UInt8)) : (rowF x ps).length = 8 * ps.length + ps.flatten.length := by
  induction ps generalizing x with
  | nil => rfl
  | cons p ps ih => simp only [rowF, List.length_append, ih, rec_length, List.length_cons, List.flatten_cons]; omega
theorem lastS_lt {x : Nat} (h : x < 4294967296) (ps : List (List UInt8)) : lastS x ps < 4294967296 := by
  refine snoc_ind (P := fun ps => lastS x ps < 4294967296) h (fun ps p _ => ?_) ps
  rw [lastS_snoc]; exact rsum_lt _ _

theorem nAt_append (a b : List UInt8) (i : Nat) : nAt (a ++ b) (a.length + i) = nAt b i := by
  have h : ∀ k, (a ++ b).getD (a.length + k) 0 = b.getD k 0 := fun k => by simp [List.getD_eq_getElem?_getD, List.getElem?_append_right]
  unfold nAt
  rw [h i, Nat.add_assoc a.length i 1, h (i + 1), Nat.add_assoc a.length i 2, h (i + 2), Nat.add_assoc a.length i 3, h (i + 3)]
theorem nAt_be4 (x : Nat) (hx : x < 4294967296) (r : List UInt8) : nAt (Crc.be4 x ++ r) 0 = x := by
  unfold nAt Crc.be4 num4
  simp
  omega
theorem okRec_rec {x : Nat} {p r : List UInt8} (hp : p.length ≤ 16384) : okRec x (rec_ x p ++ r) = true ∧ ((rec_ x p ++ r).drop 8).take (nAt (rec_ x p ++ r) 0) = p ∧ nAt (rec_ x p ++ r) 4 = rsum x p ∧ (rec_ x p ++ r).drop (8 + nAt (rec_ x p ++ r) 0) = r := by
  have e : rec_ x p ++ r = Crc.be4 p.length ++ (Crc.be4 (rsum x p) ++ (p ++ r)) := by simp [rec_]
  have h0 : nAt (rec_ x p ++ r) 0 = p.length := by rw [e]; exact nAt_be4 _ (by omega) _
  have h4 : nAt (rec_ x p ++ r) 4 = rsum x p := by
    rw [e, show (4 : Nat) = (Crc.be4 p.length).length + 0 from rfl, nAt_append]
    exact nAt_be4 _ (rsum_lt _ _) _
  have hd : (rec_ x p ++ r).drop 8 = p ++ r := by rw [e]; rfl
  have ht : (rec_ x p ++ r).take 4 = Crc.be4 p.length := by rw [e]; rfl
  have hl : (rec_ x p ++ r).length = 8 + (p.length + r.length) := by rw [List.length_append, rec_length]; omega
  refine ⟨?_, ?_, h4, ?_⟩
  · unfold okRec
    rw [h0, h4, hd, ht, hl]
    have h1 : p.length ≤ 8 + (p.length + r.length) - 8 := by omega
    simp [hp, rsum]
  · rw [h0, hd]; simp
  · rw [h0, ← List.drop_drop, hd]; simp
/-- what a row of records tells -/
theorem recs_rowF (ps : List (List UInt8)) (hp : ∀ p ∈ ps, p.length ≤ 16384) : ∀ (x : Nat) (r : List UInt8) (f : Nat), (rowF x ps ++ r).length ≤ f → recs f x (rowF x ps ++ r) = ps ++ recs f (lastS x ps) r := by
  induction ps with
  | nil => intro x r f hf; simp [rowF, lastS]
  | cons p ps ih =>
    intro x r f hf
    have hpl := hp p (by simp)
    simp only [rowF, List.append_assoc]
    obtain ⟨h1, h2, h3, h4⟩ := okRec_rec (x := x) (p := p) (r := rowF (rsum x p) ps ++ r) hpl
    have hlen : (rowF x (p :: ps) ++ r).length = 8 + p.length + (rowF (rsum x p) ps ++ r).length := by simp [rowF, rec_length, Nat.add_assoc]
    cases f with
    | zero => omega
    | succ f =>
      conv => lhs; rw [recs]
      rw [if_pos h1, h2, h3, h4, ih (fun q hq => hp q (by simp [hq])) _ _ f (by omega)]
      have e : lastS x (p :: ps) = lastS (rsum x p) ps := rfl
      rw [e, List.cons_append]
      have hr : (rowF (rsum x p) ps ++ r).length = (rowF (rsum x p) ps).length + r.length := List.length_append
      rw [recs_more f _ r (f + 1) (by omega) (by omega)]
end Go.Proofs.Ytlhdnloimgckgaa
