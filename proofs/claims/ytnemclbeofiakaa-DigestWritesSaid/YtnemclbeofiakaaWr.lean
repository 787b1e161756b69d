/-
  A slice of bytes cut.
-/
import Derived.Test.YtnemclbeofiakaaWq
namespace Go.Proofs.Ytnemclbeofiakaa
open Go.RowKit Bl

section
variable {P : Program} {Q : Exit → Act → World → Prop} {o : Oper} {a : Act} {w : World} {K : Act → World → Prop}
theorem SB.shape2 {v : Value} {bs : List UInt8} (h : SB w v bs) : ∃ A c, v = .slice A bs.length c ∧ bs.length ≤ c ∧ (bs = [] ∨ ∃ b o, A = some ⟨b, o, none⟩ ∧ ∀ i m k, i + m ≤ bs.length → m ≤ k → SB w (.slice (some ⟨b, o + i, none⟩) m k) ((bs.drop i).take m)) := by
  obtain ⟨A, c, rfl, h', -⟩ := h.shape
  have hc := h'.cap
  refine ⟨A, c, rfl, hc.2, ?_⟩
  by_cases hp : 0 < bs.length
  · obtain ⟨b, o, e, _, hh⟩ := SB.part h' hp
    exact .inr ⟨b, o, e, hh⟩
  · exact .inl (List.eq_nil_of_length_eq_zero (by omega))
theorem SB_empty (w : World) (A : Option Addr) (c : Nat) : SB w (.slice A 0 c) [] := ⟨A, c, rfl, Nat.zero_le _, by simp, .inl rfl⟩
/-- b[:k] -/
theorem ow_cut_to (x y : Operand) (ho : o.op = .slice 24 x none (some y) none) {v : Value} {bs : List UInt8} (hx : a.eval x = v) (hv : SB w v bs) (k : Nat) (hy : a.eval y = .int .i64 (k : Int)) (hk : k ≤ bs.length)
    (h : ∀ v', SB w v' (bs.take k) → K (a.put o.dst v') w) : o.wp Try.prog a w K Q := by
  obtain ⟨A, c, rfl, hc, hh⟩ := hv.shape2
  have hcut : SB w (.slice A k c) (bs.take k) := by
    rcases hh with rfl | ⟨b, o', rfl, hp⟩
    · obtain rfl : k = 0 := by simpa using hk
      exact SB_empty w A c
    · simpa using hp 0 k c (by omega) (by omega)
  refine ow_value (v := .slice A k c) ?_ (h _ hcut)
  obtain ⟨i, hi1, hi2⟩ := Option.map_eq_some_iff.1 tag5
  unfold execOp
  simp only [ho, hx, hy, Sem.run_bind, Option.map_some, Option.map_none]
  have h1 : k ≤ c := by omega
  cases A <;> by_cases h0 : c = 0 <;> simp [go_sem, Try.underlying24, h1, h0, sizeOf, typeInfo, Sem.run_bind, hi1, hi2]
  all_goals omega
/-- b[l:] -/
theorem ow_cut_from (x y : Operand) (ho : o.op = .slice 24 x (some y) none none) {v : Value} {bs : List UInt8} (hx : a.eval x = v) (hv : SB w v bs) (l : Nat) (hy : a.eval y = .int .i64 (l : Int)) (hl : l ≤ bs.length)
    (h : ∀ v', SB w v' (bs.drop l) → K (a.put o.dst v') w) : o.wp Try.prog a w K Q := by
  obtain ⟨A, c, rfl, hc, hh⟩ := hv.shape2
  obtain ⟨i, hi1, hi2⟩ := Option.map_eq_some_iff.1 tag5
  rcases hh with rfl | ⟨b, o', rfl, hp⟩
  · obtain rfl : l = 0 := by simpa using hl
    cases A with
    | none =>
      refine ow_value (v := .slice none 0 c) ?_ (h _ (SB_empty w _ _))
      unfold execOp
      simp only [ho, hx, hy, Sem.run_bind, Option.map_some, Option.map_none]
      by_cases h0 : c = 0 <;> simp [go_sem, Try.underlying24, h0, sizeOf, typeInfo, Sem.run_bind, hi1, hi2]
    | some ad =>
      refine ow_value (v := .slice (some (if c = 0 then ad else ad.add 0)) 0 c) ?_ (h _ (SB_empty w _ _))
      unfold execOp
      simp only [ho, hx, hy, Sem.run_bind, Option.map_some, Option.map_none]
      by_cases h0 : c = 0 <;> simp [go_sem, Try.underlying24, h0, sizeOf, typeInfo, Sem.run_bind, hi1, hi2]
  · have hcut : SB w (.slice (some ⟨b, if c = l then o' else o' + l, none⟩) (bs.length - l) (c - l)) (bs.drop l) := by
      by_cases h0 : l = bs.length
      · rw [List.drop_eq_nil_of_le (by omega), h0, Nat.sub_self]
        exact SB_empty w _ _
      · have h2 : ¬ c = l := by omega
        rw [if_neg h2]
        have := hp l (bs.length - l) (c - l) (by omega) (by omega)
        rwa [List.take_of_length_le (by simp)] at this
    refine ow_value (v := .slice (some ⟨b, if c = l then o' else o' + l, none⟩) (bs.length - l) (c - l)) ?_ (h _ hcut)
    unfold execOp
    simp only [ho, hx, hy, Sem.run_bind, Option.map_some, Option.map_none]
    simp [go_sem, Try.underlying24, hl, sizeOf, typeInfo, Sem.run_bind, hi1, hi2]
    by_cases h0 : c = l <;> simp [h0]
/-- b[l:k] -/
theorem ow_cut (x y z : Operand) (ho : o.op = .slice 24 x (some y) (some z) none) {v : Value} {bs : List UInt8} (hx : a.eval x = v) (hv : SB w v bs) (l k : Nat) (hy : a.eval y = .int .i64 (l : Int)) (hz : a.eval z = .int .i64 (k : Int)) (hlk : l ≤ k) (hk : k ≤ bs.length)
    (h : ∀ v', SB w v' ((bs.drop l).take (k - l)) → K (a.put o.dst v') w) : o.wp Try.prog a w K Q := by
  obtain ⟨A, c, rfl, hc, hh⟩ := hv.shape2
  obtain ⟨i, hi1, hi2⟩ := Option.map_eq_some_iff.1 tag5
  have hkc : k ≤ c := by omega
  rcases hh with rfl | ⟨b, o', rfl, hp⟩
  · obtain rfl : k = 0 := by simpa using hk
    obtain rfl : l = 0 := by omega
    cases A with
    | none =>
      refine ow_value (v := .slice none 0 c) ?_ (h _ (SB_empty w _ _))
      unfold execOp
      simp only [ho, hx, hy, hz, Sem.run_bind, Option.map_some, Option.map_none]
      by_cases h0 : c = 0 <;> simp [go_sem, Try.underlying24, h0, sizeOf, typeInfo, Sem.run_bind, hi1, hi2]
    | some ad =>
      refine ow_value (v := .slice (some (if c = 0 then ad else ad.add 0)) 0 c) ?_ (h _ (SB_empty w _ _))
      unfold execOp
      simp only [ho, hx, hy, hz, Sem.run_bind, Option.map_some, Option.map_none]
      by_cases h0 : c = 0 <;> simp [go_sem, Try.underlying24, h0, sizeOf, typeInfo, Sem.run_bind, hi1, hi2]
  · have hcut : SB w (.slice (some ⟨b, if c = l then o' else o' + l, none⟩) (k - l) (c - l)) ((bs.drop l).take (k - l)) := by
      by_cases h0 : c = l
      · have h2 : k - l = 0 := by omega
        rw [h2, List.take_zero]
        exact SB_empty w _ _
      · rw [if_neg h0]
        exact hp l (k - l) (c - l) (by omega) (by omega)
    refine ow_value (v := .slice (some ⟨b, if c = l then o' else o' + l, none⟩) (k - l) (c - l)) ?_ (h _ hcut)
    unfold execOp
    simp only [ho, hx, hy, hz, Sem.run_bind, Option.map_some, Option.map_none]
    simp [go_sem, Try.underlying24, hlk, hkc, sizeOf, typeInfo, Sem.run_bind, hi1, hi2]
    by_cases h0 : c = l <;> simp [h0]
end
end Go.Proofs.Ytnemclbeofiakaa
