/-
  What comes in, opened: rows of words; Digests.
-/
import Derived.Test.YtnemclbeofiakaaOpen
import Derived.Test.YtnemclbeofiakaaWl
namespace Go.Proofs.Ytnemclbeofiakaa
open Go.ChangeShapes Go.WideShapes Go.ChangeAt Go.RowKit Bl

theorem mapM_some {α β : Type} {f : α → Option β} : ∀ {l : List α} {ys : List β}, l.mapM f = some ys → ∀ x ∈ l, ∃ y, f x = some y
  | [], _, _, x, hx => by cases hx
  | a :: l, ys, h, x, hx => by
    rw [List.mapM_cons] at h
    simp only [bind, Option.bind_eq_some_iff, pure, Option.some.injEq] at h
    obtain ⟨y, hy, zs, hz, rfl⟩ := h
    rcases List.mem_cons.1 hx with rfl | hx
    · exact ⟨y, hy⟩
    · exact mapM_some hz x hx
theorem u32_bounds {a : Int} (h : (Lit.int .u32 a).wf = true) : 0 ≤ a ∧ a < 4294967296 := by
  have : 0 ≤ a ∧ a ≤ 4294967295 := by simpa [Lit.wf, IntKind.min, IntKind.max, IntKind.signed, IntKind.bits] using h
  omega
theorem u64_bounds {a : Int} (h : (Lit.int .u64 a).wf = true) : 0 ≤ a ∧ a < 18446744073709551616 := by
  have : 0 ≤ a ∧ a ≤ 18446744073709551615 := by simpa [Lit.wf, IntKind.min, IntKind.max, IntKind.signed, IntKind.bits] using h
  omega
theorem cells22 : Try.prog.cellsOf 22 = 1 := by kernel_rfl
theorem cells23 : Try.prog.cellsOf 23 = 8 := by kernel_rfl
theorem cells33 : Try.prog.cellsOf 33 = 11 := by kernel_rfl

section
variable {H : Type} {enc : TypeId × Value → H} {W : World} {base : Nat} {spare : Nat → Bool} {held : Bool} {fuel : Nat} {cs : List Value} {x : DataW H × List MemPlace}
/-- eight words -/
theorem trod_words (h : DataW.trod enc Try.prog W base spare held fuel 23 cs = some x) : ∃ l : List Nat, Wds 8 l ∧ cs = wordsV l := by
  cases fuel with
  | zero => simp [DataW.trod] at h
  | succ m =>
    rw [DataW.trod_step] at h
    unfold DataW.trodStep at h
    simp only [Try.underlying23, cells22, cells23] at h
    split at h
    · rename_i hl
      simp only [Option.map_eq_some_iff] at h
      obtain ⟨ys, hy, -⟩ := h
      have hw : ∀ i, i < 8 → ∃ a : Nat, a < 4294967296 ∧ cs[i]? = some (.int .u32 (a : Int)) := by
        intro i hi
        obtain ⟨y, h1⟩ := mapM_some hy i (List.mem_range.2 hi)
        obtain ⟨a, h2, _, hwf⟩ := DataW.trod_int Try.underlying22 h1
        have hb := u32_bounds hwf
        refine ⟨a.toNat, by omega, ?_⟩
        have h3 : ((cs.drop (i * 1)).take 1)[0]? = some (.int .u32 a) := by rw [h2]; rfl
        rw [List.getElem?_take_of_lt (by omega), List.getElem?_drop, Nat.mul_one, Nat.add_zero] at h3
        rw [h3, Int.toNat_of_nonneg hb.1]
      refine ⟨cs.map fun v => match v with | .int _ n => n.toNat | _ => 0, ⟨by simpa using hl, fun y hy => ?_⟩, ?_⟩
      · obtain ⟨v, hv, rfl⟩ := List.mem_map.1 hy
        obtain ⟨i, hi, rfl⟩ := List.getElem_of_mem hv
        obtain ⟨a, ha, he⟩ := hw i (by omega)
        rw [List.getElem?_eq_getElem hi] at he
        rw [Option.some.inj he]
        simpa [M] using ha
      · apply List.ext_getElem (by simp [wordsV])
        intro i h1 h2
        obtain ⟨a, ha, he⟩ := hw i (by omega)
        rw [List.getElem?_eq_getElem h1] at he
        have he' := Option.some.inj he
        simp only [wordsV, List.getElem_map, he']
        simp
    · cases h
/-- bytes -/
theorem trod_bytes (h : DataW.trod enc Try.prog W 0 (fun _ => true) true fuel 24 cs = some x) : ∃ A n c, cs = [.slice A n c] ∧ n ≤ maxLen ∧ (n ≤ 140737488355328 → ∃ bs : List UInt8, bs.length = n ∧ SB W (.slice A n c) bs) := by
  rcases open_ints Try.underlying24 Try.underlying5 (by kernel_rfl) h with ⟨hcs, _⟩ | ⟨a, len, cap, zs, hcs, _, hl, hm, hz, _, hcell, hw⟩
  · exact ⟨none, 0, 0, hcs, Nat.zero_le _, fun _ => ⟨[], rfl, _, _, rfl, Nat.le_refl _, by simp, .inl rfl⟩⟩
  · simp only [if_true] at hz
    exact ⟨some a, len, cap, hcs, by omega, fun hs => ⟨toBytes (zs.take len), by simp [toBytes]; omega, SB_of_nums (by omega) hl hs (fun i hi => hcell i (by omega)) hw⟩⟩
/-- a Digest -/
theorem trod_digest (h : DataW.trod enc Try.prog W 0 (fun _ => true) true fuel 33 cs = some x) : ∃ (l : List Nat) (A : Option Addr) (m c n : Nat) (size : Int), cs.toArray = dgV l (.slice A m c) n size ∧ Wds 8 l ∧ n < 18446744073709551616 ∧ m ≤ maxLen ∧ (-9223372036854775808 ≤ size ∧ size ≤ 9223372036854775807) ∧
    (m ≤ 140737488355328 → ∃ bs : List UInt8, bs.length = m ∧ SB W (.slice A m c) bs) := by
  cases fuel with
  | zero => simp [DataW.trod] at h
  | succ f =>
    rw [DataW.trod_step] at h
    unfold DataW.trodStep at h
    simp only [Try.underlying33, cells33] at h
    split at h
    · rename_i hl
      simp only [Option.map_eq_some_iff] at h
      obtain ⟨ys, hy, -⟩ := h
      obtain ⟨y0, h0⟩ := mapM_some hy { name := "H", type := 23, offset := 0, embedded := false, tag := "", pkgPath := "", byteOffset := 0 } (by simp)
      obtain ⟨y1, h1⟩ := mapM_some hy { name := "Rest", type := 24, offset := 8, embedded := false, tag := "", pkgPath := "", byteOffset := 32 } (by simp)
      obtain ⟨y2, h2⟩ := mapM_some hy { name := "N", type := 25, offset := 9, embedded := false, tag := "", pkgPath := "", byteOffset := 56 } (by simp)
      obtain ⟨y3, h3⟩ := mapM_some hy { name := "Size", type := 3, offset := 10, embedded := false, tag := "", pkgPath := "", byteOffset := 64 } (by simp)
      have c24 : Try.prog.cellsOf 24 = 1 := by kernel_rfl
      have c25 : Try.prog.cellsOf 25 = 1 := by kernel_rfl
      have c3 : Try.prog.cellsOf 3 = 1 := by kernel_rfl
      simp only [cells23, c24, c25, c3] at h0 h1 h2 h3
      obtain ⟨l, hlw, e0⟩ := trod_words h0
      obtain ⟨A, m, c, e1, hm, hb⟩ := trod_bytes h1
      obtain ⟨n, e2, _, hn⟩ := DataW.trod_int Try.underlying25 h2
      obtain ⟨s, e3, _, hs⟩ := DataW.trod_int Try.underlying3 h3
      have hn' := u64_bounds hn
      have hs' : -9223372036854775808 ≤ s ∧ s ≤ 9223372036854775807 := by simpa [Lit.wf, IntKind.min, IntKind.max, IntKind.signed, IntKind.bits] using hs
      refine ⟨l, A, m, c, n.toNat, s, ?_, hlw, by omega, hm, hs', hb⟩
      obtain ⟨z0, z1, z2, z3, z4, z5, z6, z7, z8, z9, z10, rfl⟩ : ∃ z0 z1 z2 z3 z4 z5 z6 z7 z8 z9 z10, cs = [z0, z1, z2, z3, z4, z5, z6, z7, z8, z9, z10] := by
        match cs, hl with
        | [z0, z1, z2, z3, z4, z5, z6, z7, z8, z9, z10], _ => exact ⟨_, _, _, _, _, _, _, _, _, _, _, rfl⟩
      simp only [List.drop_zero, List.drop_succ_cons, List.take_succ_cons, List.take_zero] at e0 e1 e2 e3
      unfold dgV
      rw [← e0, Int.toNat_of_nonneg hn'.1]
      injection e1 with e1
      injection e2 with e2
      injection e3 with e3
      rw [e1, e2, e3]
      rfl
    · cases h
end
theorem open_words {H : Type} {enc : TypeId × Value → H} {W : World} {v : Value} {d : DataW H} {ps : List MemPlace} {base : Nat} (hval : Value.okWide Try.prog W .any base 23 v) (h : DataW.Trod enc Try.prog W 0 (fun _ => true) true 23 v d ps) :
    ∃ l : List Nat, Wds 8 l ∧ v = .agg (wordsV l).toArray := by
  simp only [Value.okWide, Try.underlying23] at hval
  obtain ⟨cs, rfl, -, -⟩ := hval
  obtain ⟨fuel, h⟩ := h
  obtain ⟨l, hl, e⟩ := trod_words h
  simp only [Value.cells] at e
  exact ⟨l, hl, by rw [← e]⟩
theorem open_digest {H : Type} {enc : TypeId × Value → H} {W : World} {v : Value} {d : DataW H} {ps : List MemPlace} {base : Nat} (hval : Value.okWide Try.prog W .any base 33 v) (h : DataW.Trod enc Try.prog W 0 (fun _ => true) true 33 v d ps) :
    ∃ (l : List Nat) (A : Option Addr) (m c n : Nat) (size : Int), v = .agg (dgV l (.slice A m c) n size) ∧ Wds 8 l ∧ n < 18446744073709551616 ∧ m ≤ maxLen ∧ (-9223372036854775808 ≤ size ∧ size ≤ 9223372036854775807) ∧
      (m ≤ 140737488355328 → ∃ bs : List UInt8, bs.length = m ∧ SB W (.slice A m c) bs) := by
  simp only [Value.okWide, Try.underlying33] at hval
  obtain ⟨cs, rfl, -, -⟩ := hval
  obtain ⟨fuel, h⟩ := h
  obtain ⟨l, A, m, c, n, s, e, r⟩ := trod_digest h
  simp only [Value.cells] at e
  exact ⟨l, A, m, c, n, s, by rw [← e], r⟩
end Go.Proofs.Ytnemclbeofiakaa
