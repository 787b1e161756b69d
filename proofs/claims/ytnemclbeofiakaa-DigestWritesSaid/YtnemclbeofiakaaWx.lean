/-
  The document's Mix: plain laws and laws of single operations.
-/
import Derived.Test.YtnemclbeofiakaaWw
namespace Go.Proofs.Ytnemclbeofiakaa
open Go.RowKit Bl

/-- the words of a block, the first k -/
def mTo (b : List UInt8) (k : Nat) : List Nat := (List.range 16).map fun i => if i < k then word b i else 0
theorem range_getD (n : Nat) (f : Nat → Nat) (i : Nat) (hi : i < n) : ((List.range n).map f).getD i 0 = f i := by simp [List.getD_eq_getElem?_getD, hi]
theorem mTo_zero (b : List UInt8) : mTo b 0 = List.replicate 16 0 := rfl
theorem mTo_all (b : List UInt8) : mTo b 16 = wordsF b := by
  unfold mTo wordsF
  apply List.map_congr_left
  intro i hi
  rw [if_pos (List.mem_range.1 hi)]
theorem mTo_succ (b : List UInt8) (k : Nat) : (mTo b k).set k (word b k) = mTo b (k + 1) := by
  unfold mTo
  apply List.ext_getElem (by simp)
  intro i h1 h2
  have hi : i < 16 := by simpa using h2
  simp only [List.getElem_set, List.getElem_map, List.getElem_range]
  by_cases h : k = i
  · subst h; rw [if_pos rfl, if_pos (by omega)]
  · rw [if_neg h]
    by_cases h3 : i < k
    · rw [if_pos h3, if_pos (by omega)]
    · rw [if_neg h3, if_neg (by omega)]
/-- the row that is stirred, when k words of the state and of the first words are in it -/
def vTo (h : List Nat) (k : Nat) : List Nat := (List.range 16).map fun i => if i < k then h.getD i 0 else if 8 ≤ i ∧ i < 8 + k then iv.getD (i - 8) 0 else 0
theorem vTo_zero (h : List Nat) : vTo h 0 = List.replicate 16 0 := rfl
theorem vTo_succ (h : List Nat) (k : Nat) (hk : k < 8) : ((vTo h k).set k (h.getD k 0)).set (k + 8) (iv.getD k 0) = vTo h (k + 1) := by
  unfold vTo
  apply List.ext_getElem (by simp)
  intro i h1 h2
  have hi : i < 16 := by simpa using h2
  simp only [List.getElem_set, List.getElem_map, List.getElem_range]
  by_cases h3 : k + 8 = i
  · subst h3
    rw [if_pos rfl, if_neg (by omega), if_pos (by omega), Nat.add_sub_cancel]
  · rw [if_neg h3]
    by_cases h4 : k = i
    · subst h4; rw [if_pos rfl, if_pos (by omega)]
    · rw [if_neg h4]
      by_cases h5 : i < k
      · rw [if_pos h5, if_pos (by omega)]
      · rw [if_neg h5, if_neg (show ¬ i < k + 1 by omega)]
        by_cases h6 : 8 ≤ i ∧ i < 8 + k
        · rw [if_pos h6, if_pos (by omega)]
        · rw [if_neg h6, if_neg (by omega)]
theorem vTo_all (h : List Nat) (hh : h.length = 8) : vTo h 8 = h ++ iv := by
  obtain ⟨z0, z1, z2, z3, z4, z5, z6, z7, rfl⟩ : ∃ z0 z1 z2 z3 z4 z5 z6 z7, h = [z0, z1, z2, z3, z4, z5, z6, z7] := by
    match h, hh with
    | [z0, z1, z2, z3, z4, z5, z6, z7], _ => exact ⟨_, _, _, _, _, _, _, _, rfl⟩
  rfl
/-- the row at the begin: three words turned -/
theorem init_set (h : List Nat) (hh : h.length = 8) (n : Nat) (last : Bool) :
    (((h ++ iv).set 12 (0x510e527f ^^^ n % M)).set 13 (0x9b05688c ^^^ n / M % M)).set 14 (if last then 0x1f83d9ab ^^^ 0xffffffff else 0x1f83d9ab) = init h n last := by
  obtain ⟨z0, z1, z2, z3, z4, z5, z6, z7, rfl⟩ : ∃ z0 z1 z2 z3 z4 z5 z6 z7, h = [z0, z1, z2, z3, z4, z5, z6, z7] := by
    match h, hh with
    | [z0, z1, z2, z3, z4, z5, z6, z7], _ => exact ⟨_, _, _, _, _, _, _, _, rfl⟩
  rfl
theorem init_set' (h : List Nat) (hh : h.length = 8) (n : Nat) : ((h ++ iv).set 12 (0x510e527f ^^^ n % M)).set 13 (0x9b05688c ^^^ n / M % M) = init h n false := by
  obtain ⟨z0, z1, z2, z3, z4, z5, z6, z7, rfl⟩ : ∃ z0 z1 z2 z3 z4 z5 z6 z7, h = [z0, z1, z2, z3, z4, z5, z6, z7] := by
    match h, hh with
    | [z0, z1, z2, z3, z4, z5, z6, z7], _ => exact ⟨_, _, _, _, _, _, _, _, rfl⟩
  rfl
theorem hiv_at (h : List Nat) (hh : h.length = 8) : (h ++ iv).getD 12 0 = 0x510e527f ∧ ∀ x, ((h ++ iv).set 12 x).getD 13 0 = 0x9b05688c ∧ ∀ y, (((h ++ iv).set 12 x).set 13 y).getD 14 0 = 0x1f83d9ab := by
  obtain ⟨z0, z1, z2, z3, z4, z5, z6, z7, rfl⟩ : ∃ z0 z1 z2 z3 z4 z5 z6 z7, h = [z0, z1, z2, z3, z4, z5, z6, z7] := by
    match h, hh with
    | [z0, z1, z2, z3, z4, z5, z6, z7], _ => exact ⟨_, _, _, _, _, _, _, _, rfl⟩
  exact ⟨rfl, fun _ => ⟨rfl, fun _ => rfl⟩⟩
/-- a round, written out -/
theorem steps_8 (m : List Nat) (r : Nat) (v : List Nat) : steps m r 8 v =
    stirF (stirF (stirF (stirF (stirF (stirF (stirF (stirF v 0 4 8 12 (m.getD (sg r 0) 0) (m.getD (sg r 1) 0)) 1 5 9 13 (m.getD (sg r 2) 0) (m.getD (sg r 3) 0)) 2 6 10 14 (m.getD (sg r 4) 0) (m.getD (sg r 5) 0)) 3 7 11 15 (m.getD (sg r 6) 0) (m.getD (sg r 7) 0))
      0 5 10 15 (m.getD (sg r 8) 0) (m.getD (sg r 9) 0)) 1 6 11 12 (m.getD (sg r 10) 0) (m.getD (sg r 11) 0)) 2 7 8 13 (m.getD (sg r 12) 0) (m.getD (sg r 13) 0)) 3 4 9 14 (m.getD (sg r 14) 0) (m.getD (sg r 15) 0) := rfl
/-- the state, its first k words done -/
def hTo (h v : List Nat) (k : Nat) : List Nat := (List.range 8).map fun i => if i < k then h.getD i 0 ^^^ (v.getD i 0 ^^^ v.getD (i + 8) 0) else h.getD i 0
theorem hTo_zero (h v : List Nat) (hh : h.length = 8) : hTo h v 0 = h := by
  unfold hTo
  apply List.ext_getElem (by simp [hh])
  intro i h1 h2
  simp [List.getD_eq_getElem?_getD, h2]
theorem hTo_all (h v : List Nat) : hTo h v 8 = fold h v := by
  unfold hTo fold
  apply List.map_congr_left
  intro i hi
  rw [if_pos (List.mem_range.1 hi)]
theorem hTo_get (h v : List Nat) (k : Nat) (hk : k < 8) : (hTo h v k).getD k 0 = h.getD k 0 := by
  unfold hTo
  rw [range_getD 8 _ k hk, if_neg (by omega)]
theorem hTo_succ (h v : List Nat) (k : Nat) : (hTo h v k).set k (((h.getD k 0) ^^^ v.getD k 0) ^^^ v.getD (k + 8) 0) = hTo h v (k + 1) := by
  rw [Nat.xor_assoc]
  unfold hTo
  apply List.ext_getElem (by simp)
  intro i h1 h2
  have hi : i < 8 := by simpa using h2
  simp only [List.getElem_set, List.getElem_map, List.getElem_range]
  by_cases h : k = i
  · subst h; rw [if_pos rfl, if_pos (by omega)]
  · rw [if_neg h]
    by_cases h3 : i < k
    · rw [if_pos h3, if_pos (by omega)]
    · rw [if_neg h3, if_neg (by omega)]
theorem hTo_wds {h v : List Nat} (hh : Wds 8 h) (hv : Wds 16 v) (k : Nat) : Wds 8 (hTo h v k) := by
  refine ⟨by simp [hTo], fun x hx => ?_⟩
  unfold hTo at hx
  obtain ⟨i, _, rfl⟩ := List.mem_map.1 hx
  split
  · exact xor_lt (getD_lt hh _) (xor_lt (getD_lt hv _) (getD_lt hv _))
  · exact getD_lt hh _
theorem wds_hiv {h : List Nat} (hh : Wds 8 h) : Wds 16 (h ++ iv) := by
  refine ⟨by simp [hh.1, iv], fun x hx => ?_⟩
  rcases List.mem_append.1 hx with hx | hx
  · exact hh.2 x hx
  · exact wds_iv.2 x hx
theorem word_sum (b : List UInt8) (i : Nat) : ((((b.getD (4 * i) 0).toNat + 256 * (b.getD (4 * i + 1) 0).toNat % M) % M + 65536 * (b.getD (4 * i + 2) 0).toNat % M) % M + 16777216 * (b.getD (4 * i + 3) 0).toNat % M) % M = word b i := by
  have h1 := (b.getD (4 * i) 0).toNat_lt; have h2 := (b.getD (4 * i + 1) 0).toNat_lt; have h3 := (b.getD (4 * i + 2) 0).toNat_lt; have h4 := (b.getD (4 * i + 3) 0).toNat_lt
  unfold word M; omega

/-- bytes that are there: where they lie -/
theorem SB.where {w : World} {A : Option Addr} {c : Nat} {bs : List UInt8} (h : SB w (.slice A bs.length c) bs) (hp : 0 < bs.length) : ∃ b o, A = some ⟨b, o, none⟩ ∧ ∀ i, i < bs.length → w.cell? ⟨b, o + i, none⟩ = some (.int .u8 ((bs.getD i 0).toNat : Int)) := by
  obtain ⟨A', c', e, h1, h2, h3⟩ := h
  injection e with e1 e2 e3
  subst e1; subst e3
  rcases h3 with rfl | ⟨b, o, rfl, hc⟩
  · simp at hp
  · refine ⟨b, o, rfl, fun i hi => ?_⟩
    rw [hc i hi]
    simp [List.getD_eq_getElem?_getD, hi]

section
variable {Q : Exit → Act → World → Prop} {o : Oper} {a : Act} {w : World} {K : Act → World → Prop} {ops : Array Oper} {rest : List Oper}
theorem ow_mul32 (x y : Operand) (t ty : TypeId) (i j : Nat) (ho : o.op = .binOp .mul t x y ty) (hx : a.eval x = .int .u32 (i : Int)) (hy : a.eval y = .int .u32 (j : Int)) (_hu : Try.prog.underlying t = some (.int .u32))
    (h : K (a.put o.dst (.int .u32 ((i * j % M : Nat) : Int))) w) : o.wp Try.prog a w K Q := by
  refine ow_value (v := .int .u32 ((i * j % M : Nat) : Int)) ?_ h
  unfold execOp
  simp only [ho, hx, hy]
  have hw : IntKind.u32.wrap ((i : Int) * (j : Int)) = ((i * j % M : Nat) : Int) := by rw [IntKind.wrap_u32', Int.natCast_emod, Int.natCast_mul]; rfl
  rw [← hw]
  simp [go_sem]
theorem wpList_rem64 (hgd : o.guard = none) (x y : Operand) (t ty : TypeId) (i : Nat) (ho : o.op = .binOp .rem t x y ty) (hx : a.eval x = .int .u64 (i : Int)) (hy : a.eval y = .int .u64 4294967296)
    (h : wpList Try.prog ops Q rest (a.put o.dst (.int .u64 ((i % M : Nat) : Int))) w) : wpList Try.prog ops Q (o :: rest) a w := by
  refine wpList_plain hgd fun K hK => ow_value (v := .int .u64 ((i % M : Nat) : Int)) ?_ (hK _ _ h)
  unfold execOp
  simp only [ho, hx, hy]
  have h2 : Int.tmod (i : Int) 4294967296 = ((i % M : Nat) : Int) := by rw [Int.tmod_eq_emod_of_nonneg (by omega), Int.natCast_emod]; rfl
  simp [go_sem, h2]
theorem wpList_quo64 (hgd : o.guard = none) (x y : Operand) (t ty : TypeId) (i : Nat) (ho : o.op = .binOp .quo t x y ty) (hx : a.eval x = .int .u64 (i : Int)) (hy : a.eval y = .int .u64 4294967296) (hi : i < 18446744073709551616)
    (h : wpList Try.prog ops Q rest (a.put o.dst (.int .u64 ((i / M : Nat) : Int))) w) : wpList Try.prog ops Q (o :: rest) a w := by
  refine wpList_plain hgd fun K hK => ow_value (v := .int .u64 ((i / M : Nat) : Int)) ?_ (hK _ _ h)
  unfold execOp
  simp only [ho, hx, hy]
  have h2 : Int.tdiv (i : Int) 4294967296 = ((i / M : Nat) : Int) := by rw [Int.tdiv_eq_ediv_of_nonneg (by omega), Int.natCast_ediv]; rfl
  have h3 : IntKind.u64.wrap ((i : Int) / 4294967296) = (i : Int) / 4294967296 := by rw [IntKind.wrap_u64]; omega
  rw [Int.natCast_ediv] at h2 ⊢
  have h4 : ((M : Nat) : Int) = 4294967296 := rfl
  rw [h4] at h2 ⊢
  simp [go_sem, h2, h3]
theorem wpList_conv32 (hgd : o.guard = none) (x : Operand) (i : Nat) (ho : o.op = .convert 25 22 x) (hx : a.eval x = .int .u64 (i : Int))
    (h : wpList Try.prog ops Q rest (a.put o.dst (.int .u32 ((i % M : Nat) : Int))) w) : wpList Try.prog ops Q (o :: rest) a w := by
  refine wpList_plain hgd fun K hK => ow_value (v := .int .u32 ((i % M : Nat) : Int)) ?_ (hK _ _ h)
  unfold execOp
  simp only [ho, hx]
  have hw : IntKind.u32.wrap (i : Int) = ((i % M : Nat) : Int) := by rw [IntKind.wrap_u32', Int.natCast_emod]; rfl
  simp [go_sem, hw]
theorem wpList_xor32 (hgd : o.guard = none) (x y : Operand) (t ty : TypeId) (i j : Nat) (ho : o.op = .binOp .xor t x y ty) (hx : a.eval x = .int .u32 (i : Int)) (hy : a.eval y = .int .u32 (j : Int)) (hi : i < M) (hj : j < M) (hu : Try.prog.underlying t = some (.int .u32))
    (h : wpList Try.prog ops Q rest (a.put o.dst (.int .u32 ((i ^^^ j : Nat) : Int))) w) : wpList Try.prog ops Q (o :: rest) a w :=
  wpList_plain hgd fun _ hK => ow_xor32 x y t ty i j ho hx hy hi hj hu (hK _ _ h)
theorem make45 (w : World) : (Instr.makeSlice 45 (.int .i64 16) (.int .i64 16)).run Try.prog w = .ok (.slice (some ⟨w.heap.size, 0, none⟩) 16 16) (w.alloc (.cells (wordsV (List.replicate 16 0)).toArray 22)) := by kernel_rfl
theorem wpList_make45 (hgd : o.guard = none) (x y : Operand) (ho : o.op = .makeSlice 45 x y) (hx : a.eval x = .int .i64 16) (hy : a.eval y = .int .i64 16)
    (h : ∀ w', RowS w' w.heap.size (List.replicate 16 0) → w'.heap.size = w.heap.size + 1 → Below w.heap.size w w' → wpList Try.prog ops Q rest (a.put o.dst (.slice (some ⟨w.heap.size, 0, none⟩) 16 16)) w') : wpList Try.prog ops Q (o :: rest) a w := by
  refine wpList_plain hgd fun K hK => ow_value' ?_ (hK _ _ (h _ (World.alloc_heap_new w _) (by simp) (below_alloc1 w _)))
  unfold execOp
  simp only [ho, hx, hy, Sem.run_bind, make45, Result.andThen_ok]
  rfl
end
end Go.Proofs.Ytnemclbeofiakaa
