/-
  Whole blocks, mixed in one by one: plain laws, and laws of single operations for them.
-/
import Derived.Test.YtnemclbeofiakaaWt
import Derived.Test.YtnemclbeofiakaaLs
namespace Go.Proofs.Ytnemclbeofiakaa
open Go.RowKit Bl

/-- block k of bytes -/
def blk (bs : List UInt8) (k : Nat) : List UInt8 := (bs.drop (64 * k)).take 64
/-- the words when k blocks are mixed in -/
def blocksF (h : List Nat) (bs : List UInt8) : Nat → List Nat
  | 0 => h
  | k + 1 => mixF (blocksF h bs k) (wordsF (blk bs k)) (64 * k + 64) false
theorem blocksF_wds {h : List Nat} (hh : Wds 8 h) (bs : List UInt8) (k : Nat) : Wds 8 (blocksF h bs k) := by
  cases k with
  | zero => exact hh
  | succ k => 
    have : ∀ k, Wds 8 (blocksF h bs k) := by
      intro k
      induction k with
      | zero => exact hh
      | succ k ih => exact ih.mixF _ _ _
    exact this (k + 1)
theorem writeL_blocks (h : List Nat) (bs : List UInt8) (hb : bs.length ≤ 9223372036854775807) (k : Nat) : (k = 0 ∨ 64 * k < bs.length) →
    writeL bs.length h 0 bs = writeL (bs.drop (64 * k)).length (blocksF h bs k) (64 * k) (bs.drop (64 * k)) := by
  induction k with
  | zero => intro _; rfl
  | succ k ih =>
    intro hk
    have hk' : 64 * (k + 1) < bs.length := by omega
    rw [ih (by omega)]
    have hl : 64 < (bs.drop (64 * k)).length := by simp; omega
    rw [writeL_step _ _ _ hl]
    have h1 : (64 * k + 64) % 18446744073709551616 = 64 * k + 64 := Nat.mod_eq_of_lt (by omega)
    have h2 : (bs.drop (64 * k)).drop 64 = bs.drop (64 * (k + 1)) := by rw [List.drop_drop]; congr 1
    rw [h1, h2]
    rfl
theorem writeL_all (h : List Nat) (bs : List UInt8) (hb : bs.length ≤ 9223372036854775807) (h0 : 0 < bs.length) :
    writeL bs.length h 0 bs = (blocksF h bs ((bs.length - 1) / 64), 64 * ((bs.length - 1) / 64), bs.drop (64 * ((bs.length - 1) / 64))) := by
  rw [writeL_blocks h bs hb ((bs.length - 1) / 64) (by omega)]
  exact writeL_stop _ _ _ _ (by simp; omega)
theorem outF_get (h : List Nat) (size i : Nat) (hi : i < size) : (outF h size)[i]? = some (UInt8.ofNat (h.getD (i / 4) 0 / 2 ^ (8 * (i % 4)))) := by
  simp [outF, hi]

section
variable {Q : Exit → Act → World → Prop} {o : Oper} {a : Act} {w : World} {K : Act → World → Prop} {ops : Array Oper} {rest : List Oper}
theorem run_build0 (w : World) : (Instr.buildSlice 24 0 #[]).run Try.prog w = .ok (.slice (some ⟨w.heap.size, 0, none⟩) 0 0) (w.alloc (.cells #[] 5)) := by kernel_rfl
theorem wpList_build0 (hgd : o.guard = none) (ho : o.op = .buildSlice 24 0 #[]) (h : wpList Try.prog ops Q rest (a.put o.dst (.slice (some ⟨w.heap.size, 0, none⟩) 0 0)) (w.alloc (.cells #[] 5))) : wpList Try.prog ops Q (o :: rest) a w := by
  refine wpList_plain hgd fun K hK => ow_value' ?_ (hK _ _ h)
  unfold execOp
  simp only [ho, List.map_toArray, List.map_nil, Sem.run_bind, run_build0, Result.andThen_ok]
  rfl
theorem own_build0 (w : World) (B : Nat) (hB : B ≤ w.heap.size) : (w.alloc (.cells #[] 5)).ownsRow B 5 1 (.slice (some ⟨w.heap.size, 0, none⟩) 0 0) 0 [] :=
  ⟨rfl, .inr ⟨w.heap.size, 0, #[], rfl, hB, World.alloc_heap_new w _, Nat.le_refl _, Nat.zero_le _, rfl, rfl⟩⟩
theorem wpList_cut_from (hgd : o.guard = none) (x y : Operand) (ho : o.op = .slice 24 x (some y) none none) {v : Value} {bs : List UInt8} (hx : a.eval x = v) (hv : SB w v bs) (l : Nat) (hy : a.eval y = .int .i64 (l : Int)) (hl : l ≤ bs.length)
    (h : ∀ v', SB w v' (bs.drop l) → wpList Try.prog ops Q rest (a.put o.dst v') w) : wpList Try.prog ops Q (o :: rest) a w :=
  wpList_plain hgd fun _ hK => ow_cut_from x y ho hx hv l hy hl fun v' hv' => hK _ _ (h v' hv')
/-- rows of words, compared -/
theorem wpList_neq_words (hgd : o.guard = none) (x y : Operand) (t : TypeId) (ho : o.op = .binOp .neq 23 x y t) {l m : List Nat} (hl : l.length = 8) (hm : m.length = 8) (hx : a.eval x = .agg (wordsV l).toArray) (hy : a.eval y = .agg (wordsV m).toArray)
    (h : wpList Try.prog ops Q rest (a.put o.dst (.bool (!decide (l = m)))) w) : wpList Try.prog ops Q (o :: rest) a w := by
  refine wpList_plain hgd fun K hK => ow_value (v := .bool (!decide (l = m))) ?_ (hK _ _ h)
  unfold execOp
  simp only [ho, hx, hy]
  have := eq_words l m hl hm w
  simp [go_sem, this]
theorem ow_shr32 (x y : Operand) (i k : Nat) (ho : o.op = .binOp .shr 22 x y 3) (hx : a.eval x = .int .u32 (i : Int)) (hy : a.eval y = .int .i64 (k : Int)) (hk : k ≤ 31) (hi : i < M)
    (h : K (a.put o.dst (.int .u32 ((i / 2 ^ k : Nat) : Int))) w) : o.wp Try.prog a w K Q := by
  refine ow_value (v := .int .u32 ((i / 2 ^ k : Nat) : Int)) ?_ h
  unfold execOp
  simp only [ho, hx, hy]
  have hw : IntKind.u32.wrap (((i / 2 ^ k : Nat) : Int)) = ((i / 2 ^ k : Nat) : Int) := by
    have hj : i / 2 ^ k ≤ i := Nat.div_le_self _ _
    generalize i / 2 ^ k = j at hj ⊢
    rw [IntKind.wrap_u32']; unfold M at hi; omega
  rw [Int.natCast_ediv, Int.natCast_pow] at hw ⊢
  have h2 : ((2 : Nat) : Int) = 2 := rfl
  rw [h2] at hw ⊢
  simp [go_sem]
theorem ow_conv5 (x : Operand) (i : Nat) (ho : o.op = .convert 22 5 x) (hx : a.eval x = .int .u32 (i : Int)) (h : K (a.put o.dst (.int .u8 (((UInt8.ofNat i).toNat : Nat) : Int))) w) : o.wp Try.prog a w K Q := by
  refine ow_value (v := .int .u8 (((UInt8.ofNat i).toNat : Nat) : Int)) ?_ h
  unfold execOp
  simp only [ho, hx]
  have hw : IntKind.u8.wrap (i : Int) = (((UInt8.ofNat i).toNat : Nat) : Int) := by
    simp [IntKind.wrap, IntKind.bits, IntKind.signed]
  simp [go_sem, hw]
theorem ow_neq_int (x y : Operand) (t ty : TypeId) (ho : o.op = .binOp .neq t x y ty) (k : IntKind) (i : Int) (hx : a.eval x = .int k i) (hy : a.eval y = .int k i) (h : K (a.put o.dst (.bool false)) w) : o.wp Try.prog a w K Q := by
  refine ow_value (v := .bool false) ?_ h
  unfold execOp
  simp only [ho, hx, hy]
  simp [go_sem]
/-- Mix of a block -/
theorem ow_mix (x y z u : Operand) (ts : Array TypeId) (ho : o.op = .call { callee := .value (.func 9), args := #[x, y, z, u], argTypes := ts }) (h : List Nat) (hh : Wds 8 h) (v : Value) (bs : List UInt8) (n : Nat) (hn : n < 18446744073709551616) (last : Int) (hl : last = 0 ∨ last = 1)
    (hx : a.eval x = .agg (wordsV h).toArray) (hy : a.eval y = v) (hz : a.eval z = .int .u64 (n : Int)) (hu : a.eval u = .int .i64 last) (hv : SB w v bs) (h64 : bs.length = 64)
    (hK : ∀ w', Below w.heap.size w w' → K (a.put o.dst (.tuple #[.agg (wordsV (mixF h (wordsF bs) n (last == 1))).toArray, .int .i64 0])) w') : o.wp Try.prog a w K Q := by
  refine ow_call Try.func9 (by kernel_rfl) rfl _ _ ho (vs := #[.agg (wordsV h).toArray, v, .int .u64 (n : Int), .int .i64 last]) (by simp only [List.map_toArray, List.map_cons, List.map_nil, hx, hy, hz, hu]) ?_
  refine (Mix_yes h hh v bs n hn last w hv h64 hl).mono ?_
  rintro e w' ⟨rfl, hbb⟩
  exact ⟨_, rfl, hK w' hbb⟩
end
end Go.Proofs.Ytnemclbeofiakaa
