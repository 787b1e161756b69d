/-
  frame.records$1: an iterator that keeps its state in cells.
-/
import Derived.RangeFuncNested
import Derived.RangeFuncBound
import Derived.RangeFuncCalls
import Derived.RangeFuncLeaves
import Derived.RangeFuncBox
import Derived.Shelf.Abstract
import Derived.Shelf.RegionOpen
import Derived.WalkKit
import Derived.OwnWalkIn
import Derived.TacticsInMore
import Derived.LoopNIn
import Derived.LoopIn
import Derived.BigRegionIn
import Derived.BigGuardIn
import Derived.Test.YtlhdnloimgckgaaWg
import Derived.Test.YtlhdnloimgckgaaWh
import Derived.Test.YtlhdnloimgckgaaRange
namespace Go.Proofs.Ytlhdnloimgckgaa
open Go.RowKit Go.Shelf

theorem cell_of_blk {A B : World} {b : Nat} {o : Obj} (h : A.heap[b]? = some o) (h' : B.heap[b]? = some o) (i : Nat) : B.cell? ⟨b, i, none⟩ = A.cell? ⟨b, i, none⟩ := by
  simp [World.cell?, h, h']
/-- a slice of bytes whose cells lie below B0 -/
def SBK (B0 : Nat) (w : World) (v : Value) (bs : List UInt8) : Prop := SB w v bs ∧ ∀ b o n c, v = .slice (some ⟨b, o, none⟩) n c → 0 < n → b < B0
/-- what lies below B0, and in the blocks p and q, is kept -/
def Kept (B0 p q : Nat) (A B : World) : Prop := A.heap.size ≤ B.heap.size ∧ ∀ k o, (k < B0 ∨ k = p ∨ k = q) → A.heap[k]? = some o → B.heap[k]? = some o
theorem Kept.refl (B0 p q : Nat) (A : World) : Kept B0 p q A A := ⟨Nat.le_refl _, fun _ _ _ h => h⟩
theorem Kept.trans {B0 p q : Nat} {A B C : World} (h : Kept B0 p q A B) (h' : Kept B0 p q B C) : Kept B0 p q A C := ⟨Nat.le_trans h.1 h'.1, fun k o hk h0 => h'.2 k o hk (h.2 k o hk h0)⟩
theorem Kept.of_touch {B0 p q : Nat} {A B : World} {T : Nat → Obj → Prop} (h : Touch T A B) (hT : ∀ k o, T k o → B0 ≤ k ∧ k ≠ p ∧ k ≠ q) : Kept B0 p q A B :=
  ⟨h.size, fun k o hk h0 => h.same k o h0 fun ht => by have := hT k o ht; omega⟩
def Low (B0 : Nat) (A B : World) : Prop := ∀ k o, k < B0 → A.heap[k]? = some o → B.heap[k]? = some o
theorem Low.trans {B0 : Nat} {A B C : World} (h : Low B0 A B) (h' : Low B0 B C) : Low B0 A C := fun k o hk h0 => h' k o hk (h k o hk h0)
theorem Kept.low {B0 p q : Nat} {A B : World} (h : Kept B0 p q A B) : Low B0 A B := fun k o hk h0 => h.2 k o (.inl hk) h0
theorem Low.of_below {B0 : Nat} {A B : World} (h : Below A.heap.size A B) : Low B0 A B := fun _ _ _ h0 => blk_below h0 h
theorem SBK.kept {B0 : Nat} {A B : World} {v : Value} {bs : List UInt8} (h : SBK B0 A v bs) (hk : Low B0 A B) : SBK B0 B v bs := by
  obtain ⟨⟨ad, c, rfl, h1, h2, h3⟩, hb⟩ := h
  refine ⟨⟨ad, c, rfl, h1, h2, h3.imp id ?_⟩, hb⟩
  rintro ⟨b, o, rfl, hc⟩
  refine ⟨b, o, rfl, fun i hi => ?_⟩
  have h0 := hc i hi
  have hlt := cell_lt h0
  have hg : A.heap[b]? = some A.heap[b] := by simp [hlt]
  rw [cell_of_blk hg (hk b _ (hb b o _ _ rfl (by omega)) hg)]
  exact h0
theorem SBK.below {B0 : Nat} {w w1 : World} {v : Value} {bs : List UInt8} (h : SBK B0 w v bs) (hb : Below w.heap.size w w1) : SBK B0 w1 v bs := ⟨h.1.below hb, h.2⟩
/-- a part of it -/
theorem SBK.at_ {B0 : Nat} {w : World} {b o n c : Nat} {bs : List UInt8} (h : SBK B0 w (.slice (some ⟨b, o, none⟩) n c) bs) : n = bs.length ∧ n ≤ c ∧ n ≤ 140737488355328 ∧ (0 < n → b < B0) ∧ ∀ i (hi : i < bs.length), w.cell? ⟨b, o + i, none⟩ = some (.int .u8 ((bs[i]).toNat : Int)) := by
  obtain ⟨⟨A, c', e, h1, h2, h3⟩, hb⟩ := h
  injection e with e1 e2 e3
  subst e1; subst e2; subst e3
  refine ⟨rfl, h1, h2, hb b o _ _ rfl, fun i hi => ?_⟩
  rcases h3 with rfl | ⟨b2, o2, e2, h4⟩
  · simp at hi
  · injection e2 with e2; injection e2 with e3 e4; subst e3; subst e4; exact h4 i hi
theorem SBK.part {B0 : Nat} {w : World} {b o n c : Nat} {bs : List UInt8} (h : SBK B0 w (.slice (some ⟨b, o, none⟩) n c) bs) (i m k : Nat) (hm : i + m ≤ n) (hk : m ≤ k) : SBK B0 w (.slice (some ⟨b, o + i, none⟩) m k) ((bs.drop i).take m) := by
  obtain ⟨h1, h2, h3, h4, h5⟩ := h.at_
  have hl : ((bs.drop i).take m).length = m := by simp; omega
  refine ⟨⟨_, k, by rw [hl], by omega, by omega, .inr ⟨b, o + i, rfl, fun j hj => ?_⟩⟩, ?_⟩
  · rw [Nat.add_assoc, h5 (i + j) (by omega)]
    simp
  · intro b' o' n' c' e hpos
    injection e with e1 e2 e3; injection e1 with e1; injection e1 with e4 e5; omega

abbrev Pay := Value × List UInt8 × (Nat × Nat × Nat)
def pays (xs : List Pay) : List (List UInt8) := xs.map (·.2.1)
theorem pays_snoc (xs : List Pay) (x : Pay) : pays (xs ++ [x]) = pays xs ++ [x.2.1] := by simp [pays]
def tv (t : Nat × Nat × Nat) : Value := tailV t.1 t.2.1 t.2.2
def tvs (t : Nat × Nat × Nat) : Array Value := #[.int .i64 (t.1 : Int), .int .i64 (t.2.1 : Int), .int .u32 (t.2.2 : Int)]
def enc (x : Pay) : Array Value := #[x.1, tv x.2.2]
/-- what is known of the payloads that have come: each reads so where the loop began; the last one's tail -/
def Good (B0 : Nat) (w : World) (bs : List UInt8) (xs : List Pay) : Prop :=
  (∀ x ∈ xs, SBK B0 w x.1 x.2.1) ∧ (∀ ys x, xs = ys ++ [x] → x.2.2 = tailOf (pays xs)) ∧ 8 * xs.length + (pays xs).flatten.length ≤ bs.length
def Done (bs : List UInt8) (xs : List Pay) : Prop := pays xs = recs bs.length 0 bs

/-- the length of the slice that lies in a block -/
def lenAt (bb : Nat) (w : World) : Nat := match w.cell? ⟨bb, 0, none⟩ with | some (.slice _ n _) => n | _ => 0
theorem lenAt_eq {bb : Nat} {w : World} {A : Option Addr} {n c : Nat} {t : TypeId} {fr : Nat × Nat} (h : w.heap[bb]? = some (.cells #[.slice A n c] t fr)) : lenAt bb w = n := by
  unfold lenAt
  rw [cell_of_row w bb 0 _ t fr h]
  rfl

section
variable {P : Program} {Q : Exit → Act → World → Prop} {o : Oper} {a : Act} {w : World} {K : Act → World → Prop}
theorem ow_load_slice (x : Operand) (e : TypeId) (t : TypeId) (ho : o.op = .load t x) (g : Nat) (hx : a.eval x = .pointer (some ⟨g, 0, none⟩)) (A : Option Addr) (n c : Nat) (hg : w.cell? ⟨g, 0, none⟩ = some (.slice A n c))
    (hu : P.underlying t = some (.slice e)) (h : K (a.put o.dst (.slice A n c)) w) : o.wp P a w K Q := by
  refine ow_value (v := .slice A n c) ?_ h
  unfold execOp
  simp only [ho, hx, Instr.loadAt, Instr.sureAddr, Sem.run_bind, Sem.run_pure, Result.andThen_ok]
  simp [go_sem, hg, hu, isAgg, underlying]
theorem ow_slice_lo (x : Operand) (e : TypeId) (t : TypeId) (lo : Nat) (ho : o.op = .slice t x (some (.const (.int .i64 (lo : Int)))) none none) (b j n c : Nat) (hx : a.eval x = .slice (some ⟨b, j, none⟩) n c)
    (hu : P.underlying t = some (.slice e)) (h1 : lo ≤ n) (_h2 : n ≤ c) (h3 : lo < c) (hi : (P.info? e).map (·.size) = some 1) (h : K (a.put o.dst (.slice (some ⟨b, j + lo, none⟩) (n - lo) (c - lo))) w) : o.wp P a w K Q := by
  refine ow_value (v := .slice (some ⟨b, j + lo, none⟩) (n - lo) (c - lo)) ?_ h
  obtain ⟨i, hi1, hi2⟩ := Option.map_eq_some_iff.1 hi
  unfold execOp
  simp only [ho, hx, Sem.run_bind, Option.map_some, Option.map_none]
  have h4 : ¬ c = lo := by omega
  have h5 : (P.info? e).map (·.size) = some 1 := hi
  simp [go_sem, hu, Act.eval, h1, h4, sizeOf, typeInfo, Sem.run_bind, hi1, hi2]
theorem ow_slice_hi (x : Operand) (e : TypeId) (t : TypeId) (k : Nat) (ho : o.op = .slice t x none (some (.const (.int .i64 (k : Int)))) none) (b j n c : Nat) (hx : a.eval x = .slice (some ⟨b, j, none⟩) n c)
    (hu : P.underlying t = some (.slice e)) (h1 : k ≤ c) (h3 : 0 < c) (hi : (P.info? e).map (·.size) = some 1) (h : K (a.put o.dst (.slice (some ⟨b, j, none⟩) k c)) w) : o.wp P a w K Q := by
  refine ow_value (v := .slice (some ⟨b, j, none⟩) k c) ?_ h
  obtain ⟨i, hi1, hi2⟩ := Option.map_eq_some_iff.1 hi
  unfold execOp
  simp only [ho, hx, Sem.run_bind, Option.map_some, Option.map_none]
  have h4 : ¬ c = 0 := by omega
  simp [go_sem, hu, Act.eval, h1, h4, sizeOf, typeInfo, Sem.run_bind, hi1, hi2]
theorem ow_neq_nat (x y : Operand) (t ty : TypeId) (i j : Nat) (ho : o.op = .binOp .neq t x y ty) (hx : a.eval x = .int .u32 (i : Int)) (hy : a.eval y = .int .u32 (j : Int)) (_hu : P.underlying t = some (.int .u32))
    (h : K (a.put o.dst (.bool (i != j))) w) : o.wp P a w K Q := by
  refine ow_value (v := .bool (i != j)) ?_ h
  unfold execOp
  simp only [ho, hx, hy]
  have h1 : ((i : Int) != (j : Int)) = (i != j) := by
    rw [Bool.eq_iff_iff, bne_iff_ne, bne_iff_ne]; omega
  simp [go_sem, h1]
variable {ops : Array Oper} {rest : List Oper}
theorem wpList_slice3 (hgd : o.guard = none) (e t : TypeId) (x y z : Operand) (m b j n c : Nat) (ho : o.op = .slice t x (some (.const (.int .i64 8))) (some y) (some z)) (hx : a.eval x = .slice (some ⟨b, j, none⟩) n c)
    (hy : a.eval y = .int .i64 (8 + (m : Int))) (hz : a.eval z = .int .i64 (8 + (m : Int))) (hu : P.underlying t = some (.slice e)) (h1 : 8 + m ≤ c) (hi : (P.info? e).map (·.size) = some 1)
    (h : ∀ off, (m = 0 ∨ off = j + 8) → wpList P ops Q rest (a.put o.dst (.slice (some ⟨b, off, none⟩) m m)) w) : wpList P ops Q (o :: rest) a w := by
  refine wpList_plain hgd fun K hK => ?_
  refine ow_value (v := .slice (some ⟨b, if m = 0 then j else j + 8, none⟩) m m) ?_ (hK _ _ (h _ (by split <;> omega)))
  obtain ⟨i, hi1, hi2⟩ := Option.map_eq_some_iff.1 hi
  unfold execOp
  simp only [ho, hx, hy, hz, Sem.run_bind, Option.map_some]
  have h2 : 0 ≤ 8 + (m : Int) ∧ 8 + (m : Int) ≤ (c : Int) := by omega
  have h3 : (8 + (m : Int)).toNat = 8 + m := by omega
  have h4 : (0 : Int) ≤ 8 + (m : Int) := by omega
  have h5 : 8 + m - 8 = m := by omega
  have h6 : (8 + m = 8) = (m = 0) := by simp
  have h7 : ¬ 8 + (m : Int) < 8 := by omega
  simp [go_sem, hu, Act.eval, h2, h3, h5, sizeOf, typeInfo, Sem.run_bind, hi1, hi2]
  by_cases h0 : m = 0 <;> simp [h0, h7]
theorem wpList_sliceLo (hgd : o.guard = none) (e t : TypeId) (x y : Operand) (k b j n c : Nat) (ho : o.op = .slice t x (some y) none none) (hx : a.eval x = .slice (some ⟨b, j, none⟩) n c)
    (hy : a.eval y = .int .i64 (8 + (k : Int))) (hu : P.underlying t = some (.slice e)) (h1 : 8 + k ≤ n) (h2 : n ≤ c) (hi : (P.info? e).map (·.size) = some 1)
    (h : ∀ off, (n - (8 + k) = 0 ∨ off = j + (8 + k)) → wpList P ops Q rest (a.put o.dst (.slice (some ⟨b, off, none⟩) (n - (8 + k)) (c - (8 + k)))) w) : wpList P ops Q (o :: rest) a w := by
  refine wpList_plain hgd fun K hK => ?_
  refine ow_value (v := .slice (some ⟨b, if c = 8 + k then j else j + (8 + k), none⟩) (n - (8 + k)) (c - (8 + k))) ?_ (hK _ _ (h _ (by split <;> omega)))
  obtain ⟨i, hi1, hi2⟩ := Option.map_eq_some_iff.1 hi
  unfold execOp
  simp only [ho, hx, hy, Sem.run_bind, Option.map_some, Option.map_none]
  have h3 : (8 + (k : Int)).toNat = 8 + k := by omega
  have h4 : (0 : Int) ≤ 8 + (k : Int) := by omega
  have h5 : 8 + (k : Int) ≤ (n : Int) := by omega
  simp [go_sem, hu, h3, h4, h5, sizeOf, typeInfo, Sem.run_bind, hi1, hi2]
  by_cases h0 : c = 8 + k <;> simp [h0]
end

theorem tag25 : ((Try.prog.info? 5).map (·.size)) = some 1 := by kernel_rfl

/-- the state between two rounds -/
structure Rec1 (B0 bb : Nat) (bs : List UInt8) (w : World) (J : List Pay → World → Prop) (xs : List Pay) (rest : List UInt8) (A : Option Addr) (c : Nat) (wr : World) : Prop where
  box : wr.heap[bb]? = some (.cells #[.slice A rest.length c] 25 (0, 0))
  data : SBK B0 w (.slice A rest.length c) rest
  low : Low B0 w wr
  tail : wr.heap[w.heap.size + 2]? = some (.cells (tvs (tailOf (pays xs))) 30 (0, 0))
  good : Good B0 w bs xs
  todo : pays xs ++ recs rest.length (tailOf (pays xs)).2.2 rest = recs bs.length 0 bs
  len : 8 * xs.length + (pays xs).flatten.length + rest.length = bs.length
  inv : J xs wr

theorem Rec1.below {B0 bb : Nat} {bs : List UInt8} {w : World} {J : List Pay → World → Prop} (hJ : ∀ pre A B, J pre A → Touch (fun k o => k = bb ∨ (k = w.heap.size + 2 ∧ ∃ cs, o = Obj.cells cs 30 (0, 0))) A B → J pre B) {xs : List Pay} {rest : List UInt8} {A : Option Addr} {c : Nat} {wr w1 : World}
    (h : Rec1 B0 bb bs w J xs rest A c wr) (hb : Below wr.heap.size wr w1) : Rec1 B0 bb bs w J xs rest A c w1 :=
  ⟨blk_below h.box hb, h.data, h.low.trans (Low.of_below hb), blk_below h.tail hb, h.good, h.todo, h.len, hJ _ _ _ h.inv (Touch.of_below hb)⟩
theorem number_at (b o i : Nat) (n c : Nat) (bs : List UInt8) (w : World) (B0 : Nat) (hs : SBK B0 w (.slice (some ⟨b, o, none⟩) n c) bs) (k m : Nat) (h4 : i + 4 ≤ n) (hk : 4 ≤ k) :
    Calls Try.prog 30 #[.slice (some ⟨b, o + i, none⟩) k m] w fun e w' => e = .returned (.int .u32 ((nAt bs i : Nat) : Int)) ∧ Below w.heap.size w w' := by
  obtain ⟨rfl, _, _, _, hc⟩ := hs.at_
  have h : ∀ j, j < 4 → w.cell? ⟨b, o + i + j, none⟩ = some (.int .u8 (((bs.getD (i + j) 0)).toNat : Int)) := by
    intro j hj
    rw [Nat.add_assoc, hc (i + j) (by omega)]
    simp [List.getElem?_eq_getElem (show i + j < bs.length by omega)]
  refine (number_any b (o + i) k m _ _ _ _ hk w (h 0 (by omega)) (h 1 (by omega)) (h 2 (by omega)) (h 3 (by omega))).mono ?_
  rintro e w' ⟨rfl, q, rfl⟩
  exact ⟨rfl, below_drewN (Below.refl _ _) q⟩
theorem recs_no {x : Nat} {b : List UInt8} (h : okRec x b = false) (f : Nat) : recs f x b = [] := by
  cases f with
  | zero => rfl
  | succ f => simp [recs, h]
theorem okRec_short {x : Nat} {b : List UInt8} (h : b.length < 8) : okRec x b = false := by
  unfold okRec
  have : ¬ 8 ≤ b.length := by omega
  simp [this]

set_option maxHeartbeats 1000000 in
theorem records1_iterates (B0 bb : Nat) (A : Option Addr) (c : Nat) (bs : List UInt8) (w : World) (hb : w.heap[bb]? = some (.cells #[.slice A bs.length c] 25 (0, 0))) (hB0 : B0 ≤ bb) (hs : SBK B0 w (.slice A bs.length c) bs) :
    Iterates Try.prog 29 #[.pointer (some ⟨bb, 0, none⟩)] enc (Good B0 w bs) (Done bs) (fun k o => k = bb ∨ (k = w.heap.size + 2 ∧ ∃ cs, o = Obj.cells cs 30 (0, 0))) (Kept B0 bb (w.heap.size + 2)) (w.heap.size + 3) w := by
  intro n l J W hbel hsz hJ hY hJ0
  have hbl := blk_lt hb
  have hml : bs.length ≤ 140737488355328 := by obtain ⟨_, _, _, _, h⟩ := hs.1.shape; omega
  have hWb := blk_below hb hbel
  have HJ := Lib.hid hJ
  have HY := Lib.hid hY
  have hst : Rec1 B0 bb bs w J [] bs A c (W.alloc (.cells #[.int .i64 0, .int .i64 0, .int .u32 0] 30)) := by
    refine ⟨blk_alloc hWb _, hs, (Low.of_below hbel).trans (Low.of_below (below_alloc1 _ _)), ?_, ⟨by simp, by simp, by simp [pays]⟩, by simp [pays, tailOf], by simp [pays], hJ _ _ _ hJ0 (touch_alloc _ _)⟩
    have h := World.alloc_heap_new W (.cells #[.int .i64 0, .int .i64 0, .int .u32 0] 30)
    rw [hsz] at h
    exact h
  have HST := Lib.hid hst
  clear hs hJ hY hJ0 hb hbel hWb hst
  refine callsIn_wide.2 ?_
  go_enter Try.func29, Try.ntmps29
  go_wp2_with fail
  go_loopw [] (fun wr => ∃ xs rest A' c', Rec1 B0 bb bs w J xs rest A' c' wr) (fun wr => lenAt bb wr)
  case atStart => exact ⟨[], bs, A, c, HST.out⟩
  case round =>
    clear HST
    obtain ⟨xs, rest, A', c', hr⟩ := hrel
    have HR := Lib.hid hr
    have HLW := Lib.hid (lenAt_eq hr.box)
    have hcell : wr.cell? ⟨bb, 0, none⟩ = some (.slice A' rest.length c') := cell_of_row wr _ _ _ _ _ hr.box
    by_cases h8 : 8 ≤ rest.length
    · obtain ⟨b, o, rfl, hc0⟩ := SB.at_ hr.data.1 0 (by omega)
      clear hc0 hr
      go_wp2_with fail
      refine (number_at b o 0 rest.length c' rest _ B0 (HR.out.data.kept HR.out.low) _ _ (by omega) (by omega)).mono ?_
      rintro e w1 ⟨rfl, hb1⟩
      have HR1 := Lib.hid (HR.out.below HJ.out hb1)
      have hcell1 := cell_below hb1 hcell
      clear hb1 HR hcell
      have hm := nAt_lt rest 0
      obtain ⟨m, hM⟩ : ∃ m, m = nAt rest 0 := ⟨_, rfl⟩
      rw [← hM] at hm ⊢
      have HM := Lib.hid hM
      clear hM
      have hrc : rest.length ≤ c' := (HR1.out.data.at_).2.1
      have hrl : rest.length ≤ 140737488355328 := (HR1.out.data.at_).2.2.1
      by_cases hok : m ≤ 16384 ∧ m ≤ rest.length - 8
      · have hm16 : m ≤ 16384 := hok.1
        have hm8 : 8 + m ≤ rest.length := by omega
        have hmc : 8 + m ≤ c' := by omega
        clear hok
        have hd1 : decide ((16384 : Int) < (m : Int)) = false := by simp; omega
        have hd2 : decide ((rest.length : Int) - 8 < (m : Int)) = false := by simp; omega
        go_wp2_with (first | (refine wpList_slice3 rfl 5 25 (.tmp 25) (.tmp 26) (.tmp 27) m b o rest.length c' rfl rfl rfl rfl Try.underlying25 hmc tag25 ?_; intro off hoff))
        obtain ⟨p, hP⟩ : ∃ p, p = (rest.drop 8).take m := ⟨_, rfl⟩
        have hpl : p.length = m := by rw [hP]; simp; omega
        have hpd : SBK B0 w (.slice (some ⟨b, off, none⟩) m m) p := by
          rcases hoff with h | h
          · have : p = [] := List.eq_nil_of_length_eq_zero (by omega)
            subst this
            subst h
            refine ⟨⟨_, 0, rfl, Nat.le_refl _, by simp, .inl rfl⟩, ?_⟩
            intro b' o' n' c'' e hpos
            injection e with e1 e2 e3; injection e1 with e1; injection e1 with e4 e5
            have := (HR1.out.data.at_).2.2.2.1
            omega
          · rw [hP, h]; exact HR1.out.data.part 8 m m (by omega) (by omega)
        have hpd4 : SBK B0 w (.slice (some ⟨b, o, none⟩) 4 c') (rest.take 4) := by
          have := HR1.out.data.part 0 4 c' (by omega) (by omega)
          simpa using this
        have HP := Lib.hid hP
        have HPD := Lib.hid hpd
        have HPD4 := Lib.hid hpd4
        clear hP hpd hpd4 hd1 hd2
        obtain ⟨⟨tc, ts, tx⟩, hT⟩ : ∃ t, tailOf (pays xs) = t := ⟨_, rfl⟩
        have htx : tx < 4294967296 := by have := tailOf_lt (pays xs); rw [hT] at this; exact this
        have htc : tc = xs.length := by have := tailOf_count (pays xs); rw [hT] at this; simpa [pays] using this
        have hts : ts = 8 * xs.length + (pays xs).flatten.length := by have := tailOf_size (pays xs); rw [hT] at this; simpa [pays] using this
        have hlen := HR1.out.len
        have htail := HR1.out.tail
        have hbox := HR1.out.box
        rw [hT] at htail
        have HTL := Lib.hid htail
        have HBX := Lib.hid hbox
        have HT := Lib.hid hT
        clear htail hbox hT
        have hn4 := nAt_lt rest 4
        refine region_ev 9 (fun i v W => match i with
            | 0 => v = .agg (tvs (tc, ts, tx))
            | 1 => v = .slice (some ⟨b, o, none⟩) rest.length c'
            | 2 => v = .slice (some ⟨b, o, none⟩) 4 c'
            | 3 => v = .slice (some ⟨b, off, none⟩) m m
            | 4 => v = .int .u32 ((Crc.check (Crc.le4 tx ++ rest.take 4 ++ p) : Nat) : Int)
            | 5 => v = .slice (some ⟨b, o, none⟩) rest.length c'
            | 6 => v = .slice (some ⟨b, o + 4, none⟩) (rest.length - 4) (c' - 4)
            | 7 => v = .int .u32 ((nAt rest 4 : Nat) : Int)
            | 8 => v = .bool (Crc.check (Crc.le4 tx ++ rest.take 4 ++ p) != nAt rest 4)
            | _ => True) (fun W W' => Below W.heap.size W W') (fun W => Below w1.heap.size w1 W) (by kernel_rfl) (by kernel_rfl) (by kernel_rfl) ?hst ?h0 ?step ?fin
        case hst =>
          intro i v W W' hE hG
          match i, hE with
          | 0, h => exact h
          | 1, h => exact h
          | 2, h => exact h
          | 3, h => exact h
          | 4, h => exact h
          | 5, h => exact h
          | 6, h => exact h
          | 7, h => exact h
          | 8, h => exact h
          | n + 9, _ => trivial
        case h0 => exact (Below.refl _ _).drew
        case step =>
          intro i op hi ho a W hS hag hdep
          have hbr : Below W.heap.size W W := Below.refl _ _
          have hlow : Low B0 w W := HR1.out.low.trans (Low.of_below hS)
          have hcW : W.cell? ⟨bb, 0, none⟩ = some (.slice (some ⟨b, o, none⟩) rest.length c') := cell_below hS hcell1
          match i, hi, ho with
          | 0, _, rfl => exact ow_load_row 30 _ rfl (w.heap.size + 2) (hag 3 rfl) 30 _ (0, 0) _ (blk_below HTL.out hS) Try.underlying30 rfl (by kernel_rfl) ⟨_, rfl, rfl, hbr, hS⟩
          | 1, _, rfl => exact ow_load_slice _ 5 25 rfl bb (hag 1 rfl) _ _ _ hcW Try.underlying25 ⟨_, rfl, rfl, hbr, hS⟩
          | 2, _, rfl =>
            have h1 : a.eval (.tmp 30) = .slice (some ⟨b, o, none⟩) rest.length c' := hdep 1 (by omega) (by kernel_rfl)
            exact ow_slice_hi _ 5 25 4 rfl b o rest.length c' h1 Try.underlying25 (by omega) (by omega) tag25 ⟨_, rfl, rfl, hbr, hS⟩
          | 3, _, rfl => exact ow_move _ rfl (hag 6 rfl) ⟨_, rfl, rfl, hbr, hS⟩
          | 4, _, rfl =>
            have h1 : a.eval (.tmp 29) = .agg (tvs (tc, ts, tx)) := hdep 0 (by omega) (by kernel_rfl)
            have h2 : a.eval (.tmp 31) = .slice (some ⟨b, o, none⟩) 4 c' := hdep 2 (by omega) (by kernel_rfl)
            have h3 : a.eval (.tmp 32) = .slice (some ⟨b, off, none⟩) m m := hdep 3 (by omega) (by kernel_rfl)
            refine ow_call Try.func26 (by kernel_rfl) rfl _ _ rfl (vs := #[.agg (tvs (tc, ts, tx)), .slice (some ⟨b, o, none⟩) 4 c', .slice (some ⟨b, off, none⟩) m m]) (by simp only [List.map_toArray, List.map_cons, List.map_nil, h1, h2, h3]) ?_
            refine (sum_any tc ts tx htx _ _ _ _ W (HPD4.out.kept hlow).1 (HPD.out.kept hlow).1).mono ?_
            rintro e w' ⟨rfl, hbb⟩
            exact ⟨_, rfl, _, rfl, rfl, hbb, hS.trans (hbb.mono hS.size)⟩
          | 5, _, rfl => exact ow_load_slice _ 5 25 rfl bb (hag 1 rfl) _ _ _ hcW Try.underlying25 ⟨_, rfl, rfl, hbr, hS⟩
          | 6, _, rfl =>
            have h1 : a.eval (.tmp 34) = .slice (some ⟨b, o, none⟩) rest.length c' := hdep 5 (by omega) (by kernel_rfl)
            exact ow_slice_lo _ 5 25 4 rfl b o rest.length c' h1 Try.underlying25 (by omega) (by omega) (by omega) tag25 ⟨_, rfl, rfl, hbr, hS⟩
          | 7, _, rfl =>
            have h1 : a.eval (.tmp 35) = .slice (some ⟨b, o + 4, none⟩) (rest.length - 4) (c' - 4) := hdep 6 (by omega) (by kernel_rfl)
            refine ow_call Try.func30 (by kernel_rfl) rfl _ _ rfl (vs := #[.slice (some ⟨b, o + 4, none⟩) (rest.length - 4) (c' - 4)]) (by simp only [List.map_toArray, List.map_cons, List.map_nil, h1]) ?_
            refine (number_at b o 4 rest.length c' rest _ B0 (HR1.out.data.kept hlow) _ _ (by omega) (by omega)).mono ?_
            rintro e w' ⟨rfl, hbb⟩
            exact ⟨_, rfl, _, rfl, rfl, hbb, hS.trans (hbb.mono hS.size)⟩
          | 8, _, rfl =>
            have h1 : a.eval (.tmp 33) = .int .u32 ((Crc.check (Crc.le4 tx ++ rest.take 4 ++ p) : Nat) : Int) := hdep 4 (by omega) (by kernel_rfl)
            have h2 : a.eval (.tmp 36) = .int .u32 ((nAt rest 4 : Nat) : Int) := hdep 7 (by omega) (by kernel_rfl)
            exact ow_neq_nat _ _ 26 _ _ _ rfl h1 h2 Try.underlying26 ⟨_, rfl, rfl, hbr, hS⟩
        case fin =>
          intro a W hS hsz hdf hag hf
          obtain ⟨⟨tl⟩, ds⟩ := a
          match tl, hsz with
          | x0 :: x1 :: x2 :: x3 :: x4 :: x5 :: x6 :: x7 :: x8 :: x9 :: x10 :: x11 :: x12 :: x13 :: x14 :: x15 :: x16 :: x17 :: x18 :: x19 :: x20 :: x21 :: x22 :: x23 :: x24 :: x25 :: tl2, hsz =>
           match tl2, hsz with
           | [x26, x27, x28, x29, x30, x31, x32, x33, x34, x35, x36, x37, x38, x39, x40, x41, x42, x43, x44, x45, x46, x47, x48, x49, x50, x51], _ =>
            obtain rfl : ds = [] := hdf
            obtain rfl : x0 = .func (.yield l) #[] #[] := hag 0 rfl
            obtain rfl : x1 = .pointer (some ⟨bb, 0, none⟩) := hag 1 rfl
            obtain rfl : x2 = undef := hag 2 rfl
            obtain rfl : x3 = .pointer (some ⟨w.heap.size + 2, 0, none⟩) := hag 3 rfl
            obtain rfl : x5 = .int .i64 (8 + (m : Int)) := hag 5 rfl
            obtain rfl : x6 = .slice (some ⟨b, off, none⟩) m m := hag 6 rfl
            obtain rfl : x37 = .bool (Crc.check (Crc.le4 tx ++ rest.take 4 ++ p) != nAt rest 4) := hf 8 (by omega)
            clear hag hf hsz
            change wpList Try.prog _ _ _ ⟨#[.func (.yield l) #[] #[], .pointer (some ⟨bb, 0, none⟩), undef, .pointer (some ⟨w.heap.size + 2, 0, none⟩), x4, .int .i64 (8 + (m : Int)), .slice (some ⟨b, off, none⟩) m m, x7, x8, x9, x10, x11, x12, x13, x14, x15, x16, x17, x18, x19, x20, x21, x22, x23, x24, x25, x26, x27, x28, x29, x30, x31, x32, x33, x34, x35, x36, .bool (Crc.check (Crc.le4 tx ++ rest.take 4 ++ p) != nAt rest 4), x38, x39, x40, x41, x42, x43, x44, x45, x46, x47, x48, x49, x50, x51], []⟩ W
            simp only [List.drop_succ_cons, List.drop_zero]
            have HRW := Lib.hid (HR1.out.below HJ.out hS)
            have hcW : W.cell? ⟨bb, 0, none⟩ = some (.slice (some ⟨b, o, none⟩) rest.length c') := cell_below hS hcell1
            have HTW := Lib.hid (blk_below HTL.out hS)
            have HBW := Lib.hid (blk_below HBX.out hS)
            clear hS hcell1 HTL HBX HR1
            by_cases hsum : Crc.check (Crc.le4 tx ++ rest.take 4 ++ p) = nAt rest 4
            · rw [show (Crc.check (Crc.le4 tx ++ rest.take 4 ++ p) != nAt rest 4) = false from by rw [hsum]; simp]
              have hokr : okRec tx rest = true := by
                unfold okRec
                rw [← HM.out, ← HP.out, hsum]
                have h1 : 8 ≤ rest.length := h8
                have h2 : m ≤ rest.length - 8 := by omega
                simp [h1, hm16, h2]
              obtain ⟨hrs, _, _, _, _⟩ := okRec_sum hokr
              rw [← HM.out, ← HP.out] at hrs
              obtain ⟨S4, hS4⟩ : ∃ s, s = nAt rest 4 := ⟨_, rfl⟩
              rw [← hS4] at hrs
              obtain ⟨C, hC⟩ : ∃ c, c = tc + 1 := ⟨_, rfl⟩
              obtain ⟨Z, hZ⟩ : ∃ z, z = ts + (8 + m) := ⟨_, rfl⟩
              have HOK := Lib.hid hokr
              have HRS := Lib.hid hrs
              have HC := Lib.hid hC
              have HZ := Lib.hid hZ
              have HS4 := Lib.hid hS4
              have htcm : tc ≤ 140737488355328 := by omega
              have htsm : ts ≤ 140737488355328 := by omega
              clear hokr hrs hC hZ hS4 hsum htc hts hn4
              go_wp2_with fail
              refine region_ev 6 (fun i v U => match i with
                  | 0 => v = .agg (tvs (tc, ts, tx))
                  | 1 => v = .slice (some ⟨b, off, none⟩) m m
                  | 2 => v = .slice (some ⟨b, o, none⟩) rest.length c'
                  | 3 => v = .slice (some ⟨b, o + 4, none⟩) (rest.length - 4) (c' - 4)
                  | 4 => v = .int .u32 ((S4 : Nat) : Int)
                  | 5 => v = .agg (tvs (C, Z, S4))
                  | _ => True) (fun U U' => Below U.heap.size U U') (fun U => Below W.heap.size W U) (by kernel_rfl) (by kernel_rfl) (by kernel_rfl) ?hst2 ?h02 ?step2 ?fin2
              case hst2 =>
                intro i v W W' hE hG
                match i, hE with
                | 0, h => exact h
                | 1, h => exact h
                | 2, h => exact h
                | 3, h => exact h
                | 4, h => exact h
                | 5, h => exact h
                | n + 6, _ => trivial
              case h02 => exact (Below.refl _ _).drew
              case step2 =>
                intro i op hi ho a U hS hag hdep
                have hbr : Below U.heap.size U U := Below.refl _ _
                have hlow : Low B0 w U := HRW.out.low.trans (Low.of_below hS)
                have hcU : U.cell? ⟨bb, 0, none⟩ = some (.slice (some ⟨b, o, none⟩) rest.length c') := cell_below hS hcW
                match i, hi, ho with
                | 0, _, rfl => exact ow_load_row 30 _ rfl (w.heap.size + 2) (hag 3 rfl) 30 _ (0, 0) _ (blk_below HTW.out hS) Try.underlying30 rfl (by kernel_rfl) ⟨_, rfl, rfl, hbr, hS⟩
                | 1, _, rfl => exact ow_move _ rfl (hag 6 rfl) ⟨_, rfl, rfl, hbr, hS⟩
                | 2, _, rfl => exact ow_load_slice _ 5 25 rfl bb (hag 1 rfl) _ _ _ hcU Try.underlying25 ⟨_, rfl, rfl, hbr, hS⟩
                | 3, _, rfl =>
                  have h1 : a.eval (.tmp 40) = .slice (some ⟨b, o, none⟩) rest.length c' := hdep 2 (by omega) (by kernel_rfl)
                  exact ow_slice_lo _ 5 25 4 rfl b o rest.length c' h1 Try.underlying25 (by omega) (by omega) (by omega) tag25 ⟨_, rfl, rfl, hbr, hS⟩
                | 4, _, rfl =>
                  have h1 : a.eval (.tmp 41) = .slice (some ⟨b, o + 4, none⟩) (rest.length - 4) (c' - 4) := hdep 3 (by omega) (by kernel_rfl)
                  refine ow_call Try.func30 (by kernel_rfl) rfl _ _ rfl (vs := #[.slice (some ⟨b, o + 4, none⟩) (rest.length - 4) (c' - 4)]) (by simp only [List.map_toArray, List.map_cons, List.map_nil, h1]) ?_
                  refine (number_at b o 4 rest.length c' rest _ B0 (HRW.out.data.kept hlow) _ _ (by omega) (by omega)).mono ?_
                  rintro e w' ⟨rfl, hbb⟩
                  rw [← HS4.out]
                  exact ⟨_, rfl, _, rfl, rfl, hbb, hS.trans (hbb.mono hS.size)⟩
                | 5, _, rfl =>
                  have h1 : a.eval (.tmp 38) = .agg (tvs (tc, ts, tx)) := hdep 0 (by omega) (by kernel_rfl)
                  have h2 : a.eval (.tmp 39) = .slice (some ⟨b, off, none⟩) m m := hdep 1 (by omega) (by kernel_rfl)
                  have h3 : a.eval (.tmp 42) = .int .u32 ((S4 : Nat) : Int) := hdep 4 (by omega) (by kernel_rfl)
                  refine ow_call Try.func28 (by kernel_rfl) rfl _ _ rfl (vs := #[.agg (tvs (tc, ts, tx)), .slice (some ⟨b, off, none⟩) m m, .int .u32 ((S4 : Nat) : Int)]) (by simp only [List.map_toArray, List.map_cons, List.map_nil, h1, h2, h3]) ?_
                  refine (behind_any tc ts tx S4 htcm htsm _ m m (by omega) U).mono ?_
                  rintro e w' ⟨rfl, hbb⟩
                  rw [← HC.out, ← HZ.out]
                  exact ⟨_, rfl, _, rfl, rfl, hbb, hS.trans (hbb.mono hS.size)⟩
              case fin2 =>
                intro a U hS hsz hdf hag hf
                obtain ⟨⟨tl⟩, ds⟩ := a
                match tl, hsz with
                | y0 :: y1 :: y2 :: y3 :: y4 :: y5 :: y6 :: y7 :: y8 :: y9 :: y10 :: y11 :: y12 :: y13 :: y14 :: y15 :: y16 :: y17 :: y18 :: y19 :: y20 :: y21 :: y22 :: y23 :: y24 :: y25 :: tl2, hsz =>
                 match tl2, hsz with
                 | [y26, y27, y28, y29, y30, y31, y32, y33, y34, y35, y36, y37, y38, y39, y40, y41, y42, y43, y44, y45, y46, y47, y48, y49, y50, y51], _ =>
                  obtain rfl : ds = [] := hdf
                  obtain rfl : y0 = .func (.yield l) #[] #[] := hag 0 rfl
                  obtain rfl : y1 = .pointer (some ⟨bb, 0, none⟩) := hag 1 rfl
                  obtain rfl : y2 = undef := hag 2 rfl
                  obtain rfl : y3 = .pointer (some ⟨w.heap.size + 2, 0, none⟩) := hag 3 rfl
                  obtain rfl : y5 = .int .i64 (8 + (m : Int)) := hag 5 rfl
                  obtain rfl : y6 = .slice (some ⟨b, off, none⟩) m m := hag 6 rfl
                  obtain rfl : y43 = .agg (tvs (C, Z, S4)) := hf 5 (by omega)
                  clear hag hf hsz
                  change wpList Try.prog _ _ _ ⟨#[.func (.yield l) #[] #[], .pointer (some ⟨bb, 0, none⟩), undef, .pointer (some ⟨w.heap.size + 2, 0, none⟩), y4, .int .i64 (8 + (m : Int)), .slice (some ⟨b, off, none⟩) m m, y7, y8, y9, y10, y11, y12, y13, y14, y15, y16, y17, y18, y19, y20, y21, y22, y23, y24, y25, y26, y27, y28, y29, y30, y31, y32, y33, y34, y35, y36, y37, y38, y39, y40, y41, y42, .agg (tvs (C, Z, S4)), y44, y45, y46, y47, y48, y49, y50, y51], []⟩ U
                  simp only [List.drop_succ_cons, List.drop_zero]
                  have HRU := Lib.hid (HRW.out.below HJ.out hS)
                  have hcU : U.cell? ⟨bb, 0, none⟩ = some (.slice (some ⟨b, o, none⟩) rest.length c') := cell_below hS hcW
                  have hTU := blk_below HTW.out hS
                  clear hS hcW HTW HBW HRW
                  refine wpList_store_row rfl 30 _ _ rfl (w.heap.size + 2) rfl 30 _ _ rfl hTU rfl (by kernel_rfl) (by simp [tvs, Value.oneCell']) ?_
                  intro w3 hT3 hS3 hG3
                  have HTU0 := Lib.hid hTU
                  clear hTU
                  show Exit.then _ _ _ _ _
                  simp only [Exit.then, Act.put]
                  apply_assumption
                  refine (wpIn_wide (n := n)).1 ?_
                  have hbB0 : b < B0 := (HRU.out.data.at_).2.2.2.1 (by omega)
                  have HDT := Lib.hid HRU.out.data
                  have HTD := Lib.hid HRU.out.todo
                  have hJ3 : J xs w3 := HJ.out _ _ _ HRU.out.inv (Touch.of_grown hG3 (fun k o e ho => by injection e with e; subst e; rw [HTU0.out] at ho; injection ho with ho; exact .inr ⟨rfl, _, ho.symm⟩))
                  have hbox3 : w3.heap[bb]? = some (.cells #[.slice (some ⟨b, o, none⟩) rest.length c'] 25 (0, 0)) := blk_grown HRU.out.box hG3 (fun e => by injection e with e; omega)
                  have hlow3 : Low B0 w w3 := HRU.out.low.trans (fun k o hk h0 => blk_grown h0 hG3 (fun e => by injection e with e; omega))
                  have hpx : pays (xs ++ [((.slice (some ⟨b, off, none⟩) m m, p, (C, Z, S4)) : Pay)]) = pays xs ++ [p] := pays_snoc _ _
                  have hgood : Good B0 w bs (xs ++ [((.slice (some ⟨b, off, none⟩) m m, p, (C, Z, S4)) : Pay)]) := by
                    refine ⟨fun z hz => ?_, fun ys z hz => ?_, ?_⟩
                    · rcases List.mem_append.1 hz with h | h
                      · exact HRU.out.good.1 z h
                      · obtain rfl := List.mem_singleton.1 h
                        exact HPD.out
                    · obtain ⟨_, h⟩ := List.append_inj' hz rfl
                      injection h with h
                      rw [hpx, tailOf_snoc, HT.out, ← h, HC.out, HZ.out, HRS.out, hpl]
                    · rw [hpx]
                      have := HRU.out.good.2.2
                      simp only [List.length_append, List.length_singleton, List.flatten_append, List.flatten_cons, List.flatten_nil, List.append_nil]
                      omega
                  have hY3 := HY.out xs _ w3 hJ3 (by have := blk_lt hT3; omega) hgood
                  obtain ⟨fn, tmps, assign, body, hy, hR⟩ := hY3
                  have hy : (Instr.yield l #[.slice (some ⟨b, off, none⟩) m m, .agg #[.int .i64 (C : Int), .int .i64 (Z : Int), .int .u32 (S4 : Int)]]).run Try.prog w3 = .ok (.round l fn tmps assign body) w3 := hy
                  have c0 : w3.cell? ⟨w.heap.size + 2, 0, none⟩ = some (.int .i64 (C : Int)) := cell_of_row w3 _ _ _ _ _ hT3
                  have c1 : w3.cell? ⟨w.heap.size + 2, 1, none⟩ = some (.int .i64 (Z : Int)) := cell_of_row w3 _ _ _ _ _ hT3
                  have c2 : w3.cell? ⟨w.heap.size + 2, 2, none⟩ = some (.int .u32 (S4 : Int)) := cell_of_row w3 _ _ _ _ _ hT3
                  have HG := Lib.hid hgood
                  have HBX3 := Lib.hid hbox3
                  have HL3 := Lib.hid hlow3
                  have HT3 := Lib.hid hT3
                  have HRR := Lib.hid hR
                  have HPX := Lib.hid hpx
                  clear hJ3 hbox3 hlow3 hgood hT3 hR hpx hG3 HRU hS3 hcU
                  gi_wp2
                  refine ⟨fun h => by simp [Fence.wide] at h, HRR.out.mono ?_⟩
                  rintro e w4 ⟨rfl, hJ4, hk4⟩
                  have hbox4 : w4.heap[bb]? = some (.cells #[.slice (some ⟨b, o, none⟩) rest.length c'] 25 (0, 0)) := hk4.2 _ _ (.inr (.inl rfl)) HBX3.out
                  have hcell4 : w4.cell? ⟨bb, 0, none⟩ = some (.slice (some ⟨b, o, none⟩) rest.length c') := cell_of_row w4 _ _ _ _ _ hbox4
                  have hfrz4 : w4.frozen? ⟨bb, 0, none⟩ = false := frozen_of_row w4 _ _ _ _ hbox4
                  have hfin : ∀ off2, (rest.length - (8 + m) = 0 ∨ off2 = o + (8 + m)) →
                      Rec1 B0 bb bs w J (xs ++ [((.slice (some ⟨b, off, none⟩) m m, p, (C, Z, S4)) : Pay)]) (rest.drop (8 + m)) (some ⟨b, off2, none⟩) (c' - (8 + m)) (w4.setCell ⟨bb, 0, none⟩ (.slice (some ⟨b, off2, none⟩) (rest.length - (8 + m)) (c' - (8 + m)))) := by
                    intro off2 ho2
                    have hT4 := hk4.2 _ _ (.inr (.inr rfl)) HT3.out
                    have hrl : (rest.drop (8 + m)).length = rest.length - (8 + m) := by simp
                    have hg : w4.grownBy (w4.setCell ⟨bb, 0, none⟩ (.slice (some ⟨b, off2, none⟩) (rest.length - (8 + m)) (c' - (8 + m)))) (some bb) := grown_setCell (grown_refl w4 (some bb)) 0 _
                    have htl : tailOf (pays (xs ++ [((.slice (some ⟨b, off, none⟩) m m, p, (C, Z, S4)) : Pay)])) = (C, Z, S4) := by
                      rw [HPX.out, tailOf_snoc, HT.out, HC.out, HZ.out, HRS.out, hpl]
                    refine ⟨?_, ?_, ?_, ?_, HG.out, ?_, ?_, ?_⟩
                    · rw [hrl]; exact blk_setCell hbox4 _
                    · rw [hrl]
                      rcases ho2 with h | h
                      · have he : rest.drop (8 + m) = [] := List.eq_nil_of_length_eq_zero (by omega)
                        rw [he, h]
                        refine ⟨⟨_, _, rfl, Nat.zero_le _, by simp, .inl rfl⟩, ?_⟩
                        intro b' o' n' c'' e hpos
                        injection e with e1 e2 e3; injection e1 with e1; injection e1 with e4 e5
                        have := hbB0
                        omega
                      · rw [h]
                        have h2 := HDT.out.part (8 + m) (rest.length - (8 + m)) (c' - (8 + m)) (by omega) (by omega)
                        rwa [List.take_of_length_le (by omega)] at h2
                    · exact (HL3.out.trans hk4.low).trans (fun k ob hk h0 => blk_grown h0 hg (fun e => by injection e with e; omega))
                    · rw [htl]; exact blk_grown hT4 hg (fun e => by injection e with e; omega)
                    · rw [htl, HPX.out, ← HTD.out, HT.out]
                      obtain ⟨k, hk⟩ : ∃ k, rest.length = k + 1 := ⟨rest.length - 1, by omega⟩
                      rw [List.append_assoc]
                      congr 1
                      have h1 : recs rest.length tx rest = p :: recs k S4 (rest.drop (8 + m)) := by
                        rw [hk]
                        simp only [recs]
                        rw [if_pos HOK.out, ← HM.out, ← HP.out, ← HS4.out]
                      show [p] ++ recs (rest.drop (8 + m)).length S4 (rest.drop (8 + m)) = recs rest.length tx rest
                      rw [h1, recs_more k S4 (rest.drop (8 + m)) (rest.drop (8 + m)).length (by omega) (Nat.le_refl _)]
                      rfl
                    · rw [HPX.out, hrl]
                      simp only [List.length_append, List.length_singleton, List.flatten_append, List.flatten_cons, List.flatten_nil, List.append_nil]
                      omega
                    · exact HJ.out _ _ _ hJ4 (Touch.of_grown hg (fun k o e _ => by injection e with e; exact .inl e.symm))
                  have HF := Lib.hid hfin
                  have HB4 := Lib.hid hbox4
                  clear hfin hbox4 hJ4 hk4
                  have h8m : 8 + m ≤ rest.length := hm8
                  by_cases hcc : c' = 8 + m
                  · have h0 := HF.out o (.inl (by omega))
                    rw [show c' - (8 + m) = 0 from by omega] at h0
                    have H0 := Lib.hid h0
                    clear h0
                    gi_wp2
                    go_roundw
                    case rel => exact ⟨_, _, _, _, H0.out⟩
                    case measure =>
                      rw [HLW.out, lenAt_eq (blk_setCell HB4.out _)]
                      omega
                  · gi_wp2
                    go_roundw
                    case rel => exact ⟨_, _, _, _, HF.out _ (.inr rfl)⟩
                    case measure =>
                      rw [HLW.out, lenAt_eq (blk_setCell HB4.out _)]
                      omega
            · rw [show (Crc.check (Crc.le4 tx ++ rest.take 4 ++ p) != nAt rest 4) = true from bne_iff_ne.2 hsum]
              go_wp2
              refine bodyPost_ret (results_none rfl _ _ _) rfl ⟨⟨_, rfl⟩, xs, ?_, HRW.out.inv⟩
              have h1 := HRW.out.todo
              have h2 : okRec tx rest = false := by
                unfold okRec
                rw [← HM.out, ← HP.out]
                have h3 : (Crc.check (Crc.le4 tx ++ rest.take 4 ++ p) == nAt rest 4) = false := beq_eq_false_iff_ne.2 hsum
                rw [h3, Bool.and_false]
              rw [HT.out, recs_no h2, List.append_nil] at h1
              exact h1
      · have hfalse : okRec (tailOf (pays xs)).2.2 rest = false := by
          unfold okRec
          rw [← HM.out]
          by_cases h16 : m ≤ 16384
          · have h2 : ¬ m ≤ rest.length - 8 := fun h => hok ⟨h16, h⟩
            simp [h2]
          · simp [h16]
        have HFL := Lib.hid hfalse
        clear hfalse
        by_cases h16 : m ≤ 16384
        · have h2 : rest.length < 8 + m := by
            rcases Nat.lt_or_ge rest.length (8 + m) with h | h
            · exact h
            · exact absurd ⟨h16, by omega⟩ hok
          have hd1 : decide ((16384 : Int) < (m : Int)) = false := by simp; omega
          have hd2 : decide ((rest.length : Int) - 8 < (m : Int)) = true := by simp; omega
          clear hok
          go_wp2
          refine bodyPost_ret (results_none rfl _ _ _) rfl ⟨⟨_, rfl⟩, xs, ?_, HR1.out.inv⟩
          have h1 := HR1.out.todo
          rw [recs_no HFL.out, List.append_nil] at h1
          exact h1
        · have hd1 : decide ((16384 : Int) < (m : Int)) = true := by simp; omega
          clear hok
          go_wp2
          refine bodyPost_ret (results_none rfl _ _ _) rfl ⟨⟨_, rfl⟩, xs, ?_, HR1.out.inv⟩
          have h1 := HR1.out.todo
          rw [recs_no HFL.out, List.append_nil] at h1
          exact h1
    · clear hr
      go_wp2
      go_end0
      refine ⟨⟨_, rfl⟩, xs, ?_, HR.out.inv⟩
      have h1 := HR.out.todo
      rw [recs_no (okRec_short (by omega)), List.append_nil] at h1
      exact h1
end Go.Proofs.Ytlhdnloimgckgaa
