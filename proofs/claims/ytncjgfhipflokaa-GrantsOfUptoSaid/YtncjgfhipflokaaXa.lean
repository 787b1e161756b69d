/-
  tidewrackref01.Texts: how two texts stand.
  tidewrackref17.put: a text put among others that rise, once.
  tidewrackref17.put: the walk.
-/
import Derived.Test.YtncjgfhipflokaaVg
namespace Go.Proofs.Ytncjgfhipflokaa
open Go.RowKit Go.Shelf Hp Go.Maps

section
variable {Q : Exit → Act → World → Prop} {o : Oper} {a : Act} {w : World} {K : Act → World → Prop}
theorem ow_index_str (x y : Operand) (ho : o.op = .index 9 x y) (s : S) (i : Nat) (hx : a.eval x = encStr s) (hy : a.eval y = .int .i64 (i : Int)) (hi : i < s.length) (h : K (a.put o.dst (.int .u8 ((s[i].toNat : Nat) : Int))) w) : o.wp Try.prog a w K Q := by
  refine ow_value (v := .int .u8 ((s[i].toNat : Nat) : Int)) ?_ h
  unfold execOp
  simp only [ho, hx, hy]
  have h1 : i < (ByteArray.mk s.toArray).size := by show i < s.toArray.size; simpa using hi
  have h2 : (ByteArray.mk s.toArray)[i] = s[i] := by
    show s.toArray[i] = s[i]
    simp
  simp [go_sem, encStr, hi]
  exact congrArg (fun x : UInt8 => ((x.toNat : Nat) : Int)) h2
theorem ow_neq_u8 (x y : Operand) (ty : TypeId) (ho : o.op = .binOp .neq 5 x y ty) (i j : Nat) (hx : a.eval x = .int .u8 (i : Int)) (hy : a.eval y = .int .u8 (j : Int)) (h : K (a.put o.dst (.bool (!(decide (i = j))))) w) : o.wp Try.prog a w K Q := by
  refine ow_value (v := .bool (!(decide (i = j)))) ?_ h
  unfold execOp
  simp only [ho, hx, hy]
  have e : ((i : Int) == (j : Int)) = decide (i = j) := by rw [Bool.eq_iff_iff, beq_iff_eq, decide_eq_true_eq]; exact Int.ofNat_inj
  simp [go_sem, bne, e]
theorem ow_lss_u8 (x y : Operand) (ty : TypeId) (ho : o.op = .binOp .lss 5 x y ty) (i j : Nat) (hx : a.eval x = .int .u8 (i : Int)) (hy : a.eval y = .int .u8 (j : Int)) (h : K (a.put o.dst (.bool (decide (i < j)))) w) : o.wp Try.prog a w K Q := by
  refine ow_value (v := .bool (decide (i < j))) ?_ h
  unfold execOp
  simp only [ho, hx, hy]
  simp [go_sem]
end
def cmpS (a b : S) : Int := if a < b then -1 else if a = b then 0 else 1
theorem u8_lt (x y : UInt8) : x < y ↔ x.toNat < y.toNat := UInt8.lt_iff_toNat_lt
theorem cmp_lt {a b : S} {i : Nat} (ha : i < a.length) (hb : i < b.length) (he : a.take i = b.take i) (h : a[i].toNat < b[i].toNat) : a < b := by
  rw [List.lt_iff_exists]
  refine .inr ⟨i, ha, hb, fun j hj => ?_, (u8_lt _ _).2 h⟩
  have h1 := congrArg (fun l : S => l[j]?) he
  simp only [List.getElem?_take, if_pos hj] at h1
  rw [List.getElem?_eq_getElem (by omega), List.getElem?_eq_getElem (by omega)] at h1
  injection h1
theorem cmp_pre {a b : S} (he : a.take (min a.length b.length) = b.take (min a.length b.length)) : (a.length < b.length → a < b) ∧ (a.length = b.length → a = b) ∧ (b.length < a.length → b < a) := by
  refine ⟨fun h => ?_, fun h => ?_, fun h => ?_⟩
  · rw [Nat.min_eq_left (by omega), List.take_length] at he
    rw [List.lt_iff_exists]
    exact .inl ⟨he, h⟩
  · rw [Nat.min_eq_left (by omega), List.take_length, h, List.take_length] at he
    exact he
  · rw [Nat.min_eq_right (by omega), List.take_length] at he
    rw [List.lt_iff_exists]
    exact .inl ⟨he.symm, h⟩
theorem cmpS_lt {a b : S} (h : a < b) : cmpS a b = -1 := if_pos h
theorem cmpS_eq {a b : S} (h : a = b) : cmpS a b = 0 := by subst h; unfold cmpS; rw [if_neg (List.lt_irrefl a), if_pos rfl]
theorem cmpS_gt {a b : S} (h : b < a) : cmpS a b = 1 := by
  unfold cmpS
  rw [if_neg (List.lt_asymm h), if_neg (fun e => by subst e; exact List.lt_irrefl _ h)]

set_option maxHeartbeats 1000000 in
set_option maxRecDepth 4000 in
theorem texts_cmp (a b : S) (ha : a.length ≤ maxLen) (hb : b.length ≤ maxLen) (w : World) : Calls Try.prog 40 #[encStr a, encStr b] w fun e w' => e = .returned (.int .i64 (cmpS a b)) ∧ Below w.heap.size w w' := by
  have hal : a.length ≤ 9223372036854775807 := ha
  have hbl : b.length ≤ 9223372036854775807 := hb
  clear ha hb
  go_enter Try.func40, Try.ntmps40
  go_wp2_with fail
  go_loopw [5] (fun vi wr => ∃ q : Nat, vi = .int .i64 (q : Int) ∧ q ≤ a.length ∧ q ≤ b.length ∧ Below w.heap.size w wr ∧ a.take q = b.take q) (fun vi _ => a.length - (intOf vi).toNat)
  case atStart => exact ⟨0, rfl, Nat.zero_le _, Nat.zero_le _, Below.refl _ _, by simp⟩
  case round =>
    obtain ⟨q, rfl, hq, hqb, hbe, hpre⟩ := hrel
    have HBE := Lib.hid hbe
    have HPRE := Lib.hid hpre
    clear hbe hpre
    by_cases hend : q < a.length ∧ q < b.length
    · obtain ⟨hqa, hqb2⟩ := hend
      have hd1 : decide ((q : Int) < (a.length : Int)) = true := by simp; omega
      have hd1n : decide (q < a.length) = true := by simp; omega
      have hd2 : decide ((q : Int) < (b.length : Int)) = true := by simp; omega
      have hd2n : decide (q < b.length) = true := by simp; omega
      go_upto_region 4 with fail
      clear hd1 hd2 hd1n hd2n
      refine region_f 7 (fun i vs W => match i with
          | 0 => vs 0 = encStr a
          | 1 => vs 1 = .int .i64 (q : Int)
          | 2 => vs 2 = .int .u8 ((a[q].toNat : Nat) : Int)
          | 3 => vs 3 = encStr b
          | 4 => vs 4 = .int .i64 (q : Int)
          | 5 => vs 5 = .int .u8 ((b[q].toNat : Nat) : Int)
          | 6 => vs 6 = .bool (!(decide (a[q].toNat = b[q].toNat)))
          | _ => True) (fun _ W W' => Below W.heap.size W W') (fun W => Below wr.heap.size wr W) (by kernel_rfl) (by kernel_rfl) ?hsta ?h0a ?stepa ?fina
      case hsta =>
        intro i k vs W W' _ _ h hG
        match i, h with
        | 0, h => exact h
        | 1, h => exact h
        | 2, h => exact h
        | 3, h => exact h
        | 4, h => exact h
        | 5, h => exact h
        | 6, h => exact h
        | n + 7, _ => trivial
      case h0a => exact (Below.refl _ _).drew
      case stepa =>
        intro i op hi ho ac W hS hag hdep
        have hbr : Below W.heap.size W W := Below.refl _ _
        match i, hi, ho with
        | 0, _, rfl =>
          exact ow_move _ rfl (v := encStr a) (hag 0 rfl) ⟨_, rfl, fun vs' h _ => h (fun e => by cases e), hbr, hS⟩
        | 1, _, rfl =>
          exact ow_move _ rfl (v := .int .i64 (q : Int)) (hag 5 rfl) ⟨_, rfl, fun vs' h _ => h (fun e => by cases e), hbr, hS⟩
        | 2, _, rfl =>
          have hx : ac.eval (.tmp 18) = encStr a := hdep 0 (by omega) (by kernel_rfl)
          have hy : ac.eval (.tmp 19) = .int .i64 (q : Int) := hdep 1 (by omega) (by kernel_rfl)
          exact ow_index_str _ _ rfl a q hx hy hqa ⟨_, rfl, fun vs' h _ => h (fun e => by cases e), hbr, hS⟩
        | 3, _, rfl =>
          exact ow_move _ rfl (v := encStr b) (hag 1 rfl) ⟨_, rfl, fun vs' h _ => h (fun e => by cases e), hbr, hS⟩
        | 4, _, rfl =>
          exact ow_move _ rfl (v := .int .i64 (q : Int)) (hag 5 rfl) ⟨_, rfl, fun vs' h _ => h (fun e => by cases e), hbr, hS⟩
        | 5, _, rfl =>
          have hx : ac.eval (.tmp 21) = encStr b := hdep 3 (by omega) (by kernel_rfl)
          have hy : ac.eval (.tmp 22) = .int .i64 (q : Int) := hdep 4 (by omega) (by kernel_rfl)
          exact ow_index_str _ _ rfl b q hx hy hqb2 ⟨_, rfl, fun vs' h _ => h (fun e => by cases e), hbr, hS⟩
        | 6, _, rfl =>
          have h1 : ac.eval (.tmp 20) = .int .u8 ((a[q].toNat : Nat) : Int) := hdep 2 (by omega) (by kernel_rfl)
          have h2 : ac.eval (.tmp 23) = .int .u8 ((b[q].toNat : Nat) : Int) := hdep 5 (by omega) (by kernel_rfl)
          exact ow_neq_u8 _ _ _ rfl _ _ h1 h2 ⟨_, rfl, fun vs' h _ => h (fun e => by cases e), hbr, hS⟩
        | n + 7, hi, _ => exact absurd hi (by omega)
      case fina =>
        intro vs W hS hF
        have e6 : vs 6 = .bool (!(decide (a[q].toNat = b[q].toNat))) := hF 6 (by omega)
        clear hF
        change wpList _ _ _ _ (Act.put (Act.put (Act.put (Act.put (Act.put (Act.put (Act.put _ (some 18) (vs 0)) (some 19) (vs 1)) (some 20) (vs 2)) (some 21) (vs 3)) (some 22) (vs 4)) (some 23) (vs 5)) (some 24) (vs 6)) W
        rw [e6]
        clear e6
        generalize vs 0 = z0
        generalize vs 1 = z1
        generalize vs 2 = z2
        generalize vs 3 = z3
        generalize vs 4 = z4
        generalize vs 5 = z5
        simp only [putAll, List.drop_succ_cons, List.drop_zero, Act.put, List.setIfInBounds_toArray, List.set_cons_zero, List.set_cons_succ]
        clear vs
        have HBE2 := Lib.hid (HBE.out.trans (hS.mono HBE.out.size))
        clear hS HBE
        rename World => w3
        by_cases hab : a[q].toNat = b[q].toNat
        · rw [show (!(decide (a[q].toNat = b[q].toNat))) = false by simp [hab]]
          have HNX := Lib.hid (show a.take (q + 1) = b.take (q + 1) from by
            have : a[q] = b[q] := UInt8.toNat_inj.1 hab
            rw [← List.take_append_getElem hqa, ← List.take_append_getElem hqb2, HPRE.out, this])
          clear hab
          go_wp2_with fail
          go_roundw
          case rel => exact ⟨q + 1, rfl, by omega, by omega, HBE2.out, HNX.out⟩
          case measure => simp [intOf]; omega
        · rw [show (!(decide (a[q].toNat = b[q].toNat))) = true by simp [hab]]
          have HAB := Lib.hid hab
          clear hab
          go_upto_region 5 with fail
          refine region_f 7 (fun i vs W => match i with
              | 0 => vs 0 = encStr a
              | 1 => vs 1 = .int .i64 (q : Int)
              | 2 => vs 2 = .int .u8 ((a[q].toNat : Nat) : Int)
              | 3 => vs 3 = encStr b
              | 4 => vs 4 = .int .i64 (q : Int)
              | 5 => vs 5 = .int .u8 ((b[q].toNat : Nat) : Int)
              | 6 => vs 6 = .bool (decide (a[q].toNat < b[q].toNat))
              | _ => True) (fun _ W W' => Below W.heap.size W W') (fun W => Below w3.heap.size w3 W) (by kernel_rfl) (by kernel_rfl) ?hstb ?h0b ?stepb ?finb
          case hstb =>
            intro i k vs W W' _ _ h hG
            match i, h with
            | 0, h => exact h
            | 1, h => exact h
            | 2, h => exact h
            | 3, h => exact h
            | 4, h => exact h
            | 5, h => exact h
            | 6, h => exact h
            | n + 7, _ => trivial
          case h0b => exact (Below.refl _ _).drew
          case stepb =>
            intro i op hi ho ac W hS hag hdep
            have hbr : Below W.heap.size W W := Below.refl _ _
            match i, hi, ho with
            | 0, _, rfl =>
              exact ow_move _ rfl (v := encStr a) (hag 0 rfl) ⟨_, rfl, fun vs' h _ => h (fun e => by cases e), hbr, hS⟩
            | 1, _, rfl =>
              exact ow_move _ rfl (v := .int .i64 (q : Int)) (hag 5 rfl) ⟨_, rfl, fun vs' h _ => h (fun e => by cases e), hbr, hS⟩
            | 2, _, rfl =>
              have hx : ac.eval (.tmp 25) = encStr a := hdep 0 (by omega) (by kernel_rfl)
              have hy : ac.eval (.tmp 26) = .int .i64 (q : Int) := hdep 1 (by omega) (by kernel_rfl)
              exact ow_index_str _ _ rfl a q hx hy hqa ⟨_, rfl, fun vs' h _ => h (fun e => by cases e), hbr, hS⟩
            | 3, _, rfl =>
              exact ow_move _ rfl (v := encStr b) (hag 1 rfl) ⟨_, rfl, fun vs' h _ => h (fun e => by cases e), hbr, hS⟩
            | 4, _, rfl =>
              exact ow_move _ rfl (v := .int .i64 (q : Int)) (hag 5 rfl) ⟨_, rfl, fun vs' h _ => h (fun e => by cases e), hbr, hS⟩
            | 5, _, rfl =>
              have hx : ac.eval (.tmp 28) = encStr b := hdep 3 (by omega) (by kernel_rfl)
              have hy : ac.eval (.tmp 29) = .int .i64 (q : Int) := hdep 4 (by omega) (by kernel_rfl)
              exact ow_index_str _ _ rfl b q hx hy hqb2 ⟨_, rfl, fun vs' h _ => h (fun e => by cases e), hbr, hS⟩
            | 6, _, rfl =>
              have h1 : ac.eval (.tmp 27) = .int .u8 ((a[q].toNat : Nat) : Int) := hdep 2 (by omega) (by kernel_rfl)
              have h2 : ac.eval (.tmp 30) = .int .u8 ((b[q].toNat : Nat) : Int) := hdep 5 (by omega) (by kernel_rfl)
              exact ow_lss_u8 _ _ _ rfl _ _ h1 h2 ⟨_, rfl, fun vs' h _ => h (fun e => by cases e), hbr, hS⟩
            | n + 7, hi, _ => exact absurd hi (by omega)
          case finb =>
            intro vs W hS hF
            have e6 : vs 6 = .bool (decide (a[q].toNat < b[q].toNat)) := hF 6 (by omega)
            clear hF
            change wpList _ _ _ _ (Act.put (Act.put (Act.put (Act.put (Act.put (Act.put (Act.put _ (some 25) (vs 0)) (some 26) (vs 1)) (some 27) (vs 2)) (some 28) (vs 3)) (some 29) (vs 4)) (some 30) (vs 5)) (some 31) (vs 6)) W
            rw [e6]
            clear e6
            generalize vs 0 = z0
            generalize vs 1 = z1
            generalize vs 2 = z2
            generalize vs 3 = z3
            generalize vs 4 = z4
            generalize vs 5 = z5
            simp only [putAll, List.drop_succ_cons, List.drop_zero, Act.put, List.setIfInBounds_toArray, List.set_cons_zero, List.set_cons_succ]
            clear vs
            have HBE3 := Lib.hid (HBE2.out.trans (hS.mono HBE2.out.size))
            clear hS HBE2
            by_cases hlt : a[q].toNat < b[q].toNat
            · rw [show decide (a[q].toNat < b[q].toNat) = true by simp [hlt]]
              have HV := Lib.hid (cmpS_lt (cmp_lt hqa hqb2 HPRE.out hlt))
              clear hlt
              go_wp2_with fail
              go_ret
              exact ⟨by rw [HV.out]; rfl, HBE3.out⟩
            · rw [show decide (a[q].toNat < b[q].toNat) = false by simp; omega]
              have HV := Lib.hid (cmpS_gt (cmp_lt hqb2 hqa HPRE.out.symm (by have := HAB.out; omega)))
              clear hlt
              go_wp2_with fail
              go_ret
              exact ⟨by rw [HV.out]; rfl, HBE3.out⟩
    · have hpp : a.take (min a.length b.length) = b.take (min a.length b.length) := by rw [show min a.length b.length = q by omega]; exact HPRE.out
      obtain ⟨p1, p2, p3⟩ := cmp_pre hpp
      have HP1 := Lib.hid p1
      have HP2 := Lib.hid p2
      have HP3 := Lib.hid p3
      clear hpp p1 p2 p3
      by_cases hqa : q < a.length
      · have hd1 : decide ((q : Int) < (a.length : Int)) = true := by simp; omega
        have hd2 : decide ((q : Int) < (b.length : Int)) = false := by simp; omega
        have hd2n : decide (q < b.length) = false := by simp; omega
        have hd3 : ((a.length : Int) == (b.length : Int)) = false := by rw [beq_eq_false_iff_ne]; omega
        have hd4 : decide ((a.length : Int) < (b.length : Int)) = false := by simp; omega
        have hd4n : decide (a.length < b.length) = false := by simp; omega
        have HV := Lib.hid (cmpS_gt (HP3.out (by omega)))
        clear hend
        go_wp2_with fail
        go_ret
        exact ⟨by rw [HV.out]; rfl, HBE.out⟩
      · have hd1 : decide ((q : Int) < (a.length : Int)) = false := by simp; omega
        by_cases hle : a.length = b.length
        · have hd3 : ((a.length : Int) == (b.length : Int)) = true := by rw [beq_iff_eq]; omega
          have HV := Lib.hid (cmpS_eq (HP2.out hle))
          clear hend hle
          go_wp2_with fail
          go_ret
          exact ⟨by rw [HV.out]; rfl, HBE.out⟩
        · have hd3 : ((a.length : Int) == (b.length : Int)) = false := by rw [beq_eq_false_iff_ne]; omega
          have hd4 : decide ((a.length : Int) < (b.length : Int)) = true := by simp; omega
          have hd4n : decide (a.length < b.length) = true := by simp; omega
          have HV := Lib.hid (cmpS_lt (HP1.out (by omega)))
          clear hend hle
          go_wp2_with fail
          go_ret
          exact ⟨by rw [HV.out]; rfl, HBE.out⟩
end Go.Proofs.Ytncjgfhipflokaa

namespace Go.Proofs.Ytncjgfhipflokaa
open Go.RowKit Go.Shelf Hp Go.Maps

/-! ### plain -/
theorem snocInd {α : Type} {motive : List α → Prop} (l : List α) (nil : motive []) (append_singleton : ∀ l x, motive l → motive (l ++ [x])) : motive l := by
  rw [← List.reverse_reverse l]
  induction l.reverse with
  | nil => exact nil
  | cons x t ih => rw [List.reverse_cons]; exact append_singleton _ _ ih
def stepP (s : S) (p : List S × Bool) (x : S) : List S × Bool :=
  let o := if s < x ∧ p.2 = false then p.1 ++ [s] else p.1
  let d := if s < x ∧ p.2 = false then true else p.2
  (o ++ [x], if s = x then true else d)
def putF (s : S) (l : List S) : List S × Bool := l.foldl (stepP s) ([], false)
def putL (l : List S) (s : S) : List S := if (putF s l).2 then (putF s l).1 else (putF s l).1 ++ [s]
theorem putF_snoc (s : S) (l : List S) (x : S) : putF s (l ++ [x]) = stepP s (putF s l) x := by simp [putF]
theorem str_tri (a b : S) : a < b ∨ a = b ∨ b < a := by
  by_cases h1 : a < b
  · exact .inl h1
  · by_cases h2 : b < a
    · exact .inr (.inr h2)
    · exact .inr (.inl (List.le_antisymm (List.not_lt.1 h2) (List.not_lt.1 h1)))
/-- what stands behind the first of a rising row -/
def PI (s : S) (l : List S) (o : List S) (d : Bool) : Prop := o.Pairwise (· < ·) ∧ (∀ x, x ∈ o ↔ x ∈ l ∨ (x = s ∧ d = true)) ∧ (d = true → ∃ y ∈ l, s = y ∨ s < y) ∧ (d = false → ∀ y ∈ l, y < s)
theorem PI.step {s x : S} {l o : List S} {d : Bool} (h : PI s l o d) (hx : ∀ y ∈ l, y < x) : PI s (l ++ [x]) (stepP s (o, d) x).1 (stepP s (o, d) x).2 := by
  obtain ⟨h1, h2, h3, h4⟩ := h
  have hox : ∀ y ∈ o, y < x := by
    intro y hy
    rcases (h2 y).1 hy with hy | ⟨rfl, hd⟩
    · exact hx y hy
    · obtain ⟨z, hz, h | h⟩ := h3 hd
      · rw [h]; exact hx z hz
      · exact List.lt_trans h (hx z hz)
  have happ : ∀ (o' : List S), o'.Pairwise (· < ·) → (∀ y ∈ o', y < x) → (o' ++ [x]).Pairwise (· < ·) := fun o' g1 g2 => List.pairwise_append.2 ⟨g1, List.pairwise_singleton _ _, fun a ha b hb => by rw [List.mem_singleton.1 hb]; exact g2 a ha⟩
  rcases str_tri s x with hs | rfl | hs
  · have hne : s ≠ x := fun e => by subst e; exact List.lt_irrefl _ hs
    cases d with
    | true =>
      have e : stepP s (o, true) x = (o ++ [x], true) := by simp [stepP, hne]
      rw [e]
      refine ⟨happ o h1 hox, fun y => ?_, fun _ => ⟨x, by simp, .inr hs⟩, fun h => by cases h⟩
      simp only [List.mem_append, List.mem_singleton, h2]
      constructor
      · rintro ((h | h) | h)
        · exact .inl (.inl h)
        · exact .inr h
        · exact .inl (.inr h)
      · rintro ((h | h) | h)
        · exact .inl (.inl h)
        · exact .inr h
        · exact .inl (.inr h)
    | false =>
      have e : stepP s (o, false) x = ((o ++ [s]) ++ [x], true) := by simp [stepP, hs, hne]
      rw [e]
      have hos : ∀ y ∈ o, y < s := fun y hy => by
        rcases (h2 y).1 hy with hy | ⟨_, hd⟩
        · exact h4 rfl y hy
        · cases hd
      refine ⟨happ _ (List.pairwise_append.2 ⟨h1, List.pairwise_singleton _ _, fun a ha b hb => by rw [List.mem_singleton.1 hb]; exact hos a ha⟩) (fun y hy => ?_), fun y => ?_, fun _ => ⟨x, by simp, .inr hs⟩, fun h => by cases h⟩
      · rcases List.mem_append.1 hy with hy | hy
        · exact hox y hy
        · rw [List.mem_singleton.1 hy]; exact hs
      · simp only [List.mem_append, List.mem_singleton, h2, Bool.false_eq_true, and_false, or_false, and_true]
        constructor
        · rintro ((h | h) | h)
          · exact .inl (.inl h)
          · exact .inr h
          · exact .inl (.inr h)
        · rintro ((h | h) | h)
          · exact .inl (.inl h)
          · exact .inr h
          · exact .inl (.inr h)
  · have hirr : ¬ s < s := List.lt_irrefl s
    have e : stepP s (o, d) s = (o ++ [s], true) := by simp [stepP, hirr]
    rw [e]
    refine ⟨happ o h1 hox, fun y => ?_, fun _ => ⟨s, by simp, .inl rfl⟩, fun h => by cases h⟩
    simp only [List.mem_append, List.mem_singleton, h2, and_true]
    constructor
    · rintro ((h | ⟨h, _⟩) | h)
      · exact .inl (.inl h)
      · exact .inr h
      · exact .inr h
    · rintro ((h | h) | h)
      · exact .inl (.inl h)
      · exact .inr h
      · exact .inr h
  · have hne : s ≠ x := fun e => by subst e; exact List.lt_irrefl _ hs
    have hng : ¬ s < x := List.lt_asymm hs
    have e : stepP s (o, d) x = (o ++ [x], d) := by simp [stepP, hne, hng]
    rw [e]
    refine ⟨happ o h1 hox, fun y => ?_, fun hd => ?_, fun hd y hy => ?_⟩
    · simp only [List.mem_append, List.mem_singleton, h2]
      constructor
      · rintro ((h | h) | h)
        · exact .inl (.inl h)
        · exact .inr h
        · exact .inl (.inr h)
      · rintro ((h | h) | h)
        · exact .inl (.inl h)
        · exact .inr h
        · exact .inl (.inr h)
    · obtain ⟨z, hz, h⟩ := h3 hd
      exact ⟨z, by simp [hz], h⟩
    · rcases List.mem_append.1 hy with hy | hy
      · exact h4 hd y hy
      · rw [List.mem_singleton.1 hy]; exact hs
theorem putF_inv (s : S) : ∀ l : List S, l.Pairwise (· < ·) → PI s l (putF s l).1 (putF s l).2 := by
  intro l
  induction l using snocInd with
  | nil => intro _; exact ⟨List.Pairwise.nil, fun x => by simp [putF], fun h => by simp [putF] at h, fun _ y hy => by cases hy⟩
  | append_singleton l x ih =>
    intro h
    obtain ⟨h1, _, h2⟩ := List.pairwise_append.1 h
    rw [putF_snoc]
    exact (ih h1).step (fun y hy => h2 y hy x (by simp))
theorem putL_keys {l ks : List S} {s : S} (h : Keys l ks) : Keys (putL l s) (ks ++ [s]) := by
  obtain ⟨h1, h2, h3, h4⟩ := putF_inv s l h.1
  unfold putL
  cases hd : (putF s l).2 with
  | true =>
    rw [if_pos rfl]
    refine ⟨h1, fun x => ?_⟩
    rw [h2, hd, List.mem_append, List.mem_singleton, h.2]
    simp
  | false =>
    rw [if_neg (by simp)]
    have hos : ∀ y ∈ (putF s l).1, y < s := fun y hy => by
      rcases (h2 y).1 hy with hy | ⟨_, hd'⟩
      · exact h4 hd y hy
      · rw [hd] at hd'; cases hd'
    refine ⟨List.pairwise_append.2 ⟨h1, List.pairwise_singleton _ _, fun a ha b hb => by rw [List.mem_singleton.1 hb]; exact hos a ha⟩, fun x => ?_⟩
    rw [List.mem_append, List.mem_append, List.mem_singleton, h2, hd, h.2]
    simp
theorem putF_len (s : S) : ∀ l : List S, (putF s l).1.length ≤ l.length + 1 ∧ ((putF s l).2 = false → (putF s l).1.length = l.length) := by
  intro l
  induction l using snocInd with
  | nil => simp [putF]
  | append_singleton l x ih =>
    rw [putF_snoc]
    obtain ⟨h1, h2⟩ := ih
    unfold stepP
    by_cases h : s < x ∧ (putF s l).2 = false
    · have := h2 h.2
      simp only [h, and_self, if_true, List.length_append, List.length_singleton]
      refine ⟨by omega, fun he => ?_⟩
      split at he <;> cases he
    · simp only [h, if_false, List.length_append, List.length_singleton]
      refine ⟨by omega, fun he => ?_⟩
      split at he
      · cases he
      · rw [h2 he]
theorem putL_len (l : List S) (s : S) : (putL l s).length ≤ l.length + 1 := by
  obtain ⟨h1, h2⟩ := putF_len s l
  unfold putL
  cases hd : (putF s l).2 with
  | true => rw [if_pos rfl]; exact h1
  | false => rw [if_neg (by simp), List.length_append, h2 hd]; simp
theorem putL_le {l : List S} {s : S} {n : Nat} (hl : ∀ x ∈ l, x.length ≤ n) (hs : s.length ≤ n) : ∀ x ∈ putL l s, x.length ≤ n := by
  have hF : ∀ l : List S, (∀ x ∈ l, x.length ≤ n) → ∀ x ∈ (putF s l).1, x.length ≤ n := by
    intro l
    induction l using snocInd with
    | nil => intro _ x hx; simp [putF] at hx
    | append_singleton l y ih =>
      intro h x hx
      rw [putF_snoc] at hx
      unfold stepP at hx
      have ih' := ih (fun z hz => h z (by simp [hz]))
      rcases List.mem_append.1 hx with hx | hx
      · split at hx
        · rcases List.mem_append.1 hx with hx | hx
          · exact ih' x hx
          · rw [List.mem_singleton.1 hx]; exact hs
        · exact ih' x hx
      · rw [List.mem_singleton.1 hx]; exact h y (by simp)
  intro x hx
  unfold putL at hx
  split at hx
  · exact hF l hl x hx
  · rcases List.mem_append.1 hx with hx | hx
    · exact hF l hl x hx
    · rw [List.mem_singleton.1 hx]; exact hs

/-! ### operations -/
theorem run_build35_x (s : S) (w : World) : (Instr.buildSlice 35 1 #[(0, encStr s)]).run Try.prog w = .ok (.slice (some ⟨w.heap.size, 0, none⟩) 1 1) (w.alloc (.cells #[encStr s] 9)) := by kernel_rfl
section
variable {Q : Exit → Act → World → Prop} {o : Oper} {a : Act} {w : World} {K : Act → World → Prop} {ops : Array Oper} {rest : List Oper}
theorem wpList_build35 (hgd : o.guard = none) (x : Operand) (ho : o.op = .buildSlice 35 1 #[(0, x)]) (s : S) (hx : a.eval x = encStr s)
    (h : ∀ w', w'.heap[w.heap.size]? = some (.cells #[encStr s] 9 (0, 0)) → Below w.heap.size w w' → wpList Try.prog ops Q rest (a.put o.dst (.slice (some ⟨w.heap.size, 0, none⟩) 1 1)) w') : wpList Try.prog ops Q (o :: rest) a w := by
  refine wpList_plain hgd fun _ hK => ow_value' ?_ (hK _ _ (h _ (World.alloc_heap_new w _) (below_alloc1 _ _)))
  unfold execOp
  simp only [ho, List.map_toArray, List.map_cons, List.map_nil, hx, Sem.run_bind, run_build35_x, Result.andThen_ok]
  rfl
end
theorem TX.nil35 (w : World) (B : Nat) : TX w B (.slice none 0 0) [] := own_nil w B 1 9
theorem TX.more {w' : World} {B : Nat} {v' : Value} {ts : List S} {s : S} (hown : w'.ownsRow B 9 1 v' (ts.length + 1) (ts.map encStr ++ [encStr s])) : TX w' B v' (ts ++ [s]) := by
  unfold TX
  rw [List.length_append, List.length_singleton, List.map_append]
  exact hown
end Go.Proofs.Ytncjgfhipflokaa

namespace Go.Proofs.Ytncjgfhipflokaa
open Go.RowKit Go.Shelf Hp Go.Maps

theorem below_more {N : Nat} {w w1 w2 w3 : World} {r : Option Nat} (h : Below N w w1) (h2 : Below w1.heap.size w1 w2) (hg : w2.grownBy w3 r) (hN : N ≤ w1.heap.size) (hr : ∀ k, r = some k → N ≤ k) : Below N w w3 :=
  (h.trans (h2.mono hN)).grown hg (Nat.le_trans hN h2.size) hr

set_option maxHeartbeats 4000000 in
set_option maxRecDepth 4000 in
theorem put_any (l : List S) (lv : Value) (s : S) (w : World) (h : RT w lv l) (hll : l.length ≤ 1000000) (hl : ∀ x ∈ l, x.length ≤ maxLen) (hs : s.length ≤ maxLen) :
    Calls Try.prog 27 #[lv, encStr s] w fun e w' => ∃ v, e = .returned v ∧ TX w' w.heap.size v (putL l s) ∧ Below w.heap.size w w' := by
  obtain ⟨LA, lc, rfl, hlm, hlr⟩ := h
  have HLR := Lib.hid hlr
  have HL := Lib.hid hl
  have HS := Lib.hid hs
  obtain ⟨N, hN⟩ : ∃ N, N = w.heap.size := ⟨_, rfl⟩
  have HN := Lib.hid hN
  clear hlr hl hs hlm
  rw [← hN]
  clear hN
  go_enter Try.func27, Try.ntmps27
  go_wp2_with fail
  go_loopw [5, 6, 7] (fun vo vd vi wr => ∃ q : Nat, vi = .int .i64 (q : Int) ∧ q ≤ l.length ∧ vd = .bool (putF s (l.take q)).2 ∧ TX wr N vo (putF s (l.take q)).1 ∧ Below N w wr) (fun _ _ vi _ => l.length - (intOf vi).toNat)
  case atStart => exact ⟨0, rfl, Nat.zero_le _, rfl, TX.nil35 _ _, Below.refl _ _⟩
  case round =>
    obtain ⟨q, rfl, hq, rfl, htx, hbe⟩ := hrel
    have hlen := (putF_len s (l.take q)).1
    rw [List.length_take, Nat.min_eq_left hq] at hlen
    obtain ⟨p, hp⟩ : ∃ p, p = putF s (l.take q) := ⟨_, rfl⟩
    rw [← hp] at htx hlen
    obtain ⟨o, d⟩ := p
    have htx : TX wr N _ o := htx
    have hlen : o.length ≤ q + 1 := hlen
    obtain ⟨OA, oc, rfl⟩ := own_shape htx
    have HP := Lib.hid hp
    have HO := Lib.hid htx
    have HBwr := Lib.hid hbe
    have HNW := Lib.hid (show N ≤ wr.heap.size from by have := hbe.size; have := HN.out; omega)
    rw [← hp]
    clear hp htx hbe
    rcases (show q = l.length ∨ q < l.length by omega) with rfl | hql
    · have hd : decide ((l.length : Int) < (l.length : Int)) = false := by simp
      rw [List.take_length] at HP
      cases d with
      | true =>
        go_wp2_with fail
        go_ret
        exact ⟨_, rfl, by unfold putL; rw [← HP.out, if_pos rfl]; exact HO.out, HBwr.out⟩
      | false =>
        obtain ⟨G, hG⟩ : ∃ G, G = wr.heap.size := ⟨_, rfl⟩
        have Gs := Lib.hid hG
        clear hG
        go_wp2_with (first
          | (refine wpList_build35 rfl _ rfl s rfl ?_; rw [← Gs.out]; intro wA hT hB; have HTwA := Lib.hid hT; have HBwA := Lib.hid (show Below wr.heap.size wr wA from by rw [← Gs.out]; exact hB); have HOwA := Lib.hid (ownm_below HO.out HBwA.out); clear hT hB)
          | (at_builtin; refine wpList_append_n rfl (.tmp 42) (.tmp 44) 35 rfl N 9 1 16 Try.underlying35 app9 (by decide) _ o.length (o.map encStr) (by rfl) HOwA.out (some ⟨G, 0, none⟩) 1 1 [encStr s] (by rfl) rfl (fun h => by cases h) (fun ad e j y hy => by injection e with e; subst e; rw [add_plain, cell_of_row wA G _ _ _ _ HTwA.out, Nat.zero_add]; simpa using hy) (fun y hy => by rw [List.mem_singleton.1 hy]; rfl) (by unfold maxLen; (try simp only [List.length_append, List.length_singleton]); omega) (by (try simp only [List.length_append, List.length_singleton]); omega) (Nat.le_trans HNW.out HBwA.out.size) ?_
             intro v' wB hown hgr _
             have HOwB := Lib.hid (TX.more hown)
             have HBwB := Lib.hid (below_more HBwr.out HBwA.out hgr HNW.out (fun k e => ownm_ge HOwA.out k e))
             obtain ⟨AwB, cwB, rfl⟩ := own_shape hown
             clear hown hgr))
        go_ret
        exact ⟨_, rfl, by unfold putL; rw [← HP.out, if_neg (by simp)]; exact HOwB.out, HBwB.out⟩
    · have hd : decide ((q : Int) < (l.length : Int)) = true := by simp; omega
      have hd' : decide (q < l.length) = true := by simp; omega
      obtain ⟨bl, ol, rfl, hcl⟩ := HLR.out.resolve_left (by omega)
      have hck : wr.cell? ⟨bl, ol + q, none⟩ = some (encStr (at_ l q)) := (HBwr.out.cell (show bl < N from by have := cell_lt (hcl q hql); have := HN.out; omega)).trans (hcl q hql)
      have HCELL := Lib.hid (show ∀ W', Below N w W' → W'.cell? ⟨bl, ol + q, none⟩ = some (encStr (at_ l q)) from fun W' hb => (hb.cell (show bl < N from by have := cell_lt (hcl q hql); have := HN.out; omega)).trans (hcl q hql))
      have HNX := Lib.hid (show putF s (l.take (q + 1)) = stepP s (o, d) (at_ l q) from by rw [← List.take_append_getElem hql, putF_snoc, ← HP.out, at_get hql])
      have htc := texts_cmp s (at_ l q) HS.out (HL.out _ (by rw [at_get hql]; exact List.getElem_mem hql)) wr
      have HTC := Lib.hid htc
      clear hcl htc
      go_wp2_with fail
      refine HTC.out.mono ?_
      rintro e w2 ⟨rfl, hb2⟩
      have hck2 := below_cell hb2 hck
      have HOw2 := Lib.hid (ownm_below HO.out hb2)
      have HBw2 := Lib.hid (HBwr.out.trans (hb2.mono HNW.out))
      have HNW2 := Lib.hid (show N ≤ w2.heap.size from by have := hb2.size; have := HNW.out; omega)
      clear hb2 hck HTC HO HBwr HP
      obtain ⟨G, hG⟩ : ∃ G, G = w2.heap.size := ⟨_, rfl⟩
      have Gs := Lib.hid hG
      clear hG
      rcases str_tri s (at_ l q) with hc | hc | hc
      · rw [cmpS_lt hc]
        have hne : s ≠ at_ l q := fun e => by rw [← e] at hc; exact List.lt_irrefl _ hc
        cases d with
        | true =>
          have HST := Lib.hid (show stepP s (o, true) (at_ l q) = (o ++ [at_ l q], true) from by simp [stepP, hne])
          clear hc hne
          go_wp2_with (first
            | (refine wpList_build35 rfl _ rfl (at_ l q) rfl ?_; rw [← Gs.out]; intro wA hT hB; have HTwA := Lib.hid hT; have HBwA := Lib.hid (show Below w2.heap.size w2 wA from by rw [← Gs.out]; exact hB); have HOwA := Lib.hid (ownm_below HOw2.out HBwA.out); clear hT hB)
            | (at_builtin; refine wpList_append_n rfl (.tmp 33) (.tmp 38) 35 rfl N 9 1 16 Try.underlying35 app9 (by decide) _ o.length (o.map encStr) (by rfl) HOwA.out (some ⟨G, 0, none⟩) 1 1 [encStr (at_ l q)] (by rfl) rfl (fun h => by cases h) (fun ad e j y hy => by injection e with e; subst e; rw [add_plain, cell_of_row wA G _ _ _ _ HTwA.out, Nat.zero_add]; simpa using hy) (fun y hy => by rw [List.mem_singleton.1 hy]; rfl) (by unfold maxLen; (try simp only [List.length_append, List.length_singleton]); omega) (by (try simp only [List.length_append, List.length_singleton]); omega) (Nat.le_trans HNW2.out HBwA.out.size) ?_
               intro v' wB hown hgr _
               have HOwB := Lib.hid (TX.more hown)
               have HBwB := Lib.hid (below_more HBw2.out HBwA.out hgr HNW2.out (fun k e => ownm_ge HOwA.out k e))
               obtain ⟨AwB, cwB, rfl⟩ := own_shape hown
               clear hown hgr))
          go_roundw
          case rel => exact ⟨q + 1, rfl, by omega, by rw [HNX.out, HST.out], by rw [HNX.out, HST.out]; exact HOwB.out, HBwB.out⟩
          case measure => simp [intOf]; omega
        | false =>
          have HST := Lib.hid (show stepP s (o, false) (at_ l q) = ((o ++ [s]) ++ [at_ l q], true) from by simp [stepP, hc, hne])
          clear hc hne
          go_upto_region 9 with (first
            | (refine wpList_build35 rfl _ rfl s rfl ?_; rw [← Gs.out]; intro wA hT hB; have HTwA := Lib.hid hT; have HBwA := Lib.hid (show Below w2.heap.size w2 wA from by rw [← Gs.out]; exact hB); have HOwA := Lib.hid (ownm_below HOw2.out HBwA.out); clear hT hB)
            | (at_builtin; refine wpList_append_n rfl (.tmp 27) (.tmp 29) 35 rfl N 9 1 16 Try.underlying35 app9 (by decide) _ o.length (o.map encStr) (by rfl) HOwA.out (some ⟨G, 0, none⟩) 1 1 [encStr s] (by rfl) rfl (fun h => by cases h) (fun ad e j y hy => by injection e with e; subst e; rw [add_plain, cell_of_row wA G _ _ _ _ HTwA.out, Nat.zero_add]; simpa using hy) (fun y hy => by rw [List.mem_singleton.1 hy]; rfl) (by unfold maxLen; (try simp only [List.length_append, List.length_singleton]); omega) (by (try simp only [List.length_append, List.length_singleton]); omega) (Nat.le_trans HNW2.out HBwA.out.size) ?_
               intro v' wB hown hgr _
               have HOwB := Lib.hid (TX.more hown)
               have HBwB := Lib.hid (below_more HBw2.out HBwA.out hgr HNW2.out (fun k e => ownm_ge HOwA.out k e))
               obtain ⟨AwB, cwB, rfl⟩ := own_shape hown
               clear hown hgr))
          have HNWB := Lib.hid (show N ≤ wB.heap.size from by have := HBwB.out.size; have := HN.out; omega)
          have hckB := HCELL.out wB HBwB.out
          obtain ⟨G2, hG2⟩ : ∃ G, G = wB.heap.size := ⟨_, rfl⟩
          have G2s := Lib.hid hG2
          clear hG2 hck2
          go_wp2_with (first
            | (refine wpList_build35 rfl _ rfl (at_ l q) rfl ?_; rw [← G2s.out]; intro wC hT hB; have HTwC := Lib.hid hT; have HBwC := Lib.hid (show Below wB.heap.size wB wC from by rw [← G2s.out]; exact hB); have HOwC := Lib.hid (ownm_below HOwB.out HBwC.out); clear hT hB)
            | (at_builtin; refine wpList_append_n rfl (.tmp 33) (.tmp 38) 35 rfl N 9 1 16 Try.underlying35 app9 (by decide) _ (o ++ [s]).length ((o ++ [s]).map encStr) (by rfl) HOwC.out (some ⟨G2, 0, none⟩) 1 1 [encStr (at_ l q)] (by rfl) rfl (fun h => by cases h) (fun ad e j y hy => by injection e with e; subst e; rw [add_plain, cell_of_row wC G2 _ _ _ _ HTwC.out, Nat.zero_add]; simpa using hy) (fun y hy => by rw [List.mem_singleton.1 hy]; rfl) (by unfold maxLen; (try simp only [List.length_append, List.length_singleton]); omega) (by (try simp only [List.length_append, List.length_singleton]); omega) (Nat.le_trans HNWB.out HBwC.out.size) ?_
               intro v' wD hown hgr _
               have HOwD := Lib.hid (TX.more hown)
               have HBwD := Lib.hid (below_more HBwB.out HBwC.out hgr HNWB.out (fun k e => ownm_ge HOwC.out k e))
               obtain ⟨AwD, cwD, rfl⟩ := own_shape hown
               clear hown hgr))
          go_roundw
          case rel => exact ⟨q + 1, rfl, by omega, by rw [HNX.out, HST.out], by rw [HNX.out, HST.out]; have h := HOwD.out; simp only [List.length_append, List.length_singleton] at h; exact h, HBwD.out⟩
          case measure => simp [intOf]; omega
      · have HST := Lib.hid (show stepP s (o, d) (at_ l q) = (o ++ [at_ l q], true) from by rw [← hc]; have hirr : ¬ s < s := List.lt_irrefl s; simp [stepP, hirr])
        rw [cmpS_eq hc]
        clear hc
        go_wp2_with (first
          | (refine wpList_build35 rfl _ rfl (at_ l q) rfl ?_; rw [← Gs.out]; intro wA hT hB; have HTwA := Lib.hid hT; have HBwA := Lib.hid (show Below w2.heap.size w2 wA from by rw [← Gs.out]; exact hB); have HOwA := Lib.hid (ownm_below HOw2.out HBwA.out); clear hT hB)
          | (at_builtin; refine wpList_append_n rfl (.tmp 33) (.tmp 38) 35 rfl N 9 1 16 Try.underlying35 app9 (by decide) _ o.length (o.map encStr) (by rfl) HOwA.out (some ⟨G, 0, none⟩) 1 1 [encStr (at_ l q)] (by rfl) rfl (fun h => by cases h) (fun ad e j y hy => by injection e with e; subst e; rw [add_plain, cell_of_row wA G _ _ _ _ HTwA.out, Nat.zero_add]; simpa using hy) (fun y hy => by rw [List.mem_singleton.1 hy]; rfl) (by unfold maxLen; (try simp only [List.length_append, List.length_singleton]); omega) (by (try simp only [List.length_append, List.length_singleton]); omega) (Nat.le_trans HNW2.out HBwA.out.size) ?_
             intro v' wB hown hgr _
             have HOwB := Lib.hid (TX.more hown)
             have HBwB := Lib.hid (below_more HBw2.out HBwA.out hgr HNW2.out (fun k e => ownm_ge HOwA.out k e))
             obtain ⟨AwB, cwB, rfl⟩ := own_shape hown
             clear hown hgr))
        go_roundw
        case rel => exact ⟨q + 1, rfl, by omega, by rw [HNX.out, HST.out], by rw [HNX.out, HST.out]; exact HOwB.out, HBwB.out⟩
        case measure => simp [intOf]; omega
      · have hne : s ≠ at_ l q := fun e => by rw [← e] at hc; exact List.lt_irrefl _ hc
        have HST := Lib.hid (show stepP s (o, d) (at_ l q) = (o ++ [at_ l q], d) from by simp [stepP, hne, List.lt_asymm hc])
        rw [cmpS_gt hc]
        clear hc hne
        go_wp2_with (first
          | (refine wpList_build35 rfl _ rfl (at_ l q) rfl ?_; rw [← Gs.out]; intro wA hT hB; have HTwA := Lib.hid hT; have HBwA := Lib.hid (show Below w2.heap.size w2 wA from by rw [← Gs.out]; exact hB); have HOwA := Lib.hid (ownm_below HOw2.out HBwA.out); clear hT hB)
          | (at_builtin; refine wpList_append_n rfl (.tmp 33) (.tmp 38) 35 rfl N 9 1 16 Try.underlying35 app9 (by decide) _ o.length (o.map encStr) (by rfl) HOwA.out (some ⟨G, 0, none⟩) 1 1 [encStr (at_ l q)] (by rfl) rfl (fun h => by cases h) (fun ad e j y hy => by injection e with e; subst e; rw [add_plain, cell_of_row wA G _ _ _ _ HTwA.out, Nat.zero_add]; simpa using hy) (fun y hy => by rw [List.mem_singleton.1 hy]; rfl) (by unfold maxLen; (try simp only [List.length_append, List.length_singleton]); omega) (by (try simp only [List.length_append, List.length_singleton]); omega) (Nat.le_trans HNW2.out HBwA.out.size) ?_
             intro v' wB hown hgr _
             have HOwB := Lib.hid (TX.more hown)
             have HBwB := Lib.hid (below_more HBw2.out HBwA.out hgr HNW2.out (fun k e => ownm_ge HOwA.out k e))
             obtain ⟨AwB, cwB, rfl⟩ := own_shape hown
             clear hown hgr))
        go_roundw
        case rel => exact ⟨q + 1, rfl, by omega, by rw [HNX.out, HST.out], by rw [HNX.out, HST.out]; exact HOwB.out, HBwB.out⟩
        case measure => simp [intOf]; omega
end Go.Proofs.Ytncjgfhipflokaa
