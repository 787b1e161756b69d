/-
  What reads as texts; operations on texts; tidewrackref17.Same.
-/
import Derived.Test.YtncjgfhipflokaaSk
namespace Go.Proofs.Ytncjgfhipflokaa
open Go.RowKit Go.Shelf Hp Go.Maps

/-- v reads as texts -/
def RT (w : World) (v : Value) (l : List S) : Prop := ∃ A c, v = .slice A l.length c ∧ l.length ≤ maxLen ∧ (l.length = 0 ∨ ∃ b o, A = some ⟨b, o, none⟩ ∧ ∀ k, k < l.length → w.cell? ⟨b, o + k, none⟩ = some (encStr (at_ l k)))
theorem RT.below {w w' : World} {v : Value} {l : List S} (h : RT w v l) (hb : Below w.heap.size w w') : RT w' v l := by
  obtain ⟨A, c, h1, h2, h3⟩ := h
  refine ⟨A, c, h1, h2, h3.imp _root_.id ?_⟩
  rintro ⟨b, o, h4, h5⟩
  refine ⟨b, o, h4, fun k hk => ?_⟩
  have h6 := h5 k hk
  exact (hb.cell (cell_lt h6)).trans h6
theorem TX.rt {w : World} {B : Nat} {v : Value} {l : List S} (h : TX w B v l) : RT w v l := by
  rcases Nat.eq_zero_or_pos l.length with h0 | h0
  · obtain ⟨A, c, rfl⟩ := h.shape
    exact ⟨A, c, rfl, by omega, .inl h0⟩
  · obtain ⟨g, c, cur, rfl, _, _, h1, h2, _, _, h3⟩ := h.at_ h0
    exact ⟨_, c, rfl, by omega, .inr ⟨g, 0, rfl, fun k hk => by rw [Nat.zero_add]; exact h3 k hk⟩⟩
theorem SS.rt {B0 : Nat} {w : World} {v : Value} {l : List S} (h : SS B0 w v l) : RT w v l := by
  obtain ⟨A, c, rfl, h1, h2, _, h4⟩ := h
  refine ⟨A, c, rfl, by omega, h4.imp _root_.id ?_⟩
  rintro ⟨b, o, rfl, h5⟩
  refine ⟨b, o, rfl, fun k hk => ?_⟩
  obtain ⟨cs, _, hc, rfl⟩ := h5 k hk
  have := hc.2 0 _ rfl
  simpa using this

section
variable {Q : Exit → Act → World → Prop} {o : Oper} {a : Act} {w : World} {K : Act → World → Prop}
theorem ow_neq_str (x y : Operand) (t : TypeId) (ho : o.op = .binOp .neq 9 x y t) (s u : S) (hx : a.eval x = encStr s) (hy : a.eval y = encStr u) (h : K (a.put o.dst (.bool (!(s == u)))) w) : o.wp Try.prog a w K Q := by
  refine ow_value (v := .bool (!(s == u))) ?_ h
  unfold execOp
  simp only [ho, hx, hy]
  simp [go_sem]
theorem ow_eql_str (x y : Operand) (t : TypeId) (ho : o.op = .binOp .eql 9 x y t) (s u : S) (hx : a.eval x = encStr s) (hy : a.eval y = encStr u) (h : K (a.put o.dst (.bool (s == u))) w) : o.wp Try.prog a w K Q := by
  refine ow_value (v := .bool (s == u)) ?_ h
  unfold execOp
  simp only [ho, hx, hy]
  simp [go_sem]
theorem ow_geq_str (x y : Operand) (t : TypeId) (ho : o.op = .binOp .geq 9 x y t) (s u : S) (hx : a.eval x = encStr s) (hy : a.eval y = encStr u) (h : K (a.put o.dst (.bool (!decide (s < u)))) w) : o.wp Try.prog a w K Q := by
  refine ow_value (v := .bool (!decide (s < u))) ?_ h
  unfold execOp
  simp only [ho, hx, hy]
  simp [go_sem, bytesLess_eq]
theorem ow_len35 (x : Operand) (ho : o.op = .call { callee := .builtin .len, args := #[x], argTypes := #[35] }) {A : Option Addr} {n c : Nat} (hx : a.eval x = .slice A n c) (h : K (a.put o.dst (.int .i64 (n : Int))) w) : o.wp Try.prog a w K Q := by
  refine ow_value (v := .int .i64 (n : Int)) ?_ h
  unfold execOp
  simp only [ho, resolve, invoke, builtin, Sem.run_bind, Sem.run_pure, Result.andThen_ok, List.map_toArray, List.map_cons, List.map_nil, hx]
  simp [Builtin.len_, run_underlying Try.underlying35, goInt]
end
theorem below_cell {w W : World} {b j : Nat} {v : Value} (hb : Below w.heap.size w W) (h : w.cell? ⟨b, j, none⟩ = some v) : W.cell? ⟨b, j, none⟩ = some v := (hb.cell (cell_lt h)).trans h
theorem take_at {l l' : List S} {k : Nat} (h : l.take k = l'.take k) (hk : k < l.length) (hk' : k < l'.length) (he : at_ l k = at_ l' k) : l.take (k + 1) = l'.take (k + 1) := by
  rw [← List.take_append_getElem hk, ← List.take_append_getElem hk', h, ← at_get hk, ← at_get hk', he]

set_option maxHeartbeats 1000000 in
set_option maxRecDepth 4000 in
theorem Same_any (va vb : Value) (l l' : List S) (w : World) (ha : RT w va l) (hb : RT w vb l') :
    Calls Try.prog 13 #[va, vb] w fun e w' => e = .returned (.bool (decide (l = l'))) ∧ Below w.heap.size w w' := by
  obtain ⟨A, ca, rfl, hla, hra⟩ := ha
  obtain ⟨B, cb, rfl, hlb, hrb⟩ := hb
  have HRA := Lib.hid hra
  have HRB := Lib.hid hrb
  have hl1 : l.length ≤ 9223372036854775807 := hla
  clear hra hrb hla hlb
  by_cases hlen : l.length = l'.length
  · have HLEN := Lib.hid hlen
    have hq : ((l.length : Int) != (l'.length : Int)) = false := by rw [hlen]; simp
    clear hlen
    go_enter Try.func13, Try.ntmps13
    go_wp2_with fail
    go_loopw [5] (fun i wr => ∃ k : Nat, k ≤ l.length ∧ i = .int .i64 (k : Int) ∧ Below w.heap.size w wr ∧ l.take k = l'.take k) (fun i _ => l.length - (intOf i).toNat)
    case atStart => exact ⟨0, Nat.zero_le _, rfl, Below.refl _ _, rfl⟩
    case round =>
      clear hq
      obtain ⟨k, hk, rfl, hbe, htk⟩ := hrel
      have HBE := Lib.hid hbe
      have HTK := Lib.hid htk
      clear hbe htk
      rcases (show k = l.length ∨ k < l.length by omega) with rfl | hlt
      · have hd : decide ((l.length : Int) < (l.length : Int)) = false := by simp
        go_wp2_with fail
        go_ret
        have h1 := HTK.out
        rw [List.take_length, HLEN.out, List.take_length] at h1
        exact ⟨by rw [decide_eq_true h1]; rfl, HBE.out⟩
      · have hd : decide ((k : Int) < (l.length : Int)) = true := by simp; omega
        have hd' : decide (k < l.length) = true := by simp; omega
        have hka : k < l.length := hlt
        have hkb : k < l'.length := by have := HLEN.out; omega
        obtain ⟨ba, oa, rfl, hca⟩ := HRA.out.resolve_left (by omega)
        obtain ⟨bb, ob, rfl, hcb⟩ := HRB.out.resolve_left (by omega)
        have HA := Lib.hid (fun k hk => below_cell HBE.out (hca k hk))
        have HB := Lib.hid (fun k hk => below_cell HBE.out (hcb k hk))
        clear hca hcb HRA HRB
        go_upto_region 6 with fail
        refine region_f 9 (fun i vs W => match i with
            | 0 => vs 0 = .slice (some ⟨ba, oa, none⟩) l.length ca
            | 1 => vs 1 = .int .i64 (k : Int)
            | 2 => vs 2 = .pointer (some ⟨ba, oa + k, none⟩)
            | 3 => vs 3 = encStr (at_ l k)
            | 4 => vs 4 = .slice (some ⟨bb, ob, none⟩) l'.length cb
            | 5 => vs 5 = .int .i64 (k : Int)
            | 6 => vs 6 = .pointer (some ⟨bb, ob + k, none⟩)
            | 7 => vs 7 = encStr (at_ l' k)
            | 8 => vs 8 = .bool (!(at_ l k == at_ l' k))
            | _ => True) (fun _ W W' => Below W.heap.size W W') (fun W => Below wr.heap.size wr W) (by kernel_rfl) (by kernel_rfl) ?hstr ?h0r ?stepr ?finr
        case hstr =>
          intro i k vs W W' _ _ h hG
          match i, h with
          | 0, h => exact h
          | 1, h => exact h
          | 2, h => exact h
          | 3, h => exact h
          | 4, h => exact h
          | 5, h => exact h
          | 6, h => exact h
          | 7, h => exact h
          | 8, h => exact h
          | n + 9, _ => trivial
        case h0r => exact (Below.refl _ _).drew
        case stepr =>
          intro i op hi ho ac W hS hag hdep
          have hbr : Below W.heap.size W W := Below.refl _ _
          match i, hi, ho with
          | 0, _, rfl =>
            exact ow_move _ rfl (v := .slice (some ⟨ba, oa, none⟩) l.length ca) (hag 0 rfl) ⟨_, rfl, fun vs' h _ => h (fun e => by cases e), hbr, hS⟩
          | 1, _, rfl =>
            exact ow_move _ rfl (v := .int .i64 (k : Int)) (hag 5 rfl) ⟨_, rfl, fun vs' h _ => h (fun e => by cases e), hbr, hS⟩
          | 2, _, rfl =>
            have h0 : ac.eval (.tmp 17) = .slice (some ⟨ba, oa, none⟩) l.length ca := hdep 0 (by omega) (by kernel_rfl)
            have h1 : ac.eval (.tmp 18) = .int .i64 (k : Int) := hdep 1 (by omega) (by kernel_rfl)
            exact ow_index _ _ 9 35 rfl ba oa l.length ca k h0 h1 hka Try.underlying35 tag9 ⟨_, rfl, fun vs' h _ => h (fun e => by cases e), hbr, hS⟩
          | 3, _, rfl =>
            have h2 : ac.eval (.tmp 19) = .pointer (some ⟨ba, oa + k, none⟩) := hdep 2 (by omega) (by kernel_rfl)
            exact ow_load_str _ 9 rfl ba (oa + k) h2 _ (below_cell hS (HA.out k hka)) Try.underlying9 ⟨_, rfl, fun vs' h _ => h (fun e => by cases e), hbr, hS⟩
          | 4, _, rfl =>
            exact ow_move _ rfl (v := .slice (some ⟨bb, ob, none⟩) l'.length cb) (hag 1 rfl) ⟨_, rfl, fun vs' h _ => h (fun e => by cases e), hbr, hS⟩
          | 5, _, rfl =>
            exact ow_move _ rfl (v := .int .i64 (k : Int)) (hag 5 rfl) ⟨_, rfl, fun vs' h _ => h (fun e => by cases e), hbr, hS⟩
          | 6, _, rfl =>
            have h4 : ac.eval (.tmp 21) = .slice (some ⟨bb, ob, none⟩) l'.length cb := hdep 4 (by omega) (by kernel_rfl)
            have h5 : ac.eval (.tmp 22) = .int .i64 (k : Int) := hdep 5 (by omega) (by kernel_rfl)
            exact ow_index _ _ 9 35 rfl bb ob l'.length cb k h4 h5 hkb Try.underlying35 tag9 ⟨_, rfl, fun vs' h _ => h (fun e => by cases e), hbr, hS⟩
          | 7, _, rfl =>
            have h6 : ac.eval (.tmp 23) = .pointer (some ⟨bb, ob + k, none⟩) := hdep 6 (by omega) (by kernel_rfl)
            exact ow_load_str _ 9 rfl bb (ob + k) h6 _ (below_cell hS (HB.out k hkb)) Try.underlying9 ⟨_, rfl, fun vs' h _ => h (fun e => by cases e), hbr, hS⟩
          | 8, _, rfl =>
            have h3 : ac.eval (.tmp 20) = encStr (at_ l k) := hdep 3 (by omega) (by kernel_rfl)
            have h7 : ac.eval (.tmp 24) = encStr (at_ l' k) := hdep 7 (by omega) (by kernel_rfl)
            exact ow_neq_str _ _ _ rfl _ _ h3 h7 ⟨_, rfl, fun vs' h _ => h (fun e => by cases e), hbr, hS⟩
          | n + 9, hi, _ => exact absurd hi (by omega)
        case finr =>
          intro vs W hS hF
          have e8 : vs 8 = .bool (!(at_ l k == at_ l' k)) := hF 8 (by omega)
          clear hF
          change wpList _ _ _ _ (Act.put (Act.put (Act.put (Act.put (Act.put (Act.put (Act.put (Act.put (Act.put _ (some 17) (vs 0)) (some 18) (vs 1)) (some 19) (vs 2)) (some 20) (vs 3)) (some 21) (vs 4)) (some 22) (vs 5)) (some 23) (vs 6)) (some 24) (vs 7)) (some 25) (vs 8)) W
          rw [e8]
          clear e8
          generalize vs 0 = z0
          generalize vs 1 = z1
          generalize vs 2 = z2
          generalize vs 3 = z3
          generalize vs 4 = z4
          generalize vs 5 = z5
          generalize vs 6 = z6
          generalize vs 7 = z7
          simp only [putAll, List.drop_succ_cons, List.drop_zero, Act.put, List.setIfInBounds_toArray, List.set_cons_zero, List.set_cons_succ]
          clear vs
          have HW := Lib.hid (HBE.out.trans (hS.mono HBE.out.size))
          clear HA HB hS HBE
          by_cases heq : at_ l k = at_ l' k
          · have hn : (!(at_ l k == at_ l' k)) = false := by simp [heq]
            rw [hn]
            clear hn
            go_wp2_with fail
            go_roundw
            case rel => exact ⟨k + 1, by omega, rfl, HW.out, take_at HTK.out hka hkb heq⟩
            case measure => simp [intOf]; omega
          · have hn : (!(at_ l k == at_ l' k)) = true := by simp [heq]
            rw [hn]
            clear hn
            have hne : ¬ l = l' := fun e => heq (by rw [e])
            go_wp2_with fail
            go_ret
            exact ⟨by rw [decide_eq_false hne]; rfl, HW.out⟩
  · have hne : ¬ l = l' := fun e => hlen (by rw [e])
    have hq : ((l.length : Int) != (l'.length : Int)) = true := by simp; omega
    clear hlen
    go_enter Try.func13, Try.ntmps13
    go_wp2_with fail
    go_ret
    exact ⟨by rw [decide_eq_false hne]; rfl, Below.refl _ _⟩
end Go.Proofs.Ytncjgfhipflokaa
