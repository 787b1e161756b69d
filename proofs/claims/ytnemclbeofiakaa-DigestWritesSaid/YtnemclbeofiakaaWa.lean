/-
  Words on slices of bytes; Grow, Concat, Clone.
-/
import Derived.Test.YtnemclbeofiakaaRows
import Derived.Test.YtnemclbeofiakaaReg3
import Derived.WalkKit
import Derived.ProofKit
import Derived.WalkLawsBesides
import Derived.WalkSpells
import Derived.BigQuiet
import Derived.Deep.QuietTactic
import Derived.Lib.Hide
import Derived.Lib.ConvBytes
import Derived.Lib.SlBytesConst
import Derived.Lib.BufferRead
import Derived.Lib.SmallJoins
namespace Go.Proofs.Ytnemclbeofiakaa
open Go.RowKit

theorem SBB.shape {w : World} {v : Value} {L : List (List UInt8)} (h : SBB w v L) : ∃ A c, v = .slice A L.length c ∧ SBB w (.slice A L.length c) L ∧ L.length ≤ 140737488355328 := by
  have h0 := h
  obtain ⟨A, c, rfl, h1, h2, _⟩ := h
  exact ⟨A, c, rfl, h0, h2⟩
theorem SBB.at_ {w : World} {A : Option Addr} {c : Nat} {L : List (List UInt8)} (h : SBB w (.slice A L.length c) L) (k : Nat) (hk : k < L.length) :
    ∃ b o A2 c2, A = some ⟨b, o, none⟩ ∧ w.cell? ⟨b, o + k, none⟩ = some (.slice A2 L[k].length c2) ∧ SB w (.slice A2 L[k].length c2) L[k] ∧ L[k].length ≤ 140737488355328 := by
  obtain ⟨A', c', e, _, _, h'⟩ := h
  injection e with e1 e2 e3
  subst e1
  obtain ⟨b, o, rfl, hc⟩ := h'.resolve_left (by intro h; subst h; simp at hk)
  obtain ⟨u, hu, hs⟩ := hc k hk
  obtain ⟨A2, c2, rfl, h3, h4⟩ := hs.shape
  exact ⟨b, o, A2, c2, rfl, hu, h3, h4⟩
theorem SB.at_ {w : World} {A : Option Addr} {c : Nat} {bs : List UInt8} (h : SB w (.slice A bs.length c) bs) (k : Nat) (hk : k < bs.length) :
    ∃ b o, A = some ⟨b, o, none⟩ ∧ w.cell? ⟨b, o + k, none⟩ = some (.int .u8 ((bs[k]).toNat : Int)) := by
  obtain ⟨A', c', e, _, _, h'⟩ := h
  injection e with e1 e2 e3
  subst e1
  obtain ⟨b, o, rfl, hc⟩ := h'.resolve_left (by intro h; subst h; simp at hk)
  exact ⟨b, o, rfl, hc k hk⟩

theorem take_flat_succ {α : Type} (L : List (List α)) (i : Nat) (h : i < L.length) : (L.take (i + 1)).flatten = (L.take i).flatten ++ L[i] := by
  rw [List.take_succ_eq_append_getElem h, List.flatten_append]; simp
theorem take_snoc {α : Type} (l : List α) (i : Nat) (h : i < l.length) : l.take (i + 1) = l.take i ++ [l[i]] := List.take_succ_eq_append_getElem h
theorem SB_of_block {w : World} {g : Nat} {bs : List UInt8} {t : TypeId} {fr : Nat × Nat} (h : w.heap[g]? = some (.cells (bytesV bs).toArray t fr)) (hl : bs.length ≤ 140737488355328) : SB w (.slice (some ⟨g, 0, none⟩) bs.length bs.length) bs :=
  ⟨_, _, rfl, Nat.le_refl _, hl, .inr ⟨g, 0, rfl, fun i hi => by rw [Nat.zero_add, cell_of_row w g i _ t fr h]; simp [bytesV, hi]⟩⟩
section
variable {P : Program} (w : World)
theorem run_append_zeros (t k ty e : TypeId) (i : TypeInfo) (z : Value) (ht : P.underlying t = some (.slice e)) (hk : P.underlying k = some (.int .i64)) (hi : P.info? e = some i) (hz : i.zero = some z)
    (hsize : i.size = 1) (hby : i.bytes = 1) (n : Nat) (h0 : 0 < n) (hn : n ≤ 140737488355328) :
    (Builtin.append_ #[t, k] ty #[.slice none 0 0, .int .i64 (n : Int)]).run P w =
      .ok (.slice (some ⟨w.heap.size, 0, none⟩) n (grownCap w n 0 e)) (w.drew.alloc (.cells (Builtin.zeroCells z.cells n ++ Builtin.zeroCells z.cells (grownCap w n 0 e - n)) e)) := by
  have h1 : IntKind.i64.wrap (n : Int) = n := IntWalk.i64_in _ (by omega)
  have h2 : ¬ ((n : Int) < 0) := by omega
  have h3 : ¬ (281474976710656 < (n : Int) * 1) := by omega
  have h4 : ¬ (n = 0) := by omega
  have h5 : ¬ (9223372036854775807 < (n : Int)) := by omega
  have h6 : ¬ (281474976710656 < Builtin.nextslicecap n 0) := by rw [nextslicecap_zero h0]; omega
  simp [Builtin.append_, run_underlying ht, run_underlying hk, sizeOf, typeInfo, zeroValue, hi, hz, hsize, hby, asInt, asIntOf, h1, h2, h4, h5, h6, Question.forced, run_firstCells_none, newRow, grownCap]
  omega
end
section
variable {P : Program} {ops : Array Oper} {rest : List Oper} {o : Oper} {a : Act} {w : World} {Q : Exit → Act → World → Prop}
theorem wpList_append_zeros (hgd : o.guard = none) (s x : Operand) (t k e : TypeId) (ho : o.op = .call { callee := .builtin .append, args := #[s, x], argTypes := #[t, k] }) (i : TypeInfo) (z : Value) (ht : P.underlying t = some (.slice e)) (hk : P.underlying k = some (.int .i64)) (hi : P.info? e = some i) (hz : i.zero = some z)
    (hsize : i.size = 1) (hby : i.bytes = 1) (hzs : z.cells.size = 1) (n : Nat) (h0 : 0 < n) (hn : n ≤ 140737488355328) (hs : a.eval s = .slice none 0 0) (hx : a.eval x = .int .i64 (n : Int))
    (h : ∀ cap cs w', w'.heap[w.heap.size]? = some (.cells cs e (0, 0)) → cs.size = cap → n ≤ cap → cap ≤ maxLen → w'.heap.size = w.heap.size + 1 → w.grownBy w' none → wpList P ops Q rest (a.put o.dst (.slice (some ⟨w.heap.size, 0, none⟩) n cap)) w') : wpList P ops Q (o :: rest) a w := by
  refine wpList_plain hgd fun K hK => ?_
  unfold Oper.wp execOp
  simp only [ho, resolve, invoke, builtin, Sem.run_bind, Sem.run_pure, Result.andThen_ok, List.map_toArray, List.map_cons, List.map_nil, hs, hx, run_append_zeros w t k o.type e i z ht hk hi hz hsize hby n h0 hn]
  have hc := grownCap_ge w n 0 e
  refine hK _ _ (h _ _ _ (heap_alloc_new w.drew _) ?_ hc (grownCap_le_maxLen w n 0 e (by unfold maxLen; omega)) (by simp) (grown_alloc (grown_drew (grown_refl w none)) _))
  rw [Array.size_append, size_zeroCells, size_zeroCells, hzs]
  omega
end
theorem info5 : (Try.prog.info? 5).map (fun i => (i.zero, i.size, i.bytes)) = some (some (.int .u8 0), 1, 1) := by kernel_rfl
theorem info24 : (Try.prog.info? 24).map (fun i => (i.zero, i.size, i.bytes)) = some (some (.slice none 0 0), 1, 24) := by kernel_rfl

theorem Grow_zero (w : World) :
    Calls Try.prog 32 #[.slice none 0 0, .int .i64 0] w fun e w' => e = .returned (.slice none 0 0) ∧ w = w' := by
  go_enter Try.func32, Try.ntmps32
  go_wp2
  go_ret
  exact ⟨rfl, rfl⟩
theorem Grow_some (n : Nat) (h0 : 0 < n) (hn : n ≤ 140737488355328) (w : World) :
    Calls Try.prog 32 #[.slice none 0 0, .int .i64 (n : Int)] w fun e w' => ∃ cap, e = .returned (.slice (some ⟨w.heap.size, 0, none⟩) 0 cap) ∧ w'.ownsRow w.heap.size 5 1 (.slice (some ⟨w.heap.size, 0, none⟩) 0 cap) 0 [] ∧ Below w.heap.size w w' := by
  obtain ⟨i0, hi0, hz0, hz1, hz2⟩ := info_parts info5
  go_enter Try.func32, Try.ntmps32
  go_wp2_with (refine wpList_append_zeros rfl (.tmp 20) (.tmp 21) 24 3 5 rfl i0 (.int .u8 0) Try.underlying24 Try.underlying3 hi0 hz0 hz1 hz2 rfl n h0 hn rfl rfl ?_; intro cap cs w' hb hcs hnc hcm hsz hg; have hcap : 0 < cap := by omega)
  go_ret
  exact ⟨cap, rfl, ⟨by simp, .inr ⟨_, cap, cs, rfl, Nat.le_refl _, hb, by omega, hcm, by omega, by simp⟩⟩, below_of_grown hg⟩
theorem Grow_any (n : Nat) (hn : n ≤ 140737488355328) (w : World) :
    Calls Try.prog 32 #[.slice none 0 0, .int .i64 (n : Int)] w fun e w' => ∃ A cap, e = .returned (.slice A 0 cap) ∧ w'.ownsRow w.heap.size 5 1 (.slice A 0 cap) 0 [] ∧ Below w.heap.size w w' := by
  rcases Nat.eq_zero_or_pos n with h0 | h0
  · subst h0
    refine (Grow_zero w).mono ?_
    rintro e w' ⟨rfl, rfl⟩
    exact ⟨none, 0, rfl, World.ownsRow_nil _ _ _ _, Below.refl _ _⟩
  · refine (Grow_some n h0 hn w).mono ?_
    rintro e w' ⟨cap, rfl, h1, h2⟩
    exact ⟨_, cap, rfl, h1, h2⟩

theorem flat_len_succ (L : List (List UInt8)) (k : Nat) (h : k < L.length) : (L.take (k + 1)).flatten.length = (L.take k).flatten.length + L[k].length := by
  rw [take_flat_succ L k h, List.length_append]
theorem flat_len_le (L : List (List UInt8)) (k : Nat) : (L.take k).flatten.length ≤ L.flatten.length := by
  conv => rhs; rw [← List.take_append_drop k L, List.flatten_append, List.length_append]
  exact Nat.le_add_right _ _

set_option maxHeartbeats 800000 in
theorem Concat_any (v : Value) (L : List (List UInt8)) (w : World) (hv : SBB w v L) (hb : L.flatten.length ≤ 140737488355328) :
    Calls Try.prog 22 #[v] w fun e w' => ∃ v', e = .returned v' ∧ w'.ownsRow w.heap.size 5 1 v' L.flatten.length (bytesV L.flatten) ∧ Below w.heap.size w w' := by
  obtain ⟨i0, hi0, hz0, hz1, hz2⟩ := info_parts info5
  have HI0 := Lib.hid hi0
  have HZ0 := Lib.hid hz0
  have HZ1 := Lib.hid hz1
  have HZ2 := Lib.hid hz2
  clear hi0 hz0 hz1 hz2
  obtain ⟨A, c, rfl, hv, hm⟩ := hv.shape
  have HV := Lib.hid hv
  clear hv
  go_enter Try.func22, Try.ntmps22
  go_wp2
  go_loop [3, 11] (fun n i => ∃ k : Nat, k ≤ L.length ∧ i = .int .i64 k ∧ n = .int .i64 ((L.take k).flatten.length : Nat)) (fun _ i => (L.length - (intOf i).toNat))
  case atStart => exact ⟨0, by omega, rfl, by simp⟩
  case round =>
    obtain ⟨k, hk, rfl, rfl⟩ := hrel
    by_cases hlt : k < L.length
    · obtain ⟨b, o, A2, c2, rfl, hcell, _, hl2⟩ := HV.out.at_ k hlt
      have HT := Lib.hid (flat_len_succ L k hlt)
      have hle := flat_len_le L (k + 1)
      rw [HT.out] at hle
      generalize (L.take k).flatten.length = T at *
      generalize L[k].length = m at *
      have hd : decide ((T : Int) + (m : Int) < 0) = false := by simp; omega
      go_wp2
      go_round
      case rel => exact ⟨k + 1, by omega, by go_num, by rw [HT.out]; go_num⟩
      case measure => simp [intOf]; omega
    · have HM : Hid (k = L.length) := by have : k = L.length := by omega
                                         exact this
      have hle := flat_len_le L k
      have HF : Hid ((L.take k).flatten.length = L.flatten.length) := by rw [HM.out, List.take_length]; exact rfl
      generalize (L.take k).flatten.length = T at *
      go_wp2_with (first | ((with_reducible refine (Grow_any _ (by omega) _).mono ?_); rintro e w1 ⟨A1, cap1, rfl, hown1, hbel1⟩))
      have HO := Lib.hid hown1
      have HB := Lib.hid hbel1
      clear hown1 hbel1
      go_loopw [6, 27] (fun s i wr => ∃ k : Nat, k ≤ L.length ∧ i = .int .i64 k ∧ wr.ownsRow w.heap.size 5 1 s (L.take k).flatten.length (bytesV (L.take k).flatten) ∧ Below w.heap.size w wr) (fun _ i _ => (L.length - (intOf i).toNat))
      case atStart => exact ⟨0, by omega, rfl, by simpa [bytesV] using HO.out, HB.out⟩
      case round =>
        obtain ⟨k2, hk2, rfl, hown, hbel⟩ := hrel
        have HO2 := Lib.hid hown
        have HB2 := Lib.hid hbel
        clear hown hbel
        by_cases hlt2 : k2 < L.length
        · obtain ⟨b, o, A2, c2, rfl, hcell, hsb, hl2⟩ := HV.out.at_ k2 hlt2
          have hcell2 := cell_below HB2.out hcell
          have HS := Lib.hid (hsb.below HB2.out)
          have HT := Lib.hid (take_flat_succ L k2 hlt2)
          have HT2 := Lib.hid (flat_len_succ L k2 hlt2)
          have HLE := Lib.hid (flat_len_le L (k2 + 1))
          clear hcell hsb
          generalize L[k2] = bs at *
          go_wp2_with (first | (refine wpList_append_src _ rfl (.tmp 31) (.tmp 32) 24 rfl w.heap.size 5 i0 (.int .u8 0) 1 Try.underlying24 HI0.out HZ0.out HZ1.out HZ2.out rfl _ _ _ rfl HO2.out A2 bs.length c2 (bytesV bs) rfl (bytesV_length bs) HS.out.isNil HS.out.cells (bytesV_one bs) (by have := HLE.out; have := HT2.out; unfold maxLen; omega) (by have := HLE.out; have := HT2.out; omega) HB2.out.size ?_; intro v3 w3 hown3 hg3 hat3))
          have HO3 := Lib.hid hown3
          have HB3 := Lib.hid (HB2.out.grown hg3 HB2.out.size (fun k hk => (HO2.out.lt k hk).1))
          clear hown3 hg3 hat3
          go_wp2
          go_roundw
          case rel => exact ⟨k2 + 1, by omega, by go_num, by rw [HT2.out, HT.out, bytesV_append]; exact HO3.out, HB3.out⟩
          case measure => simp [intOf]; omega
        · have HM2 : Hid (k2 = L.length) := by have : k2 = L.length := by omega
                                               exact this
          go_wp2
          go_ret
          refine ⟨_, rfl, ?_, HB2.out⟩
          have h := HO2.out
          rw [HM2.out, List.take_length] at h
          exact h
theorem Clone_any (v : Value) (bs : List UInt8) (w : World) (hv : SB w v bs) :
    Calls Try.prog 23 #[v] w fun e w' => ∃ v', e = .returned v' ∧ w'.ownsRow w.heap.size 5 1 v' bs.length (bytesV bs) ∧ Below w.heap.size w w' := by
  obtain ⟨i0, hi0, hz0, hz1, hz2⟩ := info_parts info5
  obtain ⟨A, c, rfl, hv, hm⟩ := hv.shape
  have HV := Lib.hid hv
  clear hv
  have hown0 : (w.alloc (.cells #[] 5)).ownsRow w.heap.size 5 1 (.slice (some ⟨w.heap.size, 0, none⟩) 0 0) 0 [] := World.ownsRow_made w #[] 0 (Nat.le_refl _) (by unfold maxLen; omega) (by simp)
  have HO := Lib.hid hown0
  clear hown0
  have q25 : ∀ (w : World) (a : Option Addr) (n c n' c' : Nat), (binOp .eql 24 (.slice a n c) (.slice none n' c')).run Try.prog w = .ok (.bool a.isNone) w := fun w a n c n' c' => Lib.run_eql_slice_nil w 24 5 a n c n' c' Try.underlying24
  cases A with
  | none =>
    have hz := HV.out.isNil rfl
    have hbs : bs = [] := List.eq_nil_of_length_eq_zero hz
    subst hbs
    go_enter Try.func23, Try.ntmps23
    go_wp2
    go_ret
    exact ⟨_, rfl, World.ownsRow_nil _ _ _ _, Below.refl _ _⟩
  | some ad =>
    have HS := Lib.hid (HV.out.below (below_alloc1 w (.cells #[] 5)))
    go_enter Try.func23, Try.ntmps23
    go_wp2_with (first | (refine wpList_append_src _ rfl (.tmp 5) (.tmp 6) 24 rfl w.heap.size 5 i0 (.int .u8 0) 1 Try.underlying24 hi0 hz0 hz1 hz2 rfl _ _ _ rfl HO.out (some ad) bs.length c (bytesV bs) rfl (bytesV_length bs) HS.out.isNil HS.out.cells (bytesV_one bs) (by unfold maxLen; omega) (by omega) (by simp) ?_; intro v3 w3 hown3 hg3 hat3))
    go_ret
    refine ⟨_, rfl, ?_, (below_alloc1 w _).grown hg3 (by simp) (fun k hk => Nat.le_of_eq (Option.some.inj hk))⟩
    simpa using hown3
theorem conv_str (w : World) (v : Value) (bs : List UInt8) (h : SB w v bs) : (convert 24 9 v).run Try.prog w = .ok (.string ⟨bs.toArray⟩) w := by
  obtain ⟨A, c, rfl, h1, _⟩ := h.shape
  cases A with
  | none =>
    have := h1.isNil rfl
    have hb : bs = [] := List.eq_nil_of_length_eq_zero this
    subst hb
    exact Lib.run_convert_nil_bytes w 24 9 5 c Try.underlying24 Try.underlying5 Try.underlying9
  | some ad =>
    refine run_convert_bytes_back w 24 9 5 ad c bs Try.underlying24 Try.underlying5 Try.underlying9 (fun j hj => ?_)
    exact h1.cells ad rfl j _ (by simp [bytesV, hj])

theorem SBB_two {w : World} {g : Nat} {u v : Value} {a b : List UInt8} {t : TypeId} {fr : Nat × Nat} (h : w.heap[g]? = some (.cells #[u, v] t fr)) (hu : SB w u a) (hv : SB w v b) : SBB w (.slice (some ⟨g, 0, none⟩) 2 2) [a, b] := by
  refine ⟨_, _, rfl, Nat.le_refl _, by simp, .inr ⟨g, 0, rfl, fun i hi => ?_⟩⟩
  match i, hi with
  | 0, _ => exact ⟨u, cell_of_row w g _ _ _ _ h, hu⟩
  | 1, _ => exact ⟨v, cell_of_row w g _ _ _ _ h, hv⟩
theorem SBB_one {w : World} {g : Nat} {u : Value} {a : List UInt8} {t : TypeId} {fr : Nat × Nat} (h : w.heap[g]? = some (.cells #[u] t fr)) (hu : SB w u a) : SBB w (.slice (some ⟨g, 0, none⟩) 1 1) [a] := by
  refine ⟨_, _, rfl, Nat.le_refl _, by simp, .inr ⟨g, 0, rfl, fun i hi => ?_⟩⟩
  match i, hi with
  | 0, _ => exact ⟨u, cell_of_row w g _ _ _ _ h, hu⟩
theorem SB.cap {w : World} {A : Option Addr} {n c : Nat} {bs : List UInt8} (h : SB w (.slice A n c) bs) : n = bs.length ∧ n ≤ c := by
  obtain ⟨A', c', e, h1, _⟩ := h
  injection e with e1 e2 e3
  subst e2; subst e3
  exact ⟨rfl, h1⟩
end Go.Proofs.Ytnemclbeofiakaa
