import Derived.Test.YtlhdnloimgckgaaWd
namespace Go.Proofs.Ytlhdnloimgckgaa
open Go.RowKit

section
variable {P : Program} (w : World)
theorem run_append_zeros (t k ty e : TypeId) (i : TypeInfo) (z : Value) (ht : P.underlying t = some (.slice e)) (hk : P.underlying k = some (.int .i64)) (hi : P.info? e = some i) (hz : i.zero = some z)
    (hsize : i.size = 1) (hby : i.bytes = 1) (n : Nat) (h0 : 0 < n) (hn : n ≤ 140737488355328) :
    (Builtin.append_ #[t, k] ty #[.slice none 0 0, .int .i64 (n : Int)]).run P w =
      .ok (.slice (some ⟨w.heap.size, 0, none⟩) n (grownCap w n 0 e)) (w.drew.alloc (.cells (Builtin.zeroCells z.cells n ++ Builtin.zeroCells z.cells (grownCap w n 0 e - n)) e)) := by
  have h1 : IntKind.i64.wrap (n : Int) = n := IntWalk.i64_in _ (by omega)
  have h2 : ¬ ((n : Int) < 0) := by omega
  have h3 : ¬ (281474976710656 < (n : Int) * 1) := by omega
  have h4 : ¬ (n = 0) := by omega
  have h5 : ¬ (9223372036854775807 < (n : Int)) := by omega
  have h6 : ¬ (281474976710656 < Builtin.nextslicecap n 0) := by rw [nextslicecap_zero h0]; omega
  simp [Builtin.append_, run_underlying ht, run_underlying hk, sizeOf, typeInfo, zeroValue, hi, hz, hsize, hby, asInt, asIntOf, h1, h2, h4, h5, h6, Question.forced, run_firstCells_none, newRow, grownCap]
  omega
end
section
variable {P : Program} {ops : Array Oper} {rest : List Oper} {o : Oper} {a : Act} {w : World} {Q : Exit → Act → World → Prop}
theorem wpList_append_zeros (hgd : o.guard = none) (s x : Operand) (t k e : TypeId) (ho : o.op = .call { callee := .builtin .append, args := #[s, x], argTypes := #[t, k] }) (i : TypeInfo) (z : Value) (ht : P.underlying t = some (.slice e)) (hk : P.underlying k = some (.int .i64)) (hi : P.info? e = some i) (hz : i.zero = some z)
    (hsize : i.size = 1) (hby : i.bytes = 1) (hzs : z.cells.size = 1) (n : Nat) (h0 : 0 < n) (hn : n ≤ 140737488355328) (hs : a.eval s = .slice none 0 0) (hx : a.eval x = .int .i64 (n : Int))
    (h : ∀ cap cs w', w'.heap[w.heap.size]? = some (.cells cs e (0, 0)) → cs.size = cap → n ≤ cap → cap ≤ maxLen → w'.heap.size = w.heap.size + 1 → w.grownBy w' none → wpList P ops Q rest (a.put o.dst (.slice (some ⟨w.heap.size, 0, none⟩) n cap)) w') : wpList P ops Q (o :: rest) a w := by
  refine wpList_plain hgd fun K hK => ?_
  unfold Oper.wp execOp
  simp only [ho, resolve, invoke, builtin, Sem.run_bind, Sem.run_pure, Result.andThen_ok, List.map_toArray, List.map_cons, List.map_nil, hs, hx, run_append_zeros w t k o.type e i z ht hk hi hz hsize hby n h0 hn]
  have hc := grownCap_ge w n 0 e
  refine hK _ _ (h _ _ _ (heap_alloc_new w.drew _) ?_ hc (grownCap_le_maxLen w n 0 e (by unfold maxLen; omega)) (by simp) (grown_alloc (grown_drew (grown_refl w none)) _))
  rw [Array.size_append, size_zeroCells, size_zeroCells, hzs]
  omega
end
theorem info5 : (Try.prog.info? 5).map (fun i => (i.zero, i.size, i.bytes)) = some (some (.int .u8 0), 1, 1) := by kernel_rfl
theorem info25 : (Try.prog.info? 25).map (fun i => (i.zero, i.size, i.bytes)) = some (some (.slice none 0 0), 1, 24) := by kernel_rfl

theorem Grow_zero (w : World) :
    Calls Try.prog 33 #[.slice none 0 0, .int .i64 0] w fun e w' => e = .returned (.slice none 0 0) ∧ w = w' := by
  go_enter Try.func33, Try.ntmps33
  go_wp2
  go_ret
  exact ⟨rfl, rfl⟩
theorem Grow_some (n : Nat) (h0 : 0 < n) (hn : n ≤ 140737488355328) (w : World) :
    Calls Try.prog 33 #[.slice none 0 0, .int .i64 (n : Int)] w fun e w' => ∃ cap, e = .returned (.slice (some ⟨w.heap.size, 0, none⟩) 0 cap) ∧ w'.ownsRow w.heap.size 5 1 (.slice (some ⟨w.heap.size, 0, none⟩) 0 cap) 0 [] ∧ Below w.heap.size w w' := by
  obtain ⟨i0, hi0, hz0, hz1, hz2⟩ := info_parts info5
  go_enter Try.func33, Try.ntmps33
  go_wp2_with (refine wpList_append_zeros rfl (.tmp 20) (.tmp 21) 25 3 5 rfl i0 (.int .u8 0) Try.underlying25 Try.underlying3 hi0 hz0 hz1 hz2 rfl n h0 hn rfl rfl ?_; intro cap cs w' hb hcs hnc hcm hsz hg; have hcap : 0 < cap := by omega)
  go_ret
  exact ⟨cap, rfl, ⟨by simp, .inr ⟨_, cap, cs, rfl, Nat.le_refl _, hb, by omega, hcm, by omega, by simp⟩⟩, below_of_grown hg⟩
theorem Grow_any (n : Nat) (hn : n ≤ 140737488355328) (w : World) :
    Calls Try.prog 33 #[.slice none 0 0, .int .i64 (n : Int)] w fun e w' => ∃ A cap, e = .returned (.slice A 0 cap) ∧ w'.ownsRow w.heap.size 5 1 (.slice A 0 cap) 0 [] ∧ Below w.heap.size w w' := by
  rcases Nat.eq_zero_or_pos n with h0 | h0
  · subst h0
    refine (Grow_zero w).mono ?_
    rintro e w' ⟨rfl, rfl⟩
    exact ⟨none, 0, rfl, World.ownsRow_nil _ _ _ _, Below.refl _ _⟩
  · refine (Grow_some n h0 hn w).mono ?_
    rintro e w' ⟨cap, rfl, h1, h2⟩
    exact ⟨_, cap, rfl, h1, h2⟩

theorem flat_len_succ (L : List (List UInt8)) (k : Nat) (h : k < L.length) : (L.take (k + 1)).flatten.length = (L.take k).flatten.length + L[k].length := by
  rw [take_flat_succ L k h, List.length_append]
theorem flat_len_le (L : List (List UInt8)) (k : Nat) : (L.take k).flatten.length ≤ L.flatten.length := by
  conv => rhs; rw [← List.take_append_drop k L, List.flatten_append, List.length_append]
  exact Nat.le_add_right _ _

set_option maxHeartbeats 800000 in
theorem Concat_any (v : Value) (L : List (List UInt8)) (w : World) (hv : SBB w v L) (hb : L.flatten.length ≤ 140737488355328) :
    Calls Try.prog 27 #[v] w fun e w' => ∃ v', e = .returned v' ∧ w'.ownsRow w.heap.size 5 1 v' L.flatten.length (bytesV L.flatten) ∧ Below w.heap.size w w' := by
  obtain ⟨i0, hi0, hz0, hz1, hz2⟩ := info_parts info5
  have HI0 := Lib.hid hi0
  have HZ0 := Lib.hid hz0
  have HZ1 := Lib.hid hz1
  have HZ2 := Lib.hid hz2
  clear hi0 hz0 hz1 hz2
  obtain ⟨A, c, rfl, hv, hm⟩ := hv.shape
  have HV := Lib.hid hv
  clear hv
  go_enter Try.func27, Try.ntmps27
  go_wp2
  go_loop [3, 11] (fun n i => ∃ k : Nat, k ≤ L.length ∧ i = .int .i64 k ∧ n = .int .i64 ((L.take k).flatten.length : Nat)) (fun _ i => (L.length - (intOf i).toNat))
  case atStart => exact ⟨0, by omega, rfl, by simp⟩
  case round =>
    obtain ⟨k, hk, rfl, rfl⟩ := hrel
    by_cases hlt : k < L.length
    · obtain ⟨b, o, A2, c2, rfl, hcell, _, hl2⟩ := HV.out.at_ k hlt
      have HT := Lib.hid (flat_len_succ L k hlt)
      have hle := flat_len_le L (k + 1)
      rw [HT.out] at hle
      generalize (L.take k).flatten.length = T at *
      generalize L[k].length = m at *
      have hd : decide ((T : Int) + (m : Int) < 0) = false := by simp; omega
      go_wp2
      go_round
      case rel => exact ⟨k + 1, by omega, by go_num, by rw [HT.out]; go_num⟩
      case measure => simp [intOf]; omega
    · have HM : Hid (k = L.length) := by have : k = L.length := by omega
                                         exact this
      have hle := flat_len_le L k
      have HF : Hid ((L.take k).flatten.length = L.flatten.length) := by rw [HM.out, List.take_length]; exact rfl
      generalize (L.take k).flatten.length = T at *
      go_wp2_with (first | ((with_reducible refine (Grow_any _ (by omega) _).mono ?_); rintro e w1 ⟨A1, cap1, rfl, hown1, hbel1⟩))
      have HO := Lib.hid hown1
      have HB := Lib.hid hbel1
      clear hown1 hbel1
      go_loopw [6, 27] (fun s i wr => ∃ k : Nat, k ≤ L.length ∧ i = .int .i64 k ∧ wr.ownsRow w.heap.size 5 1 s (L.take k).flatten.length (bytesV (L.take k).flatten) ∧ Below w.heap.size w wr) (fun _ i _ => (L.length - (intOf i).toNat))
      case atStart => exact ⟨0, by omega, rfl, by simpa [bytesV] using HO.out, HB.out⟩
      case round =>
        obtain ⟨k2, hk2, rfl, hown, hbel⟩ := hrel
        have HO2 := Lib.hid hown
        have HB2 := Lib.hid hbel
        clear hown hbel
        by_cases hlt2 : k2 < L.length
        · obtain ⟨b, o, A2, c2, rfl, hcell, hsb, hl2⟩ := HV.out.at_ k2 hlt2
          have hcell2 := cell_below HB2.out hcell
          have HS := Lib.hid (hsb.below HB2.out)
          have HT := Lib.hid (take_flat_succ L k2 hlt2)
          have HT2 := Lib.hid (flat_len_succ L k2 hlt2)
          have HLE := Lib.hid (flat_len_le L (k2 + 1))
          clear hcell hsb
          generalize L[k2] = bs at *
          go_wp2_with (first | (refine wpList_append_src _ rfl (.tmp 31) (.tmp 32) 25 rfl w.heap.size 5 i0 (.int .u8 0) 1 Try.underlying25 HI0.out HZ0.out HZ1.out HZ2.out rfl _ _ _ rfl HO2.out A2 bs.length c2 (bytesV bs) rfl (bytesV_length bs) HS.out.isNil HS.out.cells (bytesV_one bs) (by have := HLE.out; have := HT2.out; unfold maxLen; omega) (by have := HLE.out; have := HT2.out; omega) HB2.out.size ?_; intro v3 w3 hown3 hg3 hat3))
          have HO3 := Lib.hid hown3
          have HB3 := Lib.hid (HB2.out.grown hg3 HB2.out.size (fun k hk => (HO2.out.lt k hk).1))
          clear hown3 hg3 hat3
          go_wp2
          go_roundw
          case rel => exact ⟨k2 + 1, by omega, by go_num, by rw [HT2.out, HT.out, bytesV_append]; exact HO3.out, HB3.out⟩
          case measure => simp [intOf]; omega
        · have HM2 : Hid (k2 = L.length) := by have : k2 = L.length := by omega
                                               exact this
          go_wp2
          go_ret
          refine ⟨_, rfl, ?_, HB2.out⟩
          have h := HO2.out
          rw [HM2.out, List.take_length] at h
          exact h
end Go.Proofs.Ytlhdnloimgckgaa
