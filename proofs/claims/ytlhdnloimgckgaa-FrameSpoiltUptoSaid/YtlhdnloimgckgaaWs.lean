/-
  FrameRow: the rows of records and of tails; join; a number's lowest bits.
-/
import Derived.Test.YtlhdnloimgckgaaWr
namespace Go.Proofs.Ytlhdnloimgckgaa
open Go.RowKit Go.Shelf

theorem i64_mask (x : Int) (M : Nat) (hM : M < 9223372036854775808) : ∃ m : Nat, bits .and .i64 x (M : Int) = (m : Int) ∧ m ≤ M := by
  have h1 : (BitVec.ofInt 64 (M : Int)).toNat = M := by
    rw [BitVec.ofInt_natCast, BitVec.toNat_ofNat]; exact Nat.mod_eq_of_lt (by omega)
  refine ⟨(BitVec.ofInt 64 x).toNat &&& M, ?_, Nat.and_le_right⟩
  show IntKind.i64.wrap ((BitVec.ofInt 64 x &&& BitVec.ofInt 64 (M : Int)).toNat : Int) = _
  rw [BitVec.toNat_and, h1]
  have h2 : (BitVec.ofInt 64 x).toNat &&& M ≤ M := Nat.and_le_right
  exact IntWalk.i64_in _ (by omega)

/-- a row of its own, of byte slices that are its own too -/
def RecsAt (B : Nat) (W : World) (s : Value) (rs : List (List UInt8)) : Prop :=
  ∃ vs : List Value, vs.length = rs.length ∧ W.ownsRow B 25 1 s rs.length vs ∧ ∀ (i : Nat) u p, vs[i]? = some u → rs[i]? = some p → W.ownsRow B 5 1 u p.length (bytesV p)
theorem RecsAt.move {B : Nat} {W W' : World} {s : Value} {rs : List (List UInt8)} (h : RecsAt B W s rs) (hk : ∀ k cs t, (t = 25 ∨ t = 5) → B ≤ k → W.heap[k]? = some (.cells cs t (0, 0)) → W'.heap[k]? = some (.cells cs t (0, 0))) : RecsAt B W' s rs := by
  obtain ⟨vs, h1, h2, h3⟩ := h
  exact ⟨vs, h1, own_move h2 (fun k cs => hk k cs 25 (.inl rfl)), fun i u p hu hp => own_move (h3 i u p hu hp) (fun k cs => hk k cs 5 (.inr rfl))⟩
theorem RecsAt.below {B : Nat} {W W' : World} {s : Value} {rs : List (List UInt8)} (h : RecsAt B W s rs) (hb : Below W.heap.size W W') : RecsAt B W' s rs := h.move fun _ _ _ _ _ h => blk_below h hb
theorem RecsAt.sbb {B : Nat} {W : World} {s : Value} {rs : List (List UInt8)} (h : RecsAt B W s rs) (hL : rs.length ≤ 140737488355328) (hp : ∀ p ∈ rs, p.length ≤ 140737488355328) : SBB W s rs := by
  obtain ⟨vs, h1, h2, h3⟩ := h
  rcases h2.2 with ⟨rfl, h0⟩ | ⟨g, cap, cur, rfl, _, hg, hcap, _, hsz, htk⟩
  · have : rs = [] := List.eq_nil_of_length_eq_zero h0
    subst this
    exact ⟨_, _, rfl, by simp, by simp, .inl rfl⟩
  · refine ⟨_, _, rfl, hcap, hL, .inr ⟨g, 0, rfl, fun i hi => ?_⟩⟩
    have hlt : i < vs.length := by omega
    refine ⟨vs[i], ?_, SB_of_own (h3 i vs[i] rs[i] (by simp [hlt]) (by simp [hi])) (hp _ (List.getElem_mem hi))⟩
    rw [Nat.zero_add, cell_of_row W g i _ _ _ hg]
    have h5 : vs[i]? = cur.toList[i]? := by rw [← htk, List.getElem?_take_of_lt (by omega)]
    have h6 : vs[i]? = some vs[i] := by simp [hlt]
    rw [← h6, h5]
    simp
theorem RecsAt.push {B : Nat} {W' : World} {s' u : Value} {rs : List (List UInt8)} {p : List UInt8} {vs : List Value} (h1 : vs.length = rs.length) (h3 : ∀ (i : Nat) u p, vs[i]? = some u → rs[i]? = some p → W'.ownsRow B 5 1 u p.length (bytesV p))
    (hu : W'.ownsRow B 5 1 u p.length (bytesV p)) (hs : W'.ownsRow B 25 1 s' (rs.length + 1) (vs ++ [u])) : RecsAt B W' s' (rs ++ [p]) := by
  refine ⟨vs ++ [u], by simp [h1], by rw [List.length_append]; exact hs, ?_⟩
  intro i x q hi hq
  rcases Nat.lt_or_ge i rs.length with h | h
  · rw [List.getElem?_append_left (by omega)] at hi
    rw [List.getElem?_append_left h] at hq
    exact h3 i x q hi hq
  · rw [List.getElem?_append_right (by omega)] at hi
    rw [List.getElem?_append_right h] at hq
    obtain ⟨hlt1, rfl⟩ := List.getElem?_eq_some_iff.1 hi
    obtain ⟨hlt2, rfl⟩ := List.getElem?_eq_some_iff.1 hq
    simpa using hu

/-- the row of tails: behind none, one, .. k of L -/
def TailsAt (B : Nat) (W : World) (s : Value) (L : List (List UInt8)) (k : Nat) : Prop :=
  ∃ xs : List Value, W.ownsRow B 30 3 s (k + 1) xs ∧ ∀ j, j ≤ k → xs[j * 3]? = some (.int .i64 ((tailOf (L.take j)).1 : Int)) ∧ xs[j * 3 + 1]? = some (.int .i64 ((tailOf (L.take j)).2.1 : Int)) ∧ xs[j * 3 + 2]? = some (.int .u32 ((tailOf (L.take j)).2.2 : Int))
theorem own_move3 {A W : World} {B : Nat} {e : TypeId} {n : Nat} {v : Value} {xs : List Value} (h : A.ownsRow B e 3 v n xs) (hk : ∀ k cs, B ≤ k → A.heap[k]? = some (.cells cs e (0, 0)) → W.heap[k]? = some (.cells cs e (0, 0))) : W.ownsRow B e 3 v n xs := by
  refine ⟨h.1, h.2.imp id ?_⟩
  rintro ⟨g, cap, cur, h1, h2, h3, h4⟩
  exact ⟨g, cap, cur, h1, h2, hk g cur h2 h3, h4⟩
theorem TailsAt.move {B : Nat} {W W' : World} {s : Value} {L : List (List UInt8)} {k : Nat} (h : TailsAt B W s L k) (hk : ∀ k cs, B ≤ k → W.heap[k]? = some (.cells cs 30 (0, 0)) → W'.heap[k]? = some (.cells cs 30 (0, 0))) : TailsAt B W' s L k := by
  obtain ⟨xs, h1, h2⟩ := h
  exact ⟨xs, own_move3 h1 hk, h2⟩
theorem TailsAt.below {B : Nat} {W W' : World} {s : Value} {L : List (List UInt8)} {k : Nat} (h : TailsAt B W s L k) (hb : Below W.heap.size W W') : TailsAt B W' s L k := h.move fun _ _ _ h => blk_below h hb
theorem TailsAt.at_ {B : Nat} {W : World} {s : Value} {L : List (List UInt8)} {k : Nat} (h : TailsAt B W s L k) :
    ∃ g cap, s = .slice (some ⟨g, 0, none⟩) (k + 1) cap ∧ B ≤ g ∧ g < W.heap.size ∧ ∀ j, j ≤ k → W.cell? ⟨g, j * 3, none⟩ = some (.int .i64 ((tailOf (L.take j)).1 : Int)) ∧ W.cell? ⟨g, j * 3 + 1, none⟩ = some (.int .i64 ((tailOf (L.take j)).2.1 : Int)) ∧ W.cell? ⟨g, j * 3 + 2, none⟩ = some (.int .u32 ((tailOf (L.take j)).2.2 : Int)) := by
  obtain ⟨xs, h1, h2⟩ := h
  rcases h1.2 with ⟨rfl, h0⟩ | ⟨g, cap, cur, rfl, hB, hg, hcap, _, hsz, htk⟩
  · omega
  · refine ⟨g, cap, rfl, hB, blk_lt hg, fun j hj => ?_⟩
    obtain ⟨a, b, c⟩ := h2 j hj
    have key : ∀ (i : Nat) v, i < (k + 1) * 3 → xs[i]? = some v → W.cell? ⟨g, i, none⟩ = some v := by
      intro i v hi hv
      rw [cell_of_row W g i _ _ _ hg]
      rw [← htk, List.getElem?_take_of_lt hi] at hv
      simpa using hv
    exact ⟨key _ _ (by omega) a, key _ _ (by omega) b, key _ _ (by omega) c⟩
theorem own_block3 {W : World} {B n : Nat} {e : TypeId} {v : Value} {xs : List Value} (h : W.ownsRow B e 3 v n xs) {j : Nat} (hj : v.ownBlock = some j) : B ≤ j ∧ ∃ cs, W.heap[j]? = some (.cells cs e (0, 0)) := by
  rcases h.2 with ⟨hv, _⟩ | ⟨g, cap, cur, hv, h2, h3, _⟩
  · rw [hv] at hj; cases hj
  · rw [hv] at hj
    injection hj with hj
    subst hj
    exact ⟨h2, cur, h3⟩
theorem blk_grown_ty3 {W W' : World} {B n : Nat} {e : TypeId} {v : Value} {xs : List Value} (ho : W.ownsRow B e 3 v n xs) (hg : W.grownBy W' v.ownBlock) {j : Nat} {cs : Array Value} {t : TypeId} {fr : Nat × Nat} (h : W.heap[j]? = some (.cells cs t fr)) (ht : t ≠ e) : W'.heap[j]? = some (.cells cs t fr) :=
  blk_grown h hg (fun he => by
    obtain ⟨_, cs', h'⟩ := own_block3 ho he.symm
    rw [h] at h'
    injection h' with h'
    injection h' with _ h'
    exact ht h')
theorem below_grown_own3 {w W W' : World} {B n : Nat} {e : TypeId} {v : Value} {xs : List Value} (hb : Below w.heap.size w W) (ho : W.ownsRow B e 3 v n xs) (hB : w.heap.size ≤ B) (hg : W.grownBy W' v.ownBlock) : Below w.heap.size w W' :=
  hb.grown hg hb.size (fun _ he => Nat.le_trans hB (own_block3 ho he).1)
theorem TailsAt.push {B : Nat} {W' : World} {s' : Value} {L : List (List UInt8)} {k : Nat} {xs : List Value} (hl : xs.length = (k + 1) * 3)
    (h2 : ∀ j, j ≤ k → xs[j * 3]? = some (.int .i64 ((tailOf (L.take j)).1 : Int)) ∧ xs[j * 3 + 1]? = some (.int .i64 ((tailOf (L.take j)).2.1 : Int)) ∧ xs[j * 3 + 2]? = some (.int .u32 ((tailOf (L.take j)).2.2 : Int)))
    (hs : W'.ownsRow B 30 3 s' (k + 1 + 1) (xs ++ (tvs (tailOf (L.take (k + 1)))).toList)) : TailsAt B W' s' L (k + 1) := by
  refine ⟨_, hs, fun j hj => ?_⟩
  rcases Nat.lt_or_ge k j with h | h
  · obtain rfl : j = k + 1 := by omega
    refine ⟨?_, ?_, ?_⟩
    · rw [List.getElem?_append_right (by omega), hl, Nat.sub_self]; rfl
    · rw [List.getElem?_append_right (by omega), hl, Nat.add_sub_cancel_left]; rfl
    · rw [List.getElem?_append_right (by omega), hl, Nat.add_sub_cancel_left]; rfl
  · obtain ⟨a, b, c⟩ := h2 j h
    refine ⟨?_, ?_, ?_⟩
    · rw [List.getElem?_append_left (by omega)]; exact a
    · rw [List.getElem?_append_left (by omega)]; exact b
    · rw [List.getElem?_append_left (by omega)]; exact c

section
variable {ops : Array Oper} {rest : List Oper} {o : Oper} {a : Act} {w : World} {Q : Exit → Act → World → Prop}
theorem wpList_append_tail (hgd : o.guard = none) (s x : Operand) (ho : o.op = .call { callee := .builtin .append, args := #[s, x], argTypes := #[43, 43] }) (base : Nat) (v : Value) (n : Nat) (xs : List Value) (hs : a.eval s = v) (hown : w.ownsRow base 30 3 v n xs)
    (g c : Nat) (v0 v1 v2 : Value) (hx : a.eval x = .slice (some ⟨g, 0, none⟩) 1 c) (hg : w.heap[g]? = some (.cells #[v0, v1, v2] 30 (0, 0))) (h0 : v0.oneCell' = true) (h1 : v1.oneCell' = true) (h2 : v2.oneCell' = true)
    (hn : n ≤ 1099511627776) (hbase : base ≤ w.heap.size)
    (h : ∀ v' w', w'.ownsRow base 30 3 v' (n + 1) (xs ++ [v0, v1, v2]) → w.grownBy w' v.ownBlock → wpList Try.prog ops Q rest (a.put o.dst v') w') : wpList Try.prog ops Q (o :: rest) a w := by
  refine wpList_plain hgd fun K hK => ?_
  have hi : (Try.prog.info? 30).map (fun i => (i.zero, i.size, i.bytes)) = some (some (.agg #[.int .i64 0, .int .i64 0, .int .u32 0]), 3, 24) := info30
  obtain ⟨i, hi1, hi2⟩ := Option.map_eq_some_iff.1 hi
  simp only [Prod.mk.injEq] at hi2
  obtain ⟨hz, hsz, hby⟩ := hi2
  obtain ⟨v', w', hrun, h3, h4, _, _⟩ := run_append_own_at (P := Try.prog) w base 43 o.type 30 i _ 3 24 Try.underlying43 hi1 hz hsz hby (by rfl) (by omega) v n xs hown ⟨g, 0, none⟩ 1 c [v0, v1, v2] rfl (by
    intro j u hj
    rw [add_plain, Nat.zero_add, cell_of_row w g j _ _ _ hg]
    simpa using hj) (by
    intro u hu
    rcases List.mem_cons.1 hu with rfl | hu
    · exact h0
    · rcases List.mem_cons.1 hu with rfl | hu
      · exact h1
      · rw [List.mem_singleton.1 hu]; exact h2) (by unfold maxLen; omega) (by omega) hbase
  unfold Oper.wp execOp
  simp only [ho, resolve, invoke, builtin, Sem.run_bind, Sem.run_pure, Result.andThen_ok, List.map_toArray, List.map_cons, List.map_nil, hs, hx, hrun]
  exact hK _ _ (h v' w' h3 h4)
theorem wpList_build43 (hgd : o.guard = none) (x : Operand) (ho : o.op = .buildSlice 43 1 #[(0, x)]) (v0 v1 v2 : Value) (hx : a.eval x = .agg #[v0, v1, v2]) (h0 : v0.oneCell' = true) (h1 : v1.oneCell' = true) (h2 : v2.oneCell' = true)
    (h : ∀ w', w'.heap[w.heap.size]? = some (.cells #[v0, v1, v2] 30 (0, 0)) → Below w.heap.size w w' → wpList Try.prog ops Q rest (a.put o.dst (.slice (some ⟨w.heap.size, 0, none⟩) 1 1)) w') : wpList Try.prog ops Q (o :: rest) a w := by
  refine wpList_plain hgd fun K hK => ?_
  have hr : (execOp a.eval o).run Try.prog w = .ok (.value (.slice (some ⟨w.heap.size, 0, none⟩) 1 1)) (w.alloc (.cells #[v0, v1, v2] 30)) := by
    unfold execOp
    simp only [ho, List.map_toArray, List.map_cons, List.map_nil, hx, Sem.run_bind, Sem.run_pure, run_build43 v0 v1 v2 w h0 h1 h2, Result.andThen_ok]
  unfold Oper.wp
  rw [hr]
  exact hK _ _ (h _ (heap_alloc_new w _) (below_alloc1 w _))
end

set_option maxHeartbeats 800000 in
theorem join_any (v : Value) (L : List (List UInt8)) (w : World) (hv : SBB w v L) (hb : L.flatten.length ≤ 1099511627776) :
    Calls Try.prog 20 #[v] w fun e w' => ∃ u, e = .returned u ∧ w'.ownsRow w.heap.size 5 1 u L.flatten.length (bytesV L.flatten) ∧ Below w.heap.size w w' := by
  obtain ⟨i0, hi0, hz0, hz1, hz2⟩ := info_parts info5
  have HI := Lib.hid hi0
  have HZ0 := Lib.hid hz0
  have HZ1 := Lib.hid hz1
  have HZ2 := Lib.hid hz2
  obtain ⟨A, c, rfl, hv, hm⟩ := hv.shape
  have HV := Lib.hid hv
  clear hi0 hz0 hz1 hz2 hv
  go_enter Try.func20, Try.ntmps20
  go_wp2_with fail
  go_loopw [3, 4] (fun s i wr => ∃ k : Nat, k ≤ L.length ∧ i = .int .i64 k ∧ wr.ownsRow w.heap.size 5 1 s (L.take k).flatten.length (bytesV (L.take k).flatten) ∧ Below w.heap.size w wr) (fun _ i _ => (L.length - (intOf i).toNat))
  case atStart => exact ⟨0, by omega, rfl, by simpa [bytesV] using World.ownsRow_nil _ _ _ _, Below.refl _ _⟩
  case round =>
    obtain ⟨k, hk, rfl, hown, hbel⟩ := hrel
    have HO := Lib.hid hown
    have HB := Lib.hid hbel
    clear hown hbel
    by_cases hlt : k < L.length
    · obtain ⟨b, o, A2, c2, rfl, hcell, hsb, hl2⟩ := HV.out.at_ k hlt
      have hcell2 := cell_below HB.out hcell
      have HS := Lib.hid (hsb.below HB.out)
      have HT := Lib.hid (take_flat_succ L k hlt)
      have HLE := Lib.hid (flat_len_le L (k + 1))
      have HLS := Lib.hid (flat_len_succ L k hlt)
      obtain ⟨p, hp⟩ : ∃ p, p = L[k] := ⟨_, rfl⟩
      rw [← hp] at hcell2 HS HT HLS
      have hsz : (L.take k).flatten.length + p.length ≤ 1099511627776 := by have := HLE.out; have := HLS.out; omega
      have HSZ := Lib.hid hsz
      clear hcell hsb hl2 hp hsz
      go_wp2_with (first | (at_builtin; refine wpList_append_src _ rfl (.tmp 11) (.tmp 15) 25 rfl w.heap.size 5 i0 (.int .u8 0) 1 Try.underlying25 HI.out HZ0.out HZ1.out HZ2.out rfl _ _ _ rfl HO.out A2 p.length c2 (bytesV p) rfl (bytesV_length _) HS.out.isNil HS.out.cells (bytesV_one _) (by have := HSZ.out; unfold maxLen; omega) (by have := HSZ.out; omega) HB.out.size ?_; intro v3 w3 hown3 hg3 hat3))
      go_roundw
      case rel =>
        refine ⟨k + 1, by omega, by go_num, ?_, below_grown_own HB.out HO.out (Nat.le_refl _) hg3⟩
        rw [HT.out, bytesV_append, List.length_append]
        exact hown3
      case measure => simp [intOf]; omega
    · have hkl : k = L.length := by omega
      have HK := Lib.hid hkl
      clear hkl
      go_wp2
      go_ret
      refine ⟨_, rfl, ?_, HB.out⟩
      have := HO.out
      rw [HK.out, List.take_length] at this
      exact this
end Go.Proofs.Ytlhdnloimgckgaa
