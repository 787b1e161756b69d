/-
  grants.sorted.
-/
import Derived.Test.YtncjgfhipflokaaGe
import Derived.Maps.RangeWalk
import Derived.Maps.Own
import Derived.Maps.OwnOps
namespace Go.Proofs.Ytncjgfhipflokaa
open Go.RowKit Hp Go.Maps

theorem law9 : Keyed Try.prog 9 := string_keyed Try.underlying9
theorem ranges_fr {H : Type} {X : Nat → Prop} {p : Nat} {w w' : World} {R : Value → Option (DataW H × List MemPlace)} {b r n : Nat} {D : DataW H} {left : Lit → Bool} {cnt : Nat} (h : w.ranges Try.prog 9 R b r n D left cnt) (hf : Fr X p w w') (hb : b ≠ p) (hr : r ≠ p) : w'.ranges Try.prog 9 R b r n D left cnt := by
  obtain ⟨es, clock, since, seen, c0, h1, F, hs, hD, h2, rest⟩ := h
  exact ⟨es, clock, since, seen, c0, hf.keep b _ h1 hb (.inr (fun cs e => by cases e)), F, hs, hD, hf.keep r _ h2 hr (.inr (fun cs e => by cases e)), rest⟩
theorem ranges_iter {H : Type} {w : World} {R : Value → Option (DataW H × List MemPlace)} {b r n : Nat} {D : DataW H} {left : Lit → Bool} {cnt : Nat} (h : w.ranges Try.prog 9 R b r n D left cnt) {cs : Array Value} {t : TypeId} {fr : Nat × Nat} {k : Nat} (hk : w.heap[k]? = some (.cells cs t fr)) : k ≠ r := by
  obtain ⟨es, clock, since, seen, c0, h1, F, hs, hD, h2, rest⟩ := h
  rintro rfl
  rw [h2] at hk
  cases hk
theorem HT.iter {w w' : World} {B p r : Nat} {X : Nat → Prop} {ts : List S} (h : HT w B X p ts) (hg : w.grownBy w' (some r)) (hr : ∀ k cs t, w.heap[k]? = some (.cells cs t (0, 0)) → k ≠ r) : HT w' B X p ts := by
  obtain ⟨v, h1, h2, h3⟩ := h.at_
  exact ⟨h.le, v, blk_grown h1 hg (fun e => by injection e with e; exact hr _ _ _ h1 e), own_move h2 (fun k cs _ h0 => blk_grown h0 hg (fun e => by injection e with e; exact hr _ _ _ h0 e)), h3⟩
theorem HT.narrow {w : World} {B p : Nat} {X : Nat → Prop} {ts : List S} (h : HT w B X p ts) (hX : ∀ k, X k → B ≤ k) : HT w B (fun k => B ≤ k ∧ k < w.heap.size) p ts := by
  obtain ⟨v, h1, h2, h3⟩ := h.at_
  exact ⟨h.le, v, h1, h2, fun k e => ⟨hX k (h3 k e), own_lt h2 k e⟩⟩
theorem TX.fr {w w' : World} {B C p : Nat} {v : Value} {ts : List S} (h : TX w C v ts) (hf : Fr (fun k => B ≤ k ∧ k < C) p w w') (hp : p < C) : TX w' C v ts :=
  own_move h fun k cs hk h0 => hf.keep k _ h0 (by omega) (.inl (fun hx => by omega))
/-- how many texts a heap holds -/
def hLen (p : Nat) (w : World) : Nat := match w.cell? ⟨p, 0, none⟩ with | some (.slice _ n _) => n | _ => 0
theorem HT.len {w : World} {B p : Nat} {X : Nat → Prop} {ts : List S} (h : HT w B X p ts) : hLen p w = ts.length := by
  obtain ⟨v, h1, h2, _⟩ := h.at_
  obtain ⟨A, c, rfl⟩ := h2.shape
  unfold hLen
  rw [row_cell h1]
theorem wpList_assert9 {Q : Exit → Act → World → Prop} {o : Oper} {a : Act} {w : World} {ops : Array Oper} {rest : List Oper} (hgd : o.guard = none) (x : Operand) (ho : o.op = .typeAssert x 20 9 false) (s : S) (hx : a.eval x = .iface 9 (encStr s)) (h : wpList Try.prog ops Q rest (a.put o.dst (encStr s)) w) : wpList Try.prog ops Q (o :: rest) a w :=
  wpList_plain hgd fun _ hK => ow_assert9 x ho s hx (hK _ _ h)
theorem run_build770 (w : World) : (Instr.buildSlice 77 0 #[]).run Try.prog w = .ok (.slice (some ⟨w.heap.size, 0, none⟩) 0 0) (w.alloc (.cells #[] 9)) := by kernel_rfl
theorem wpList_build770 {Q : Exit → Act → World → Prop} {o : Oper} {a : Act} {w : World} {ops : Array Oper} {rest : List Oper} (hgd : o.guard = none) (ho : o.op = .buildSlice 77 0 #[]) (h : wpList Try.prog ops Q rest (a.put o.dst (.slice (some ⟨w.heap.size, 0, none⟩) 0 0)) (w.alloc (.cells #[] 9))) : wpList Try.prog ops Q (o :: rest) a w := by
  refine wpList_plain hgd fun K hK => ow_value' ?_ (hK _ _ h)
  unfold execOp
  simp only [ho, List.map_toArray, List.map_nil, Sem.run_bind, run_build770, Result.andThen_ok]
  rfl
theorem tx_new (w : World) (B : Nat) (hB : B ≤ w.heap.size) : TX (w.alloc (.cells #[] 9)) B (.slice (some ⟨w.heap.size, 0, none⟩) 0 0) [] :=
  ⟨rfl, .inr ⟨w.heap.size, 0, #[], rfl, hB, World.alloc_heap_new w _, Nat.le_refl _, Nat.zero_le _, rfl, rfl⟩⟩

set_option maxHeartbeats 1000000 in
set_option maxRecDepth 4000 in
theorem sorted_any {H : Type} (D : DataW H) (b n : Nat) (w : World) (hown : w.ownsMap Try.prog 9 (plainElem Try.prog 3) b n D) (hsz : Maps.size D ≤ 99999) :
    Calls Try.prog 26 #[.map (some b)] w fun e w' => ∃ v l, e = .returned v ∧ TX w' w.heap.size v l ∧ l.Perm (strKeys D) ∧ l.Pairwise (· ≤ ·) ∧ Below w.heap.size w w' := by
  obtain ⟨i0, hi0, hz0, hz1, hz2⟩ := info_parts info9
  have HI0 := Lib.hid hi0
  have HZ0 := Lib.hid hz0
  have HZ1 := Lib.hid hz1
  have HZ2 := Lib.hid hz2
  clear hi0 hz0 hz1 hz2
  have hbl := hown.lt
  have hown2 := (hown.alloc (.cells #[] 9)).alloc (.cells #[.slice (some ⟨w.heap.size, 0, none⟩) 0 0] 77)
  have HOWN := Lib.hid hown
  clear hown
  obtain ⟨B, hB⟩ : ∃ B, B = w.heap.size := ⟨_, rfl⟩
  have HBB := Lib.hid hB
  have htx := tx_new w B (Nat.le_of_eq hB)
  have hH0 : HT ((w.alloc (.cells #[] 9)).alloc (.cells #[.slice (some ⟨w.heap.size, 0, none⟩) 0 0] 77)) B (fun k => B ≤ k) (w.heap.size + 1) [] := by
    have hnew := World.alloc_heap_new (w.alloc (.cells #[] 9)) (.cells #[.slice (some ⟨w.heap.size, 0, none⟩) 0 0] 77)
    rw [World.size_alloc] at hnew
    refine ⟨by omega, _, hnew, htx.below (below_alloc1 _ _), fun k e => ?_⟩
    have : w.heap.size = k := by simpa [Value.ownBlock] using e
    show B ≤ k
    omega
  have hbe0 : Below B w ((w.alloc (.cells #[] 9)).alloc (.cells #[.slice (some ⟨w.heap.size, 0, none⟩) 0 0] 77)) := ((Below.refl B w).alloc (Nat.le_of_eq hB) _).alloc (by simp; omega) _
  go_enter Try.func26, Try.ntmps26
  go_upto_region 2 with (refine wpList_build770 rfl rfl ?_)
  obtain ⟨w1, hw1⟩ : ∃ w1, w1 = (w.alloc (.cells #[] 9)).alloc (.cells #[.slice (some ⟨w.heap.size, 0, none⟩) 0 0] 77) := ⟨_, rfl⟩
  rw [← hw1] at hown2 hH0 hbe0
  obtain ⟨p, hp⟩ : ∃ p, p = w.heap.size + 1 := ⟨_, rfl⟩
  rw [← hp] at hH0
  have hbp : b < p := by omega
  have hBp : B ≤ p := by omega
  have HH0 := Lib.hid hH0
  have HBE0 := Lib.hid hbe0
  have HPP := Lib.hid hp
  clear hB hp
  try simp only [← hw1]
  have HW1 := Lib.hid hw1
  clear hw1 htx hH0 hbe0
  go_upto_region 99 with (at_range; refine wpList_range_own _ rfl _ 54 rfl 9 3 law9 Try.underlying54 _ b n _ rfl hown2 ?_; intro w0 hrg0 hg0 hs0; go_frame)
  rw [← HPP.out]
  obtain ⟨r, hr⟩ : ∃ r, r = w1.heap.size := ⟨_, rfl⟩
  rw [← hr] at hrg0 ⊢
  have hrp : p < r := by rw [hr]; exact HH0.out.lt
  have HRG0 := Lib.hid hrg0
  have HH1 := Lib.hid (HH0.out.below (below_of_grown hg0))
  have HBE1 := Lib.hid (HBE0.out.trans ((below_of_grown hg0).mono (by have := HBE0.out.size; have := HBB.out; omega)))
  clear hr hrg0 hg0 hs0 hown2 HH0 HBE0 HW1
  go_loopw [4] (fun _ wr => ∃ (left : Lit → Bool) (cnt : Nat) (ss us : List S), wr.ranges Try.prog 9 (plainElem Try.prog 3) b r n D left cnt ∧ ss.length + cnt ≤ Maps.size D ∧ Collected D left ss ∧ us.Perm ss ∧ HP us us.length ∧ HT wr B (fun k => B ≤ k) p us ∧ Below B w wr) (fun _ wr => wr.rangeLeft b r)
  case atStart => exact ⟨_, _, [], [], HRG0.out, by simp, Collected.start D, List.Perm.refl _, fun k _ hk => absurd hk (by simp), HH1.out, HBE1.out⟩
  case round =>
    clear HRG0 HH1 HBE1
    obtain ⟨left, cnt, ss, us, hrg, hcs, hC, hpm, hhp, hht, hbe⟩ := hrel
    have HHP := Lib.hid hhp
    have HHT := Lib.hid hht
    have HBE := Lib.hid hbe
    have HPM := Lib.hid hpm
    have HC := Lib.hid hC
    have hul : us.length ≤ 99999 := by rw [hpm.length_eq]; omega
    clear hhp hht hbe hpm hC
    go_wp2_with (at_next; refine wpList_next_ranges _ rfl _ rfl 9 law9 (plainElem Try.prog 3) encStr (Value.int .i64) (fun key kl hk => by obtain ⟨x, hx, _⟩ := Maps.keyOf_str Try.underlying9 hk; exact ⟨x, hx⟩) (fun v y hv => by obtain ⟨c, rfl, _⟩ := plainElem_int_inv Try.underlying3 hv; exact ⟨c, rfl⟩) b r n _ _ _ rfl hrg ?_ ?_)
    · intro hc0 hl0
      have hperm : us.Perm (strKeys D) := HPM.out.trans (HC.out.perm HOWN.out law9 Try.underlying9 hl0)
      have HPE := Lib.hid hperm
      have hsk : (strKeys D).length ≤ 99999 := by rw [← hperm.length_eq]; exact hul
      obtain ⟨C, hC⟩ : ∃ C, C = wr.heap.size := ⟨_, rfl⟩
      have hht := HHT.out.narrow (fun k h => h)
      rw [← hC] at hht
      have HHN := Lib.hid hht
      have hpC : p < C := by rw [hC]; exact HHT.out.lt
      have hBC : B ≤ C := by omega
      have HCC := Lib.hid hC
      clear hht hC hperm hl0 hrg
      go_wp2_with fail
      go_loopw [5] (fun out wr => ∃ (l vs : List S), TX wr C out l ∧ HT wr B (fun k => B ≤ k ∧ k < C) p vs ∧ HP vs vs.length ∧ (l ++ vs).Perm (strKeys D) ∧ l.Pairwise (· ≤ ·) ∧ (∀ x ∈ l, ∀ y ∈ vs, x ≤ y) ∧ Below B w wr ∧ C ≤ wr.heap.size) (fun _ wr => hLen p wr)
      case atStart => exact ⟨[], us, World.ownsRow_nil _ _ _ _, HHN.out, HHP.out, HPE.out, List.Pairwise.nil, fun x hx => absurd hx (by simp), HBE.out, by rw [HCC.out]; exact Nat.le_refl _⟩
      case round =>
        clear HHN HHP HPE HBE HHT HPM HC
        obtain ⟨l, vs, htx, hht, hhp, hpm, hsort, hle, hbe, hCs⟩ := hrel
        have HTX := Lib.hid htx
        have HHT := Lib.hid hht
        have HHP := Lib.hid hhp
        have HPM := Lib.hid hpm
        have HSO := Lib.hid hsort
        have HLE := Lib.hid hle
        have HBE := Lib.hid hbe
        have hll : l.length + vs.length ≤ 99999 := by
          have := hpm.length_eq
          rw [List.length_append] at this
          omega
        obtain ⟨v, hrow, htv, _⟩ := hht.at_
        obtain ⟨A, c, rfl⟩ := htv.shape
        have hcp := row_cell hrow
        clear htx hht hhp hpm hsort hle hbe hrow htv
        go_wp2_with fail
        refine (Len_any _ A _ c).mono ?_
        rintro e w3 ⟨rfl, rfl⟩
        clear hcp
        rcases Nat.eq_zero_or_pos vs.length with h0 | h0
        · have hnil : vs = [] := List.eq_nil_of_length_eq_zero h0
          subst hnil
          have hd : decide ((0 : Int) < ((([] : List S).length : Nat) : Int)) = false := by decide
          go_wp2_with fail
          go_ret
          refine ⟨_, l, rfl, World.ownsRow.base_le HTX.out (by have := HBB.out; omega), by have := HPM.out; simpa using this, HSO.out, ?_⟩
          have := HBE.out
          rw [HBB.out] at this
          exact this
        · have hd : decide ((0 : Int) < (vs.length : Int)) = true := by simp; omega
          have hd' : decide (0 < vs.length) = true := by simp; omega
          obtain ⟨nv, hnv⟩ : ∃ nv, nv = vs.length := ⟨_, rfl⟩
          have HNV := Lib.hid hnv
          clear hnv
          go_wp2_with fail
          refine (hpop_any B p _ vs _ HHT.out HHP.out h0 (by omega)).mono ?_
          rintro e w4 ⟨x, vs', rfl, hpm', hhp', hmin, hht', hf⟩
          have htx4 := HTX.out.fr hf hpC
          have hbe4 := HBE.out.trans (hf.below (fun k hk => hk.1) hBp (by omega))
          have hln : vs'.length + 1 = vs.length := by have := hpm'.length_eq; simpa using this
          have HT4 := Lib.hid htx4
          have HB4 := Lib.hid hbe4
          have HH4 := Lib.hid hht'
          have HP4 := Lib.hid hpm'
          have HHP4 := Lib.hid hhp'
          have HMIN := Lib.hid hmin
          have HLN := Lib.hid hln
          have hC4 : C ≤ w4.heap.size := Nat.le_trans hCs hf.size
          clear hpm' hhp' hmin hht' hf htx4 hbe4 hln
          go_wp2_with (first
            | (refine wpList_assert9 rfl _ rfl x rfl ?_)
            | (at_builtin; refine wpList_append_src _ rfl (.tmp 24) (.tmp 29) 35 rfl C 9 i0 (.string ⟨#[]⟩) 16 Try.underlying35 HI0.out HZ0.out HZ1.out HZ2.out rfl _ l.length (l.map encStr) rfl (own_move HT4.out (fun _ _ _ h0 => blk_alloc h0 _)) (some ⟨w4.heap.size, 0, none⟩) 1 1 [encStr x] rfl rfl (by simp) (one_cell (World.alloc_heap_new w4 _)) (by intro u hu; rw [List.mem_singleton.1 hu]; rfl) (by unfold maxLen; omega) (by omega) (by simp; omega) ?_; intro v3 w5 hown3 hg3 hat3; have HO3 := Lib.hid hown3; have HG3 := Lib.hid hg3; clear hown3 hg3 hat3))
          have hoa : (w4.alloc (.cells #[encStr x] 9)).ownsRow C 9 1 u5 l.length (l.map encStr) := own_move HT4.out (fun _ _ _ h0 => blk_alloc h0 _)
          have hge := own_ge hoa
          have hhe : HT w5 B (fun k => B ≤ k ∧ k < C) p vs' := by
            have h1 := HH4.out.below (below_alloc1 w4 (.cells #[encStr x] 9))
            obtain ⟨v, e1, e2, e3⟩ := h1.at_
            refine ⟨h1.le, v, own_keep hoa HG3.out e1 (by decide), ?_, e3⟩
            rcases e2.2 with ⟨hv, h0⟩ | ⟨g, cap, cur, hv, hb, hgb, hr⟩
            · exact ⟨e2.1, .inl ⟨hv, h0⟩⟩
            · refine ⟨e2.1, .inr ⟨g, cap, cur, hv, hb, blk_grown hgb HG3.out (fun e => ?_), hr⟩⟩
              have h2 := hge g e.symm
              have h3 := (e3 g (by rw [hv]; rfl)).2
              omega
          have HGE := Lib.hid hge
          have HHE := Lib.hid hhe
          have HL5 := Lib.hid (hhe.len)
          have HL3 := Lib.hid (HHT.out.len)
          clear hge hhe hoa
          go_roundw
          case rel =>
            refine ⟨l ++ [x], vs', ?_, HHE.out, HHP4.out, ?_, ?_, ?_, (HB4.out.alloc (by omega) _).grown HG3.out (by simp; omega) (fun j e => by have := HGE.out j e; omega), by have := HG3.out.size; simp at this; omega⟩
            · have := HO3.out
              unfold TX
              simpa using this
            · rw [List.append_assoc]
              exact ((List.perm_append_left_iff l).2 HP4.out).trans HPM.out
            · rw [List.pairwise_append]
              refine ⟨HSO.out, List.pairwise_singleton _ _, fun a ha b hb => ?_⟩
              rw [List.mem_singleton.1 hb]
              exact HLE.out a ha x (HP4.out.mem_iff.1 List.mem_cons_self)
            · intro a ha y hy
              rcases List.mem_append.1 ha with ha | ha
              · exact HLE.out a ha y (HP4.out.mem_iff.1 (List.mem_cons_of_mem _ hy))
              · rw [List.mem_singleton.1 ha]
                exact HMIN.out y hy
          case measure =>
            rw [HL5.out, HL3.out]
            have := HLN.out
            omega
    · intro x c kl yd yp w2 cnt2 hkey hlk hv hat hrg2 hlt hg2 hs2 hen
      obtain ⟨x', ex, rfl, _⟩ := Maps.keyOf_str Try.underlying9 hkey
      obtain rfl : x = x' := encStr_inj ex
      have hBw : B ≤ wr.heap.size := by have := HBE.out.size; have := HBB.out; omega
      have HHT2 := Lib.hid (HHT.out.iter hg2 (fun k cs t h0 => ranges_iter hrg h0))
      have HBE2 := Lib.hid (HBE.out.grown hg2 hBw (fun j hj => by cases hj; omega))
      have hBw2 : B ≤ w2.heap.size := by have := hg2.size; omega
      have HST := Lib.hid (HC.out.step hlk hat)
      clear hs2 HBE HHT
      go_wp2_with fail
      refine (hpush_any B p (fun k => B ≤ k) us x w2 HHT2.out (fun k hk => by show B ≤ k; omega) HHP.out (by omega)).mono ?_
      rintro e w3 ⟨rfl, us', hpm', hhp', hht', hf⟩
      have hrg3 := ranges_fr hrg2 hf (by omega) (by omega)
      have HBE3 := Lib.hid (HBE2.out.trans (hf.below (fun k h => h) hBp hBw2))
      go_wp2_with fail
      go_roundw
      case rel => exact ⟨_, cnt2, ss ++ [x], us', hrg3, by simp; omega, HST.out, hpm'.trans ((List.perm_append_right_iff [x]).2 HPM.out), hhp', hht', HBE3.out⟩
      case measure => rw [hrg3.left_eq, hrg.left_eq]; exact hlt
end Go.Proofs.Ytncjgfhipflokaa
