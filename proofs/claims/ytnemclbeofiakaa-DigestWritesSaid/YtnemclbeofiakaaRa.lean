/-
  A row of bytes that the call owns, wherever in its block the slice begins; append onto it.
-/
import Derived.Test.YtnemclbeofiakaaLm
namespace Go.Proofs.Ytnemclbeofiakaa
open Go.RowKit Bl

/-- the length of a slice -/
def lenS : Value → Nat
  | .slice _ n _ => n
  | _ => 0
theorem zeros_more (r : List UInt8) (j : Nat) : r ++ List.replicate (j + 1) 0 = r ++ List.replicate j 0 ++ [0] := by
  rw [List.replicate_succ', ← List.append_assoc]
/-- bytes in a block from B on, at any offset; or nil -/
def OffRow (w : World) (B : Nat) (v : Value) (bs : List UInt8) : Prop :=
  (v = .slice none 0 0 ∧ bs = []) ∨
  ∃ g off cap cur, v = .slice (some ⟨g, off, none⟩) bs.length cap ∧ B ≤ g ∧ w.heap[g]? = some (.cells cur 5 (0, 0)) ∧ bs.length ≤ cap ∧ cap ≤ maxLen ∧ off + cap ≤ cur.size ∧ (cur.toList.drop off).take bs.length = bytesV bs
theorem OffRow.of_own {w : World} {B : Nat} {v : Value} {bs : List UInt8} (h : w.ownsRow B 5 1 v bs.length (bytesV bs)) : OffRow w B v bs := by
  rcases h.2 with ⟨rfl, h0⟩ | ⟨g, cap, cur, rfl, hb, hg, h1, h2, h3, h4⟩
  · exact .inl ⟨rfl, List.eq_nil_of_length_eq_zero h0⟩
  · exact .inr ⟨g, 0, cap, cur, rfl, hb, hg, h1, h2, by omega, by simpa using h4⟩
theorem OffRow.sb {w : World} {B : Nat} {v : Value} {bs : List UInt8} (h : OffRow w B v bs) (hl : bs.length ≤ 140737488355328) : SB w v bs := by
  rcases h with ⟨rfl, rfl⟩ | ⟨g, off, cap, cur, rfl, hb, hg, h1, h2, h3, h4⟩
  · exact SB_nil w
  · refine ⟨_, _, rfl, h1, hl, .inr ⟨g, off, rfl, fun i hi => ?_⟩⟩
    rw [cell_of_row w g (off + i) _ _ _ hg]
    have h5 : ((cur.toList.drop off).take bs.length)[i]? = (bytesV bs)[i]? := by rw [h4]
    rw [List.getElem?_take_of_lt hi, List.getElem?_drop] at h5
    rw [← Array.getElem?_toList, h5]
    simp [bytesV, hi]
theorem OffRow.move {A W : World} {B : Nat} {v : Value} {bs : List UInt8} (h : OffRow A B v bs) (hk : ∀ k cs, B ≤ k → A.heap[k]? = some (.cells cs 5 (0, 0)) → W.heap[k]? = some (.cells cs 5 (0, 0))) : OffRow W B v bs := by
  rcases h with h | ⟨g, off, cap, cur, hv, hb, hg, h1, h2, h3, h4⟩
  · exact .inl h
  · exact .inr ⟨g, off, cap, cur, hv, hb, hk g cur hb hg, h1, h2, h3, h4⟩
theorem OffRow.below {A W : World} {B : Nat} {v : Value} {bs : List UInt8} (h : OffRow A B v bs) (hb : Below A.heap.size A W) : OffRow W B v bs := h.move fun _ _ _ h0 => blk_below h0 hb
theorem OffRow.base_le {w : World} {B B' : Nat} {v : Value} {bs : List UInt8} (h : OffRow w B v bs) (hb : B' ≤ B) : OffRow w B' v bs := by
  rcases h with h | ⟨g, off, cap, cur, hv, h0, hg, h1, h2, h3, h4⟩
  · exact .inl h
  · exact .inr ⟨g, off, cap, cur, hv, by omega, hg, h1, h2, h3, h4⟩
/-- another block's cells are turned: a block of another type -/
theorem OffRow.other {A W : World} {B g : Nat} {v : Value} {bs : List UInt8} {cs : Array Value} {t : TypeId} (h : OffRow A B v bs) (hg : A.heap[g]? = some (.cells cs t (0, 0))) (ht : t ≠ 5) (hgr : A.grownBy W (some g)) : OffRow W B v bs :=
  h.move fun k cs' _ h0 => blk_grown h0 hgr (fun e => by
    injection e with e
    subst e
    rw [hg] at h0
    injection h0 with h0
    injection h0 with _ h0
    exact ht h0)
theorem OffRow.len {w : World} {B : Nat} {v : Value} {bs : List UInt8} (h : OffRow w B v bs) : lenS v = bs.length := by
  rcases h with ⟨rfl, rfl⟩ | ⟨g, off, cap, cur, rfl, _⟩ <;> rfl
theorem OffRow.shape {w : World} {B : Nat} {v : Value} {bs : List UInt8} (h : OffRow w B v bs) : ∃ A c, v = .slice A bs.length c := by
  rcases h with ⟨rfl, rfl⟩ | ⟨g, off, cap, cur, rfl, _⟩ <;> exact ⟨_, _, rfl⟩
theorem OffRow.ge {w : World} {B : Nat} {v : Value} {bs : List UInt8} (h : OffRow w B v bs) : ∀ k, v.ownBlock = some k → B ≤ k := by
  intro k e
  rcases h with ⟨rfl, rfl⟩ | ⟨g, off, cap, cur, rfl, hb, _⟩
  · cases e
  · have : g = k := by simpa [Value.ownBlock] using e
    omega
/-- v[64:] -/
theorem OffRow.drop64 {w : World} {B b o c : Nat} {bs : List UInt8} (h : OffRow w B (.slice (some ⟨b, o, none⟩) bs.length c) bs) (hl : 64 < bs.length) : OffRow w B (.slice (some ⟨b, o + 64, none⟩) (bs.length - 64) (c - 64)) (bs.drop 64) := by
  rcases h with ⟨h0, _⟩ | ⟨g, off, cap, cur, hv, hb, hg, h1, h2, h3, h4⟩
  · injection h0 with h0; cases h0
  · injection hv with hv1 hv2 hv3
    injection hv1 with hv1
    injection hv1 with e1 e2
    subst e1; subst e2; subst hv3
    refine .inr ⟨b, o + 64, c - 64, cur, by simp, hb, hg, by simp; omega, by omega, by omega, ?_⟩
    have h5 := congrArg (List.drop 64) h4
    rw [List.drop_take, List.drop_drop] at h5
    rw [List.length_drop, h5]
    simp [bytesV]
/-- a block that is not v's own: as it was -/
theorem OffRow.keep {A W : World} {B : Nat} {v : Value} {bs : List UInt8} (h : OffRow A B v bs) (hgr : A.grownBy W v.ownBlock) {g : Nat} {cs : Array Value} {t : TypeId} (hg : A.heap[g]? = some (.cells cs t (0, 0))) (ht : t ≠ 5) : W.heap[g]? = some (.cells cs t (0, 0)) := by
  refine blk_grown hg hgr (fun e => ?_)
  rcases h with ⟨rfl, _⟩ | ⟨g', off, cap, cur, rfl, hb, hg', _⟩
  · cases e
  · injection e with e
    subst e
    rw [hg] at hg'
    injection hg' with hg'
    injection hg' with _ hg'
    exact ht hg'
/-- append of one byte -/
theorem run_append_off (w : World) (B : Nat) (v : Value) (bs : List UInt8) (h : OffRow w B v bs) (hB : B ≤ w.heap.size) (x : UInt8) (b : Nat) (c : Nat) (hn : w.cell? ⟨b, 0, none⟩ = some (.int .u8 (x.toNat : Int))) (hl : bs.length + 1 ≤ 140737488355328) :
    ∃ v' w', (Builtin.append_ #[24, 24] 24 #[v, .slice (some ⟨b, 0, none⟩) 1 c]).run Try.prog w = .ok v' w' ∧ OffRow w' B v' (bs ++ [x]) ∧ w.grownBy w' v.ownBlock := by
  obtain ⟨i, hi, hz, h1s, h1b⟩ := info_parts info5
  have hcells : ∀ j u, [Value.int .u8 (x.toNat : Int)][j]? = some u → w.cell? ((⟨b, 0, none⟩ : Addr).add j) = some u := by
    intro j u hu
    have hj : j = 0 := by have := (List.getElem?_eq_some_iff.1 hu).1; simp at this; omega
    subst hj
    rw [add_plain, Nat.zero_add, hn]
    simpa using hu
  have hone : ∀ u ∈ [Value.int .u8 (x.toNat : Int)], u.oneCell' = true := by intro u hu; rw [List.mem_singleton.1 hu]; rfl
  rcases h with ⟨rfl, rfl⟩ | ⟨g, off, cap, cur, rfl, hb, hg, h1, h2, h3, h4⟩
  · obtain ⟨v', w', hr, hown, hgr, hat⟩ := run_append_src (P := Try.prog) w B 24 24 5 i (.int .u8 0) 1 Try.underlying24 hi hz h1s h1b rfl (.slice none 0 0) 0 [] (World.ownsRow_nil w B 5 1) (some ⟨b, 0, none⟩) 1 c [.int .u8 (x.toNat : Int)] rfl (fun h => by cases h) (fun ad e j u hu => by injection e with e; subst e; exact hcells j u hu) hone (by unfold maxLen; omega) (by omega) hB
    exact ⟨v', w', hr, OffRow.of_own hown, hgr⟩
  · have hlen : (bs ++ [x]).length = bs.length + 1 := by simp
    by_cases hroom : bs.length + 1 ≤ cap
    · have hf := run_firstCells_some (P := Try.prog) w i.size 1 ⟨b, 0, none⟩ 1 c [.int .u8 (x.toNat : Int)] (by rw [h1s]; rfl) hcells
      rw [h1s] at hf
      have hst := run_storeCells_at Try.prog g (off + bs.length) 5 [.int .u8 (x.toNat : Int)] 0 cur w hg (by simp; omega) hone
      refine ⟨.slice (some ⟨g, off, none⟩) (bs.length + 1) cap, w.setRow g (cur.toList.take (off + bs.length + 0) ++ [Value.int .u8 (x.toNat : Int)] ++ cur.toList.drop (off + bs.length + 0 + [Value.int .u8 (x.toNat : Int)].length)).toArray, ?_, ?_, ?_⟩
      · simp only [Nat.add_zero] at hst ⊢
        simp [Builtin.append_, run_underlying Try.underlying24, sizeOf, typeInfo, hi, Builtin.lenOf, hroom, hf, h1s, add_plain, hst]
      · refine .inr ⟨g, off, cap, _, by rw [hlen], hb, setRow_heap w g cur _ 5 (0, 0) hg, by rw [hlen]; exact hroom, h2, ?_, ?_⟩
        · simp; omega
        · rw [hlen, bytesV_append, ← h4]
          simp only [Nat.add_zero, List.length_singleton]
          have hs : off + bs.length + 1 ≤ cur.toList.length := by simp; omega
          apply List.ext_getElem?
          intro q
          have e1 : (cur.toList.take (off + bs.length)).length = off + bs.length := by simp; omega
          have e2 : ((cur.toList.drop off).take bs.length).length = bs.length := by simp; omega
          by_cases hq : q < bs.length
          · rw [List.getElem?_take_of_lt (by omega), List.getElem?_drop, List.append_assoc, List.getElem?_append_left (by rw [e1]; omega), List.getElem?_take_of_lt (by omega),
              List.getElem?_append_left (by rw [e2]; omega), List.getElem?_take_of_lt hq, List.getElem?_drop]
          · by_cases hq2 : q = bs.length
            · subst hq2
              rw [List.getElem?_take_of_lt (by omega), List.getElem?_drop, List.append_assoc]
              have a2 : ((cur.toList.drop off).take bs.length ++ bytesV [x])[bs.length]? = some (Value.int .u8 (x.toNat : Int)) := by
                rw [List.getElem?_append_right (by rw [e2]; omega), e2]
                simp [bytesV]
              rw [a2, List.getElem?_append_right (by rw [e1]; omega), e1]
              simp
            · rw [List.getElem?_eq_none (by simp; omega), List.getElem?_eq_none (by simp [bytesV]; omega)]
      · exact ⟨rfl, rfl, rfl, by simp, fun k _ hk => setRow_other w g k _ (fun e => hk (by simp [e, Value.ownBlock]))⟩
    · have hg2 : cap < bs.length + 1 := by omega
      have holds : ∀ j u, (bytesV bs)[j]? = some u → w.cell? ((⟨g, off, none⟩ : Addr).add j) = some u := by
        intro j u hu
        have hj : j < bs.length := by have := (List.getElem?_eq_some_iff.1 hu).1; simpa [bytesV] using this
        rw [add_plain, cell_of_row w g (off + j) _ _ _ hg, ← Array.getElem?_toList]
        rw [← h4, List.getElem?_take_of_lt hj, List.getElem?_drop] at hu
        exact hu
      have hr := run_append_grow (P := Try.prog) w 24 24 5 i (.int .u8 0) Try.underlying24 hi hz ⟨g, off, none⟩ bs.length cap (bytesV bs) (by rw [h1s, bytesV_length, Nat.mul_one]) holds ⟨b, 0, none⟩ 1 c [.int .u8 (x.toNat : Int)] (by rw [h1s]; rfl) hcells hg2 (by omega) (growslice_fits hg2 (by rw [h1b]; omega))
      have hge := grownCap_ge w (bs.length + 1) cap 5
      have hcm : grownCap w (bs.length + 1) cap 5 ≤ maxLen := grownCap_le_maxLen w (bs.length + 1) cap 5 (by unfold maxLen; omega)
      refine ⟨_, _, hr, .inr ⟨w.heap.size, 0, grownCap w (bs.length + 1) cap 5, _, by rw [hlen], hB, heap_alloc_new w.drew _, by rw [hlen]; exact hge, hcm, ?_, ?_⟩, ⟨rfl, rfl, rfl, by simp, fun k hk _ => heap_alloc_old w.drew _ k hk⟩⟩
      · simp [size_zeroCells, bytesV_length, Value.cells]
        omega
      · rw [hlen, bytesV_append, List.drop_zero]
        have e : (bytesV bs ++ bytesV [x]).length = bs.length + 1 := by simp [bytesV]
        rw [Array.toList_append, Array.toList_append]
        rw [List.take_append_of_le_length (by simp [bytesV])]
        rw [List.take_of_length_le (by simp [bytesV])]
        simp [bytesV]
theorem wpList_append_off {Q : Exit → Act → World → Prop} {o : Oper} {a : Act} {w : World} {ops : Array Oper} {rest : List Oper} (hgd : o.guard = none) (s y : Operand) (ho : o.op = .call { callee := .builtin .append, args := #[s, y], argTypes := #[24, 24] }) (hty : o.type = 24)
    (B : Nat) (v : Value) (bs : List UInt8) (hs : a.eval s = v) (h : OffRow w B v bs) (hB : B ≤ w.heap.size) (x : UInt8) (b c : Nat) (hy : a.eval y = .slice (some ⟨b, 0, none⟩) 1 c) (hn : w.cell? ⟨b, 0, none⟩ = some (.int .u8 (x.toNat : Int))) (hl : bs.length + 1 ≤ 140737488355328)
    (hK : ∀ v' w', OffRow w' B v' (bs ++ [x]) → w.grownBy w' v.ownBlock → wpList Try.prog ops Q rest (a.put o.dst v') w') : wpList Try.prog ops Q (o :: rest) a w := by
  refine wpList_plain hgd fun K hK' => ?_
  obtain ⟨v', w', hrun, h2, h3⟩ := run_append_off w B v bs h hB x b c hn hl
  unfold Oper.wp execOp
  simp only [ho, hty, resolve, invoke, builtin, Sem.run_bind, Sem.run_pure, Result.andThen_ok, List.map_toArray, List.map_cons, List.map_nil, hs, hy, hrun]
  exact hK' _ _ (hK v' w' h2 h3)
end Go.Proofs.Ytnemclbeofiakaa
