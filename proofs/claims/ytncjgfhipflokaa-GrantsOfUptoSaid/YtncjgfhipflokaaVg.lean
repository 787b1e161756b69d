/-
  GrantsMore: what the walk stands on.
-/
import Derived.Test.YtncjgfhipflokaaVf
namespace Go.Proofs.Ytncjgfhipflokaa
open Go.RowKit Go.Shelf Hp Go.Maps

theorem DOwn.keep {w w' : World} {d : Doc} {r : List Value} (h : DOwn w d r) (hk9 : ∀ (k : Nat) (cs : Array Value), w.heap[k]? = some (.cells cs 9 (0, 0)) → w'.heap[k]? = some (.cells cs 9 (0, 0))) (hkg : ∀ (k : Nat) (o : Obj), (r.getD 4 undef).ownBlock = some k → w.heap[k]? = some o → w'.heap[k]? = some o) : DOwn w' d r := by
  obtain ⟨sq, nd, ch, gr, gn, rfl, hnd, h1, h2, h3⟩ := h
  refine ⟨sq, nd, ch, gr, gn, rfl, hnd, ⟨h1.1, h1.2.imp _root_.id ?_⟩, ownm_keep2 h2 (fun g o _ hg h0 => hkg g o hg h0), h3⟩
  rintro ⟨b, cap, cur, e1, e2, e3, e4⟩
  exact ⟨b, cap, cur, e1, e2, hk9 b cur e3, e4⟩
theorem DOwn.all {w w' : World} {d : Doc} {r : List Value} (h : DOwn w d r) (hk : ∀ (k : Nat) (o : Obj), w.heap[k]? = some o → w'.heap[k]? = some o) : DOwn w' d r := h.keep (fun k _ h0 => hk k _ h0) (fun k o _ h0 => hk k o h0)
theorem flat_set {α : Type} {m : Nat} (rows : List (List α)) (hl : ∀ r ∈ rows, r.length = m) {k j : Nat} {r : List α} (hr : rows[k]? = some r) (hj : j < m) (u : α) : (rows.set k (r.set j u)).flatten = rows.flatten.set (k * m + j) u := by
  obtain ⟨hlt, he⟩ := List.getElem?_eq_some_iff.1 hr
  have hrl : r.length = m := hl r (List.mem_of_getElem? hr)
  have e : rows = rows.take k ++ ([r] ++ rows.drop (k + 1)) := by rw [← he, List.singleton_append, List.getElem_cons_drop, List.take_append_drop]
  have e2 : rows.set k (r.set j u) = rows.take k ++ ([r.set j u] ++ rows.drop (k + 1)) := by
    rw [List.set_eq_take_append_cons_drop, if_pos hlt]; rfl
  have ht : (rows.take k).flatten.length = k * m := by
    rw [flat_len _ (fun r hr => hl r (List.mem_of_mem_take hr)), List.length_take, Nat.min_eq_left (by omega)]
  have e3 := congrArg List.flatten e
  rw [e2, e3]
  simp only [List.flatten_append, List.flatten_cons, List.flatten_nil, List.append_nil]
  rw [List.set_append_right _ _ (by omega), ht, Nat.add_sub_cancel_left, List.set_append_left _ _ (by omega)]
theorem own_set {w w' : World} {B m n k j g : Nat} {e : TypeId} {v u : Value} {rows : List (List Value)} {r : List Value} {cur : Array Value} (h : w.ownsRow B e m v n rows.flatten) (hn : rows.length = n) (hl : ∀ r ∈ rows, r.length = m) (hr : rows[k]? = some r) (hj : j < m) (hg : v.ownBlock = some g) (hc : w.heap[g]? = some (.cells cur e (0, 0)))
    (hs : w'.heap[g]? = some (.cells (cur.toList.take (k * m + j) ++ [u] ++ cur.toList.drop (k * m + j + 1)).toArray e (0, 0))) : w'.ownsRow B e m v n (rows.set k (r.set j u)).flatten ∧ k * m + j < cur.size := by
  obtain ⟨h1, h2⟩ := h
  rcases h2 with ⟨rfl, _⟩ | ⟨g', cap, cur', rfl, hB, hg', h3, h4, h5, h6⟩
  · cases hg
  have : g' = g := by simpa [Value.ownBlock] using hg
  subst this
  rw [hc] at hg'
  injection hg' with hg'
  injection hg' with hg' _
  subst hg'
  have hlt : k < n := by rw [← hn]; exact (List.getElem?_eq_some_iff.1 hr).1
  have hkm : k * m + j < n * m := by
    have : (k + 1) * m ≤ n * m := Nat.mul_le_mul_right m (by omega)
    rw [Nat.add_mul, Nat.one_mul] at this
    omega
  have hsz : k * m + j < cur.toList.length := by
    have : n * m ≤ cur.toList.length := by
      have e := congrArg List.length h6
      rw [List.length_take, h1] at e
      omega
    omega
  have e1 : cur.toList.take (k * m + j) ++ [u] ++ cur.toList.drop (k * m + j + 1) = cur.toList.set (k * m + j) u := by
    rw [List.set_eq_take_append_cons_drop, if_pos hsz]
    simp
  rw [e1] at hs
  have hl2 : ∀ r' ∈ rows.set k (r.set j u), r'.length = m := by
    intro r' hr'
    rcases List.mem_or_eq_of_mem_set hr' with h | rfl
    · exact hl r' h
    · rw [List.length_set]; exact hl r (List.mem_of_getElem? hr)
  refine ⟨⟨by rw [flat_len _ hl2, List.length_set, hn], .inr ⟨g', cap, _, rfl, hB, hs, h3, h4, by simpa using h5, ?_⟩⟩, by simpa using hsz⟩
  show (cur.toList.set (k * m + j) u).take (n * m) = _
  rw [List.take_set, h6, flat_set rows hl hr hj]
/-- documents that own their rows, in a row that is owned -/
structure TS (X N9 n : Nat) (sq : Int) (dv lv sv : Value) (rows : List (List Value)) (docs : List Doc) (W : World) : Prop where
  row : W.heap[N9]? = some (.cells (stV sq dv lv sv) 27 (0, 0))
  own : W.ownsRow (X + 1) 45 6 dv n rows.flatten
  len : rows.length = n
  dlen : docs.length = n
  docs : ∀ (k : Nat) (r : List Value) (d : Doc), rows[k]? = some r → docs[k]? = some d → DOwn W d r
theorem TS.stt {X N9 n : Nat} {sq : Int} {dv lv sv : Value} {rows : List (List Value)} {docs : List Doc} {W : World} (h : TS X N9 n sq dv lv sv rows docs W) (hf : Fit docs) : Stt W.heap.size N9 docs sq dv lv sv W := by
  have hd : DRow W.heap.size W rows docs := ⟨by rw [h.len, h.dlen], fun k r d h1 h2 => (h.docs k r d h1 h2).docR⟩
  have ho := h.own
  rw [← h.dlen] at ho
  exact ⟨DS.of_own ho hd (Nat.le_refl _) (Nat.le_refl _), h.row, Nat.le_refl _, hf⟩
theorem TS.all {X N9 n : Nat} {sq : Int} {dv lv sv : Value} {rows : List (List Value)} {docs : List Doc} {W W' : World} (h : TS X N9 n sq dv lv sv rows docs W) (hk : ∀ (k : Nat) (o : Obj), W.heap[k]? = some o → W'.heap[k]? = some o) : TS X N9 n sq dv lv sv rows docs W' :=
  ⟨hk _ _ h.row, ownm_keep2 h.own (fun g o _ _ h0 => hk g o h0), h.len, h.dlen, fun k r d h1 h2 => (h.docs k r d h1 h2).all hk⟩
theorem TS.rowlen {X N9 n : Nat} {sq : Int} {dv lv sv : Value} {rows : List (List Value)} {docs : List Doc} {W : World} (h : TS X N9 n sq dv lv sv rows docs W) : ∀ r ∈ rows, r.length = 6 := by
  intro r hr
  obtain ⟨k, hk⟩ := List.mem_iff_getElem?.1 hr
  have hlt : k < rows.length := (List.getElem?_eq_some_iff.1 hk).1
  have hkl : k < docs.length := by rw [h.dlen, ← h.len]; exact hlt
  obtain ⟨_, _, _, _, _, rfl, _⟩ := h.docs k r docs[k] hk (List.getElem?_eq_getElem hkl)
  rfl
/-- the grant more is stored -/
theorem TS.more {X N9 n k bD : Nat} {sq : Int} {dv lv sv : Value} {rows : List (List Value)} {docs : List Doc} {W W5 W6 : World} {d : Doc} {r : List Value} {gr' : Value} {cur : Array Value} {g : S × S} (h : TS X N9 n sq dv lv sv rows docs W) (hds : DistX X rows) (hk : docs[k]? = some d) (hr : rows[k]? = some r)
    (hgr : W.grownBy W5 (r.getD 4 undef).ownBlock) (hown : W5.ownsRow 0 48 2 gr' (d.grants.length + 1) ((grC d.grants).flatten ++ [encStr g.1, encStr g.2])) (hnew : ∀ b, gr'.ownBlock = some b → (r.getD 4 undef).ownBlock = some b ∨ W.heap.size ≤ b)
    (hbD : dv.ownBlock = some bD) (hcur : W5.heap[bD]? = some (.cells cur 45 (0, 0))) (hst : W6.heap[bD]? = some (.cells (cur.toList.take (k * 6 + 4) ++ [gr'] ++ cur.toList.drop (k * 6 + 4 + 1)).toArray 45 (0, 0))) (hgr6 : W5.grownBy W6 (some bD)) (hg : g.1.length ≤ maxLen ∧ g.2.length ≤ maxLen) :
    TS X N9 n sq dv lv sv (rows.set k (r.set 4 gr')) (more docs k d g) W6 := by
  have hdk := h.docs k r d hr hk
  obtain ⟨sqk, nd, ch, gr, gn, rfl, hnd, o1, o2, hl1, hl2, hl3⟩ := hdk
  have hgrD : (docC d.id sqk nd ch gr gn).getD 4 undef = gr := rfl
  rw [hgrD] at hgr hnew
  have hdvW := h.own
  -- which blocks stay
  have hty : ∀ (b : Nat) (cs : Array Value) (t : TypeId), t ≠ 48 → W.heap[b]? = some (.cells cs t (0, 0)) → W5.heap[b]? = some (.cells cs t (0, 0)) := by
    intro b cs t ht h0
    refine blk_grown h0 hgr (fun e => ?_)
    rcases o2.2 with ⟨e0, _⟩ | ⟨g', cap, cu, e0, _, g2, _⟩
    · rw [e0] at e; cases e
    · rw [e0] at e
      have : b = g' := by simpa [Value.ownBlock] using e
      subst this
      rw [h0] at g2
      injection g2 with g2
      injection g2 with _ g2
      exact ht g2
  have hty6 : ∀ (b : Nat) (cs : Array Value) (t : TypeId), t ≠ 45 → W5.heap[b]? = some (.cells cs t (0, 0)) → W6.heap[b]? = some (.cells cs t (0, 0)) := by
    intro b cs t ht h0
    refine blk_grown h0 hgr6 (fun e => ?_)
    injection e with e
    subst e
    rw [hcur] at h0
    injection h0 with h0
    injection h0 with _ h0
    exact ht h0.symm
  have hown5 : W5.ownsRow (X + 1) 45 6 dv n rows.flatten := ⟨hdvW.1, hdvW.2.imp _root_.id (fun ⟨b, cap, cu, e1, e2, e3, e4⟩ => ⟨b, cap, cu, e1, e2, hty b cu 45 (by decide) e3, e4⟩)⟩
  obtain ⟨hown6, hlt6⟩ := own_set hown5 h.len h.rowlen hr (by decide : 4 < 6) hbD hcur hst
  refine ⟨hty6 _ _ 27 (by decide) (hty _ _ 27 (by decide) h.row), hown6, by rw [List.length_set, h.len], by unfold Go.Proofs.Ytncjgfhipflokaa.more; rw [List.length_set, h.dlen], fun i r' d' h1 h2 => ?_⟩
  unfold Go.Proofs.Ytncjgfhipflokaa.more at h2
  by_cases hik : k = i
  · subst hik
    rw [List.getElem?_set, if_pos rfl, if_pos (List.getElem?_eq_some_iff.1 hr).1] at h1
    rw [List.getElem?_set, if_pos rfl, if_pos (List.getElem?_eq_some_iff.1 hk).1] at h2
    injection h1 with h1
    injection h2 with h2
    subst h1 h2
    refine ⟨sqk, nd, ch, gr', gn, rfl, hnd, ⟨o1.1, o1.2.imp _root_.id (fun ⟨b, cap, cu, e1, e2, e3, e4⟩ => ⟨b, cap, cu, e1, e2, hty6 b cu 9 (by decide) (hty b cu 9 (by decide) e3), e4⟩)⟩, ?_, hl1, hl2, fun x hx => ?_⟩
    · have e : (grC (d.grants ++ [g])).flatten = (grC d.grants).flatten ++ [encStr g.1, encStr g.2] := by simp [grC]
      show W6.ownsRow 0 48 2 gr' (d.grants ++ [g]).length (grC (d.grants ++ [g])).flatten
      rw [e, List.length_append, List.length_singleton]
      exact ⟨hown.1, hown.2.imp _root_.id (fun ⟨b, cap, cu, e1, e2, e3, e4⟩ => ⟨b, cap, cu, e1, e2, hty6 b cu 48 (by decide) e3, e4⟩)⟩
    · rcases List.mem_append.1 hx with hx | hx
      · exact hl3 x hx
      · rw [List.mem_singleton.1 hx]; exact hg
  · rw [List.getElem?_set, if_neg hik] at h1 h2
    have hdi := h.docs i r' d' h1 h2
    refine hdi.keep (fun b cs h0 => hty6 b cs 9 (by decide) (hty b cs 9 (by decide) h0)) (fun b o hb h0 => ?_)
    obtain ⟨sqi, ndi, chi, gri, gni, rfl, _, _, oi2, _⟩ := hdi
    have hb : gri.ownBlock = some b := hb
    have hne : gr.ownBlock ≠ some b := by
      intro e
      rcases Nat.lt_or_ge k i with hlt | hge
      · exact hds.1 k i hlt _ _ hr h1 b e hb
      · exact hds.1 i k (by omega) _ _ h1 hr b hb e
    have h5 : W5.heap[b]? = some o := blk_grown h0 hgr (fun e => hne e.symm)
    refine blk_grown h5 hgr6 (fun e => ?_)
    injection e with e
    subst e
    exact own_apart hdvW oi2 (by decide) b hbD hb
theorem fit_more {docs : List Doc} {k : Nat} {d : Doc} {g : S × S} (h : Small docs) (hk : docs[k]? = some d) : Fit (more docs k d g) := by
  obtain ⟨A, B, e1, e2⟩ := pairs_more (g := g) hk
  have h1 := small_pairs h
  have h2 := h.1
  refine ⟨?_, ?_, by unfold more; rw [List.length_set]; omega⟩
  · rw [e1] at h1
    rw [e2]
    simp only [List.length_append, List.length_cons] at h1 ⊢
    omega
  · intro e he
    unfold more at he
    rcases List.mem_or_eq_of_mem_set he with he | rfl
    · exact h.chans e he
    · exact h.chans d (List.mem_of_getElem? hk)
section
variable {Q : Exit → Act → World → Prop} {o : Oper} {a : Act} {w : World} {K : Act → World → Prop}
theorem ow_eqi (x y : Operand) (t ty : TypeId) (ho : o.op = .binOp .eql t x y ty) (k : IntKind) (i j : Int) (hx : a.eval x = .int k i) (hy : a.eval y = .int k j) (h : K (a.put o.dst (.bool (i == j))) w) : o.wp Try.prog a w K Q := by
  refine ow_value (v := .bool (i == j)) ?_ h
  unfold execOp
  simp only [ho, hx, hy]
  simp [go_sem]
end
end Go.Proofs.Ytncjgfhipflokaa
