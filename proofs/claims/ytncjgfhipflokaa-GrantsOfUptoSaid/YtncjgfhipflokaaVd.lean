/-
  tidewrackref14.CopyDoc: a document, copied.
-/
import Derived.Test.YtncjgfhipflokaaVc
namespace Go.Proofs.Ytncjgfhipflokaa
open Go.RowKit Go.Shelf Hp Go.Maps

/-- the rows that are read -/
def Rd (w : World) (ok : Nat → Prop) (m : Nat) (A : Option Addr) (n : Nat) (rows : List (List Value)) : Prop := rows.length = n ∧ (∀ r ∈ rows, r.length = m ∧ ∀ u ∈ r, u.oneCell' = true) ∧
  (n = 0 ∨ ∃ b o, A = some ⟨b, o, none⟩ ∧ ok b ∧ ∀ (k j : Nat) r u, rows[k]? = some r → r[j]? = some u → w.cell? ⟨b, o + k * m + j, none⟩ = some u)
theorem Rd.keep {w w' : World} {ok ok' : Nat → Prop} {m n : Nat} {A : Option Addr} {rows : List (List Value)} (h : Rd w ok m A n rows) (hk : Keep ok w w') (ho : ∀ b, ok b → ok' b) : Rd w' ok' m A n rows := by
  obtain ⟨h1, h2, h3⟩ := h
  refine ⟨h1, h2, h3.imp _root_.id ?_⟩
  rintro ⟨b, o, e, g1, g2⟩
  exact ⟨b, o, e, ho b g1, fun k j r u e1 e2 => hk.cell g1 (g2 k j r u e1 e2)⟩
theorem One.rd {w : World} {ok : Nat → Prop} {m n c : Nat} {A : Option Addr} {F : List Value → Prop} (h : One w ok m (.slice A n c) n F) (hF : ∀ es, F es → ∀ u ∈ es, u.oneCell' = true) : ∃ rows, Rd w ok m A n rows ∧ ∀ r ∈ rows, F r := by
  obtain ⟨A', c', e, h1, h2⟩ := h
  injection e with e1 _ e3
  subst e1 e3
  rcases h2 with h0 | ⟨b, o, rfl, hb, h2⟩
  · subst h0
    exact ⟨[], ⟨rfl, fun r hr => absurd hr (by simp), .inl rfl⟩, fun r hr => absurd hr (by simp)⟩
  · obtain ⟨rows, hl, hp⟩ := choose_rows (n := n) (p := fun k (es : List Value) => es.length = m ∧ (∀ j u, es[j]? = some u → w.cell? ⟨b, o + k * m + j, none⟩ = some u) ∧ F es) (fun k hk => h2 k hk)
    have hm : ∀ r ∈ rows, r.length = m ∧ F r := fun r hr => by
      obtain ⟨k, hk⟩ := List.mem_iff_getElem?.1 hr
      exact ⟨(hp k r hk).1, (hp k r hk).2.2⟩
    exact ⟨rows, ⟨hl, fun r hr => ⟨(hm r hr).1, hF r (hm r hr).2⟩, .inr ⟨b, o, rfl, hb, fun k j r u e1 e2 => (hp k r e1).2.1 j u e2⟩⟩, fun r hr => (hm r hr).2⟩
theorem Rd.flat {w : World} {ok : Nat → Prop} {m n : Nat} {A : Option Addr} {rows : List (List Value)} (h : Rd w ok m A n rows) (hm : 0 < m) :
    rows.flatten.length = n * m ∧ (A = none → n = 0) ∧ (∀ ad, A = some ad → ∀ (j : Nat) u, rows.flatten[j]? = some u → w.cell? (ad.add j) = some u) ∧ ∀ u ∈ rows.flatten, u.oneCell' = true := by
  obtain ⟨h1, h2, h3⟩ := h
  refine ⟨by rw [flat_len rows (fun r hr => (h2 r hr).1), h1], fun e => ?_, fun ad e j u hu => ?_, fun u hu => ?_⟩
  · rcases h3 with h3 | ⟨b, o, e', _⟩
    · exact h3
    · rw [e] at e'; cases e'
  · rcases h3 with h3 | ⟨b, o, e', _, h4⟩
    · have : rows = [] := List.eq_nil_of_length_eq_zero (by omega)
      subst this
      simp at hu
    · rw [e] at e'
      injection e' with e'
      subst e'
      obtain ⟨r, e1, e2⟩ := flat_of hm rows (fun r hr => (h2 r hr).1) j u hu
      have h5 := h4 _ _ r u e1 e2
      rw [add_plain]
      have h6 : o + j / m * m + j % m = o + j := by have := Nat.div_add_mod j m; rw [Nat.mul_comm] at this; omega
      rwa [h6] at h5
  · obtain ⟨r, hr, hu⟩ := List.mem_flatten.1 hu
    exact (h2 r hr).2 u hu
theorem Two.of_rd {w : World} {ok : Nat → Prop} {B m n c : Nat} {e : TypeId} {A : Option Addr} {v : Value} {rows : List (List Value)} (h : w.ownsRow B e m v n rows.flatten) (hr : Rd w ok m A n rows) (hn : n ≤ 1048576) (hB : ∀ b, B ≤ b → b < w.heap.size → ok b) : Two w ok m (.slice A n c) v n (· = ·) := by
  obtain ⟨h1, h2, h3⟩ := hr
  obtain ⟨A', c', rfl, _, _, h5⟩ := own_cells h h1 (fun r hr => (h2 r hr).1)
  refine ⟨A, c, A', c', rfl, rfl, hn, ?_⟩
  rcases h5 with h5 | ⟨b', rfl, g1, g2, h5⟩
  · exact .inl h5
  rcases h3 with h3 | ⟨b, o, rfl, hb, h4⟩
  · exact .inl h3
  refine .inr ⟨b, o, b', 0, rfl, rfl, hb, hB b' g1 g2, fun k hk => ?_⟩
  have hk' : k < rows.length := by omega
  exact ⟨rows[k], rows[k], (h2 _ (List.getElem_mem hk')).1, (h2 _ (List.getElem_mem hk')).1, fun j u hj => h4 k j _ u (List.getElem?_eq_getElem hk') hj, fun j u hj => h5 k j _ u (List.getElem?_eq_getElem hk') hj, rfl⟩
/-- a document's cells, all that is behind them -/
def onesP (es : List Value) : Prop := ∀ u ∈ es, u.oneCell' = true
def DF (w : World) (ok : Nat → Prop) (m : Nat) (es : List Value) : Prop := ∃ id sq nd ch gr gn n1 n2, es = docC id sq nd ch gr gn ∧ TF w ok m nd ∧ One w ok 1 ch n1 onesP ∧ One w ok 2 gr n2 onesP
/-- a row of one's own that holds what another holds -/
def CpO (w : World) (ok : Nat → Prop) (e : TypeId) (m : Nat) (v v' : Value) (n : Nat) : Prop := ∃ A c rows, v = .slice A n c ∧ n ≤ 1048576 ∧ Rd w ok m A n rows ∧ w.ownsRow 0 e m v' n rows.flatten ∧ ∀ k, v'.ownBlock = some k → ok k
theorem CpO.keep {w w' : World} {ok ok' : Nat → Prop} {e : TypeId} {m n : Nat} {v v' : Value} (h : CpO w ok e m v v' n) (hm : 0 < m) (hk : Keep ok w w') (ho : ∀ b, ok b → b < w.heap.size → ok' b) : CpO w' ok' e m v v' n := by
  obtain ⟨A, c, rows, h1, h2, h3, h4, h5⟩ := h
  refine ⟨A, c, rows, h1, h2, ?_, ownm_keep2 h4 (fun g o _ hg h0 => hk g o (h5 g hg) h0), fun k hk' => ho k (h5 k hk') (ownm_lt h4 k hk')⟩
  obtain ⟨g1, g2, g3⟩ := h3
  rcases Nat.eq_zero_or_pos n with h0 | h0
  · exact ⟨g1, g2, .inl h0⟩
  refine ⟨g1, g2, g3.imp _root_.id ?_⟩
  rintro ⟨b, o, e1, g4, g5⟩
  have hr : 0 < rows.length := by omega
  have hl := (g2 rows[0] (List.getElem_mem hr)).1
  exact ⟨b, o, e1, ho b g4 (cell_lt (g5 0 0 rows[0] _ (List.getElem?_eq_getElem hr) (List.getElem?_eq_getElem (by omega)))), fun k j r u e2 e3 => hk.cell g4 (g5 k j r u e2 e3)⟩
theorem CpO.shape {w : World} {ok : Nat → Prop} {e : TypeId} {m n : Nat} {v v' : Value} (h : CpO w ok e m v v' n) : ∃ A c, v' = .slice A n c := by
  obtain ⟨_, _, _, _, _, _, h4, _⟩ := h
  exact own_shape h4
theorem CpO.two {w : World} {ok : Nat → Prop} {e : TypeId} {m n : Nat} {v v' : Value} (h : CpO w ok e m v v' n) : Two w ok m v v' n (· = ·) := by
  obtain ⟨A, c, rows, rfl, h2, h3, h4, h5⟩ := h
  have h6 := h4.2
  obtain ⟨A', c', rfl, _, _, h7⟩ := own_cells h4 h3.1 (fun r hr => (h3.2.1 r hr).1)
  refine ⟨A, c, A', c', rfl, rfl, h2, ?_⟩
  rcases h7 with h7 | ⟨b', rfl, g1, g2, h7⟩
  · exact .inl h7
  rcases h3.2.2 with h8 | ⟨b, o, rfl, hb, h8⟩
  · exact .inl h8
  refine .inr ⟨b, o, b', 0, rfl, rfl, hb, h5 b' rfl, fun k hk => ?_⟩
  have hk' : k < rows.length := by rw [h3.1]; exact hk
  exact ⟨rows[k], rows[k], (h3.2.1 _ (List.getElem_mem hk')).1, (h3.2.1 _ (List.getElem_mem hk')).1, fun j u hj => h8 k j _ u (List.getElem?_eq_getElem hk') hj, fun j u hj => h7 k j _ u (List.getElem?_eq_getElem hk') hj, rfl⟩
/-- a document's cells and another's, its like -/
def DE (m : Nat) (w : World) (ok : Nat → Prop) (es es' : List Value) : Prop := ∃ id sq nd ch gr gn nd' ch' gr' n1 n2, es = docC id sq nd ch gr gn ∧ es' = docC id sq nd' ch' gr' gn ∧ TE m w ok nd nd' ∧ CpO w ok 9 1 ch ch' n1 ∧ CpO w ok 48 2 gr gr' n2
theorem DE.lk (m : Nat) : Lk (DE m) := by
  rintro w w' ok ok' es r ⟨id, sq, nd, ch, gr, gn, nd', ch', gr', n1, n2, h1, h2, h3, h4, h5⟩ hk ho
  exact ⟨id, sq, nd, ch, gr, gn, nd', ch', gr', n1, n2, h1, h2, TE.lk m _ _ _ _ _ _ h3 hk ho, h4.keep (by omega) hk ho, h5.keep (by omega) hk ho⟩
theorem DE.len {m : Nat} {w : World} {ok : Nat → Prop} {es es' : List Value} (h : DE m w ok es es') : es'.length = 6 := by
  obtain ⟨_, _, _, _, _, _, _, _, _, _, _, _, rfl, _⟩ := h; rfl
theorem Two.one2 {w : World} {ok : Nat → Prop} {m n : Nat} {v v' : Value} {F : List Value → List Value → Prop} (h : Two w ok m v v' n F) : ∃ A c, v' = .slice A n c := by
  obtain ⟨_, _, A, c, _, e, _⟩ := h; exact ⟨A, c, e⟩
theorem DE.one {m : Nat} {w : World} {ok : Nat → Prop} {es es' : List Value} (h : DE m w ok es es') : ∀ u ∈ es', u.oneCell' = true := by
  obtain ⟨id, sq, nd, ch, gr, gn, nd', ch', gr', n1, n2, -, rfl, ⟨n, h3⟩, h4, h5⟩ := h
  obtain ⟨A1, c1, rfl⟩ := h3.one2
  obtain ⟨A2, c2, rfl⟩ := h4.shape
  obtain ⟨A3, c3, rfl⟩ := h5.shape
  exact docC_one _ _ _ _ _ _ _ _ _ _ _ _
theorem DF.keep {w w' : World} {ok ok' : Nat → Prop} {m : Nat} {es : List Value} (h : DF w ok m es) (hk : Keep ok w w') (ho : ∀ b, ok b → b < w.heap.size → ok' b) : DF w' ok' m es := by
  obtain ⟨id, sq, nd, ch, gr, gn, n1, n2, h1, h2, h3, h4⟩ := h
  exact ⟨id, sq, nd, ch, gr, gn, n1, n2, h1, h2.keep hk ho, h3.keep (by omega) hk ho (fun _ h => h), h4.keep (by omega) hk ho (fun _ h => h)⟩
theorem app48 : (Try.prog.info? 48).map (fun i => (i.zero.map (·.cells.size), i.size, i.bytes)) = some (some 2, 2, 32) := by kernel_rfl

set_option maxHeartbeats 4000000 in
set_option maxRecDepth 8000 in
theorem copyD_any (B0 m : Nat) (es : List Value) (W : World) (hB : B0 ≤ W.heap.size) (h : DF W (fun b => b < B0) m es) :
    Calls Try.prog 23 #[.agg es.toArray] W fun e w' => ∃ es', e = .returned (.agg es'.toArray) ∧ DE m w' (fun b => b < B0 ∨ W.heap.size ≤ b) es es' ∧ (∀ k, (es'.getD 4 undef).ownBlock = some k → W.heap.size ≤ k) ∧ Below W.heap.size W w' := by
  obtain ⟨id, sq, nd, ch, gr, gn, n1, n2, rfl, htf, hch, hgr⟩ := h
  obtain ⟨CA, cc, rfl⟩ : ∃ A c, ch = .slice A n1 c := by obtain ⟨A, c, e, _⟩ := hch; exact ⟨A, c, e⟩
  obtain ⟨GA, gc, rfl⟩ : ∃ A c, gr = .slice A n2 c := by obtain ⟨A, c, e, _⟩ := hgr; exact ⟨A, c, e⟩
  have hn1 : n1 ≤ 1048576 := by obtain ⟨_, _, _, h, _⟩ := hch; exact h
  have hn2 : n2 ≤ 1048576 := by obtain ⟨_, _, _, h, _⟩ := hgr; exact h
  have hnd : nd.oneCell' = true ∧ ∃ A k c, nd = .slice A k c := by obtain ⟨n, A, c, rfl, _⟩ := htf; exact ⟨rfl, _, _, _, rfl⟩
  obtain ⟨hnd1, NA, nn, nc, rfl⟩ := hnd
  obtain ⟨rc, hrc, -⟩ := hch.rd (fun _ h => h)
  obtain ⟨rg, hrg, -⟩ := hgr.rd (fun _ h => h)
  obtain ⟨N, hN⟩ : ∃ N, N = W.heap.size := ⟨_, rfl⟩
  obtain ⟨W0, hW0⟩ : ∃ W0, W0 = W.alloc (.cells (docC id sq (.slice NA nn nc) (.slice CA n1 cc) (.slice GA n2 gc) gn).toArray 45) := ⟨_, rfl⟩
  have hrow : W0.heap[N]? = some (.cells (docC id sq (.slice NA nn nc) (.slice CA n1 cc) (.slice GA n2 gc) gn).toArray 45 (0, 0)) := by rw [hW0, hN]; exact World.alloc_heap_new W _
  have hbel : Below W.heap.size W W0 := by rw [hW0]; exact (Below.refl _ W).alloc (Nat.le_refl _) _
  have hsz : W0.heap.size = N + 1 := by rw [hW0, hN]; simp
  have HSZ0 := Lib.hid hsz
  have HROW := Lib.hid hrow
  have HBEL := Lib.hid hbel
  have HN := Lib.hid hN
  have HB := Lib.hid hB
  have HTF := Lib.hid htf
  have HRC := Lib.hid hrc
  have HRG := Lib.hid hrg
  clear hrow hbel hB hsz htf hrc hrg hch hgr hnd1
  go_enter Try.func23, Try.ntmps23
  go_upto_region 1 with (rw [← HN.out, ← hW0]; refine wpList_alloc_row rfl 45 rfl _ (zero45 _) ?_; rw [HSZ0.out]; intro w1 hT hS hG; have HT1 := Lib.hid hT; have HS1 := Lib.hid hS; have HG1 := Lib.hid (below_of_grown hG); clear hT hS hG)
  simp only [Act.put, List.setIfInBounds_toArray, List.set_cons_zero, List.set_cons_succ]
  clear hN hW0
  have HR1 := Lib.hid (blk_below HROW.out HG1.out)
  have hs1 : w1.heap.size = N + 2 := by have := HS1.out; have := HSZ0.out; omega
  have HB1 := Lib.hid (HBEL.out.trans (HG1.out.mono HBEL.out.size))
  have HZ1 := Lib.hid hs1
  have hcv := copyT_any B0 m (.slice NA nn nc) w1 (by have := HB.out; have := HN.out; omega) (HTF.out.keep (Keep.of_below HB1.out) (fun _ h _ => h))
  have HCV := Lib.hid hcv
  clear hcv hs1 HROW HBEL HSZ0 HG1 HS1
  go_wp2_with (refine wpList_load_at rfl 42 _ rfl N 2 rfl [.slice NA nn nc] _ (fun j u hj => by
      rw [cell_of_row w1 N _ _ _ _ HR1.out]
      match j, hj with
      | 0, hj => exact hj) Try.underlying42 rfl sz42 ?_)
  refine HCV.out.mono ?_
  rintro e w2 ⟨nd', rfl, hte, hb2⟩
  have HTE := Lib.hid hte
  have HB2 := Lib.hid hb2
  have HR2 := Lib.hid (blk_below HR1.out hb2)
  have HQ2 := Lib.hid (blk_below HT1.out hb2)
  obtain ⟨NA', nc', k', rfl⟩ : ∃ A c k, nd' = .slice A k c := by obtain ⟨k, h⟩ := hte; obtain ⟨A, c, e⟩ := h.one2; exact ⟨A, c, k, e⟩
  clear hte hb2 HCV
  go_upto_region 2 with (refine wpList_store_at rfl 42 _ _ rfl N 2 rfl 45 _ (.agg #[.slice NA' k' nc']) [.slice NA' k' nc'] rfl rfl HR2.out (by simp [docC]) sz42 (by intro u hu; rw [List.mem_singleton.1 hu]; rfl) ?_; intro w3 hT hS hG; have HR3 := Lib.hid (show w3.heap[N]? = some (.cells (docC id sq (.slice NA' k' nc') (.slice CA n1 cc) (.slice GA n2 gc) gn).toArray 45 (0, 0)) from hT); have HS3 := Lib.hid hS; have HG3 := Lib.hid hG; clear hT hS hG)
  simp only [Act.put]
  have HQ3 := Lib.hid (blk_grown HQ2.out HG3.out (fun e => by injection e with e; omega))
  have hb3 : Below W.heap.size W w3 := (HB1.out.trans (HB2.out.mono HB1.out.size)).grown HG3.out (by have := HB1.out.size; have := HB2.out.size; omega) (fun k e => by injection e with e; have := HN.out; omega)
  have HTE3 := Lib.hid (TE.lk m w2 w3 _ (fun b => b < B0 ∨ N + 1 < b) _ _ HTE.out (fun k v hk h0 => blk_grown h0 HG3.out (fun e => by injection e with e; have := HB.out; have := HN.out; have := HZ1.out; rcases hk with hk | hk <;> omega)) (fun k hk _ => hk.imp _root_.id (fun h => by have := HZ1.out; omega)))
  have HB3 := Lib.hid hb3
  obtain ⟨G3, hG3⟩ : ∃ G, G = w3.heap.size := ⟨_, rfl⟩
  obtain ⟨w4, hw4⟩ : ∃ w4, w4 = w3.alloc (.cells #[] 9) := ⟨_, rfl⟩
  have hg4 : Below w3.heap.size w3 w4 := by rw [hw4]; exact below_alloc1 _ _
  have HT4 := Lib.hid (show w4.heap[G3]? = some (.cells #[] 9 (0, 0)) from by rw [hw4, hG3]; exact World.alloc_heap_new _ _)
  have HB4 := Lib.hid hg4
  have HR4 := Lib.hid (blk_below HR3.out hg4)
  have HW4 := Lib.hid hw4
  have HG3s := Lib.hid hG3
  have HN3 := Lib.hid (show N + 1 < G3 from by have := blk_lt HQ3.out; omega)
  have HRC4 := Lib.hid ((HRC.out.keep (Keep.of_below HB3.out) (ok' := fun b => b < B0 ∨ N < b) (fun _ h => .inl h)).keep (Keep.of_below hg4) (fun _ h => h))
  have HFC := Lib.hid (HRC4.out.flat (by omega))
  have hr4 : (w3.alloc (.cells #[] 9)).cell? ⟨N, 3, none⟩ = some (.slice CA n1 cc) := by rw [← hw4]; exact cell_of_row w4 N 3 _ _ _ HR4.out
  clear hg4 hw4 hG3 hb3 HR1 HT1 HR2 HQ2 HS3 HTE
  go_upto_region 3 with (first
    | (at_builtin; rw [← HG3s.out, ← HW4.out]; refine wpList_append_n rfl (.tmp 7) (.tmp 9) 35 rfl G3 9 1 16 Try.underlying35 app9 (by decide) _ 0 [] (by rfl) (own_new w4 G3 G3 1 9 (Nat.le_refl _) HT4.out) CA n1 cc rc.flatten (by rfl) HFC.out.1 HFC.out.2.1 HFC.out.2.2.1 HFC.out.2.2.2 (by unfold maxLen; omega) (by omega) (by have := blk_lt HT4.out; omega) ?_
       rw [Nat.zero_add, List.nil_append]
       intro v5 w5 hown hgr _
       have HOC5 := Lib.hid hown
       obtain ⟨CA', cc', rfl⟩ := own_shape hown
       have HGR5 := Lib.hid hgr
       have HR5 := Lib.hid (blk_grown HR4.out hgr (fun e => absurd (Option.some.inj e : N = G3) (by have := HN3.out; omega)))
       clear hown hgr hr4)
    | (refine wpList_store_at rfl 35 _ _ rfl N 3 rfl 45 _ (.slice CA' n1 cc') [.slice CA' n1 cc'] rfl rfl HR5.out (by simp [docC]) (by kernel_rfl) (by intro u hu; rw [List.mem_singleton.1 hu]; rfl) ?_
       intro w6 hT hS hG
       have HR6 := Lib.hid (show w6.heap[N]? = some (.cells (docC id sq (.slice NA' k' nc') (.slice CA' n1 cc') (.slice GA n2 gc) gn).toArray 45 (0, 0)) from hT)
       have HG6 := Lib.hid hG
       clear hT hS hG))
  simp only [Act.put]
  have HTE6 := Lib.hid (TE.lk m w3 w6 _ (fun b => b < B0 ∨ N + 1 < b) _ _ HTE3.out (fun k v hk h0 => blk_grown (blk_grown (blk_below h0 HB4.out) HGR5.out (fun e => by have e : k = G3 := Option.some.inj e; have := blk_lt h0; have := HG3s.out; omega)) HG6.out (fun e => by injection e with e; have := HB.out; have := HN.out; rcases hk with hk | hk <;> omega)) (fun _ h _ => h))
  have HOC6 := Lib.hid (ownm_keep2 HOC5.out (W := w6) (fun g o hg _ h0 => blk_grown h0 HG6.out (fun e => by injection e with e; have := HN3.out; omega)))
  have hb6 : Below W.heap.size W w6 := ((HB3.out.trans (HB4.out.mono HB3.out.size)).grown HGR5.out (by have := HB3.out.size; have := HB4.out.size; omega) (fun k e => by have e : G3 = k := Option.some.inj e; have := HN3.out; have := HN.out; omega)).grown HG6.out (by have := HB3.out.size; have := HB4.out.size; have := HGR5.out.size; omega) (fun k e => by injection e with e; have := HN.out; omega)
  have HB6 := Lib.hid hb6
  have HQ6 := Lib.hid (blk_grown (blk_grown (blk_below HQ3.out HB4.out) HGR5.out (fun e => absurd (Option.some.inj e : N + 1 = G3) (by have := HN3.out; omega))) HG6.out (fun e => by injection e with e; omega))
  clear hb6 HTE3 HOC5 HR5 HR4 HT4 HW4 HFC HRC4 HR3 HQ3
  obtain ⟨G6, hG6⟩ : ∃ G, G = w6.heap.size := ⟨_, rfl⟩
  obtain ⟨w7, hw7⟩ : ∃ w7, w7 = w6.alloc (.cells #[] 48) := ⟨_, rfl⟩
  have hg7 : Below w6.heap.size w6 w7 := by rw [hw7]; exact below_alloc1 _ _
  have HT7 := Lib.hid (show w7.heap[G6]? = some (.cells #[] 48 (0, 0)) from by rw [hw7, hG6]; exact World.alloc_heap_new _ _)
  have HB7 := Lib.hid hg7
  have HR7 := Lib.hid (blk_below HR6.out hg7)
  have HW7 := Lib.hid hw7
  have HG6s := Lib.hid hG6
  have HN6 := Lib.hid (show N + 1 < G6 from by have := blk_lt HQ6.out; omega)
  have HRG7 := Lib.hid ((HRG.out.keep (Keep.of_below HB6.out) (ok' := fun b => b < B0 ∨ N < b) (fun _ h => .inl h)).keep (Keep.of_below hg7) (fun _ h => h))
  have HFG := Lib.hid (HRG7.out.flat (by omega))
  have hr7 : (w6.alloc (.cells #[] 48)).cell? ⟨N, 4, none⟩ = some (.slice GA n2 gc) := by rw [← hw7]; exact cell_of_row w7 N 4 _ _ _ HR7.out
  clear hg7 hw7 hG6
  go_upto_region 4 with (first
    | (at_builtin; rw [← HG6s.out, ← HW7.out]; refine wpList_append_n rfl (.tmp 12) (.tmp 14) 43 rfl G6 48 2 32 Try.underlying43 app48 (by decide) _ 0 [] (by rfl) (own_new w7 G6 G6 2 48 (Nat.le_refl _) HT7.out) GA n2 gc rg.flatten (by rfl) HFG.out.1 HFG.out.2.1 HFG.out.2.2.1 HFG.out.2.2.2 (by unfold maxLen; omega) (by omega) (by have := blk_lt HT7.out; omega) ?_
       rw [Nat.zero_add, List.nil_append]
       intro v8 w8 hown hgr _
       have HOG8 := Lib.hid hown
       obtain ⟨GA', gc', rfl⟩ := own_shape hown
       have HGR8 := Lib.hid hgr
       have HR8 := Lib.hid (blk_grown HR7.out hgr (fun e => absurd (Option.some.inj e : N = G6) (by have := HN6.out; omega)))
       clear hown hgr hr7)
    | (refine wpList_store_at rfl 43 _ _ rfl N 4 rfl 45 _ (.slice GA' n2 gc') [.slice GA' n2 gc'] rfl rfl HR8.out (by simp [docC]) (by kernel_rfl) (by intro u hu; rw [List.mem_singleton.1 hu]; rfl) ?_
       intro w9 hT hS hG
       have HR9 := Lib.hid (show w9.heap[N]? = some (.cells (docC id sq (.slice NA' k' nc') (.slice CA' n1 cc') (.slice GA' n2 gc') gn).toArray 45 (0, 0)) from hT)
       have HG9 := Lib.hid hG
       clear hT hS hG))
  simp only [Act.put]
  have HQ9 := Lib.hid (blk_grown (blk_grown (blk_below HQ6.out HB7.out) HGR8.out (fun e => absurd (Option.some.inj e : N + 1 = G6) (by have := HN6.out; omega))) HG9.out (fun e => by injection e with e; omega))
  go_wp2_with (first
    | (refine wpList_load_row rfl 45 _ rfl N rfl 45 _ (0, 0) _ HR9.out Try.underlying45 rfl (by kernel_rfl) ?_)
    | (refine wpList_store_row rfl 45 _ _ rfl (N + 1) rfl 45 _ _ rfl HQ9.out rfl (by kernel_rfl) (docC_one _ _ _ _ _ _ _ _ _ _ _ _) ?_; intro w10 hT hS hG; have HT10 := Lib.hid hT; have HG10 := Lib.hid hG; clear hT hS hG))
  have hk610 : ∀ (k : Nat) (v : Obj), k < B0 ∨ N + 1 < k → w6.heap[k]? = some v → w10.heap[k]? = some v := fun k v hk h0 => blk_grown (blk_grown (blk_grown (blk_below h0 HB7.out) HGR8.out (fun e => by have e : k = G6 := Option.some.inj e; have := blk_lt h0; have := HG6s.out; omega)) HG9.out (fun e => by injection e with e; have := HB.out; have := HN.out; rcases hk with hk | hk <;> omega)) HG10.out (fun e => by injection e with e; have := HB.out; have := HN.out; rcases hk with hk | hk <;> omega)
  have hb10 : Below W.heap.size W w10 := (((HB6.out.trans (HB7.out.mono HB6.out.size)).grown HGR8.out (by have := HB6.out.size; have := HB7.out.size; omega) (fun k e => by have e : G6 = k := Option.some.inj e; have := HN6.out; have := HN.out; omega)).grown HG9.out (by have := HB6.out.size; have := HB7.out.size; have := HGR8.out.size; omega) (fun k e => by injection e with e; have := HN.out; omega)).grown HG10.out (by have := HB6.out.size; have := HB7.out.size; have := HGR8.out.size; have := HG9.out.size; omega) (fun k e => by injection e with e; have := HN.out; omega)
  have hte10 := TE.lk m w6 w10 _ (fun b => b < B0 ∨ W.heap.size ≤ b) _ _ HTE6.out (fun k v hk h0 => hk610 k v hk h0) (fun k hk _ => hk.imp _root_.id (fun h => by have := HN.out; omega))
  have hoc10 := ownm_keep2 HOC6.out (W := w10) (fun g o hg _ h0 => hk610 g o (.inr (by have := HN3.out; omega)) h0)
  have hog10 := ownm_keep2 HOG8.out (W := w10) (fun g o hg _ h0 => blk_grown (blk_grown h0 HG9.out (fun e => by injection e with e; have := HN6.out; omega)) HG10.out (fun e => by injection e with e; have := HN6.out; omega))
  have hrc10 := HRC.out.keep (Keep.of_below hb10) (ok' := fun b => b < B0 ∨ W.heap.size ≤ b) (fun _ h => .inl h)
  have hrg10 := HRG.out.keep (Keep.of_below hb10) (ok' := fun b => b < B0 ∨ W.heap.size ≤ b) (fun _ h => .inl h)
  refine bodyPost_ret (v := .agg (docC id sq (.slice NA' k' nc') (.slice CA' n1 cc') (.slice GA' n2 gc') gn).toArray) ?_ rfl ⟨_, rfl, ⟨id, sq, _, _, _, gn, _, _, _, n1, n2, rfl, rfl, hte10, ⟨CA, cc, rc, rfl, hn1, hrc10, own_zero hoc10, fun k hk => .inr (by have := ownm_ge hoc10 k hk; have := HN3.out; have := HN.out; omega)⟩, ⟨GA, gc, rg, rfl, hn2, hrg10, own_zero hog10, fun k hk => .inr (by have := ownm_ge hog10 k hk; have := HN6.out; have := HN.out; omega)⟩⟩, fun k hk => (by have := ownm_ge hog10 k hk; have := HN6.out; have := HN.out; omega), hb10⟩
  exact results_cell_row rfl _ w10 (N + 1) 45 _ (0, 0) _ rfl HT10.out Try.underlying45 rfl (by kernel_rfl)
end Go.Proofs.Ytncjgfhipflokaa
