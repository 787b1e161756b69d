/-
  tidewrackref14.SameDoc, rows, SameState: two like states are the same.
-/
import Derived.Test.YtncjgfhipflokaaXg
namespace Go.Proofs.Ytncjgfhipflokaa
open Go.RowKit Go.Shelf Hp Go.Maps

theorem eg48 : Try.prog.eqGuardType Try.prog.depth 48 = false := by kernel_rfl
theorem eg65 : Try.prog.eqGuardType Try.prog.depth 65 = false := by kernel_rfl
theorem eg70 : Try.prog.eqGuardType Try.prog.depth 70 = false := by kernel_rfl
theorem sz65 : (Try.prog.info? 65).map (·.size) = some 2 := by kernel_rfl
theorem sz70 : (Try.prog.info? 70).map (·.size) = some 22 := by kernel_rfl
/-- what is known of the one is known of the other -/
theorem Two.and {w : World} {ok ok1 : Nat → Prop} {m n : Nat} {v v' : Value} {F : List Value → List Value → Prop} {G : List Value → Prop} (h : Two w ok m v v' n F) (h1 : One w ok1 m v n G) : Two w ok m v v' n (fun es es' => F es es' ∧ G es) := by
  obtain ⟨A, c, A', c', rfl, rfl, hn, h2⟩ := h
  obtain ⟨A1, c1, e, _, h3⟩ := h1
  injection e with e1 _ e2
  subst e1 e2
  refine ⟨A, c, A', c', rfl, rfl, hn, ?_⟩
  rcases h2 with h2 | ⟨b, o, b', o', rfl, rfl, g1, g2, h2⟩
  · exact .inl h2
  rcases h3 with h3 | ⟨b1, o1, e, _, h3⟩
  · exact .inl h3
  injection e with e
  injection e with e1 e2
  subst e1 e2
  refine .inr ⟨b, o, b', o', rfl, rfl, g1, g2, fun k hk => ?_⟩
  obtain ⟨es, es', k1, k2, k3, k4, k5⟩ := h2 k hk
  obtain ⟨cs, k6, k7, k8⟩ := h3 k hk
  have : es = cs := by
    apply List.ext_getElem?
    intro j
    rcases Nat.lt_or_ge j m with hj | hj
    · have q1 := k3 j es[j] (List.getElem?_eq_getElem (by omega))
      have q2 := k7 j cs[j] (List.getElem?_eq_getElem (by omega))
      rw [q1] at q2
      rw [List.getElem?_eq_getElem (by omega : j < es.length), List.getElem?_eq_getElem (by omega : j < cs.length)]
      injection q2 with q2
      rw [q2]
    · rw [List.getElem?_eq_none (by omega), List.getElem?_eq_none (by omega)]
  subst this
  exact ⟨es, es', k1, k2, k3, k4, k5, k8⟩
def strC (es : List Value) : Prop := ∃ s : S, es = [encStr s]
def pairC (es : List Value) : Prop := ∃ a b : S, es = [encStr a, encStr b]
def docS (B0 : Nat) (W : World) (es : List Value) : Prop := ∃ id sq nd ch gr gn n1 n2, es = docC id sq nd ch gr gn ∧ One W (fun b => b < B0) 1 ch n1 strC ∧ One W (fun b => b < B0) 2 gr n2 pairC
theorem Elems.one {B0 m n c : Nat} {w : World} {A : Option Addr} {F : Nat → List Value → Prop} {G : List Value → Prop} (h : Elems B0 w m A n F) (hn : n ≤ 1048576) (hG : ∀ k cs, F k cs → G cs) : One w (fun b => b < B0) m (.slice A n c) n G := by
  refine ⟨A, c, rfl, hn, ?_⟩
  rcases Nat.eq_zero_or_pos n with h0 | h0
  · exact .inl h0
  rcases h with h | ⟨b, o, rfl, h⟩
  · exact .inl h
  refine .inr ⟨b, o, rfl, ?_, fun k hk => ?_⟩
  · obtain ⟨cs, _, h1, _⟩ := h 0 h0
    exact h1.1
  · obtain ⟨cs, h1, h2, h3⟩ := h k hk
    exact ⟨cs, h1, h2.2, hG k cs h3⟩
theorem DocR.docS {T : World → Value → Prop} {B0 : Nat} {W : World} {d : Doc} {cs : List Value} (h : DocR T B0 W d cs) (h1 : d.chans.length ≤ 1048576) (h2 : d.grants.length ≤ 1048576) : docS B0 W cs := by
  obtain ⟨sq, nd, ch, gr, gn, rfl, _, ⟨CA, cc, rfl, _, _, _, hc⟩, ⟨GA, gc, rfl, _, _, _, hg⟩, _⟩ := h
  exact ⟨d.id, sq, nd, _, _, gn, _, _, rfl, hc.one h1 (fun k cs h => ⟨_, h⟩), hg.one h2 (fun k cs ⟨x, _, h⟩ => ⟨x.1, x.2, h⟩)⟩
theorem docS.keep {B0 : Nat} {W W' : World} {es : List Value} (h : docS B0 W es) (hk : Keep (fun b => b < B0) W W') : docS B0 W' es := by
  obtain ⟨id, sq, nd, ch, gr, gn, n1, n2, e, h1, h2⟩ := h
  exact ⟨id, sq, nd, ch, gr, gn, n1, n2, e, h1.keep (by omega) hk (fun _ h _ => h) (fun _ h => h), h2.keep (by omega) hk (fun _ h _ => h) (fun _ h => h)⟩

theorem fld45_3' : Fld 45 3 3 := fun _ _ _ => by kernel_rfl
theorem fld45_4' : Fld 45 4 4 := fun _ _ _ => by kernel_rfl
set_option maxHeartbeats 4000000 in
set_option maxRecDepth 4000 in
theorem sameD_any (m : Nat) (ok : Nat → Prop) (B0 : Nat) (es es' : List Value) (W : World) (h : DE m W ok es es') (hs : docS B0 W es) :
    Calls Try.prog 42 #[.agg es.toArray, .agg es'.toArray] W fun e w' => e = .returned (.bool true) ∧ Below W.heap.size W w' := by
  obtain ⟨id, sq, nd, ch, gr, gn, nd', ch', gr', n1, n2, rfl, rfl, hte, hch, hgr⟩ := h
  have hte0 := hte
  obtain ⟨tn, TA, tc, TA', tc', rfl, rfl, -, -⟩ := hte0
  obtain ⟨id2, sq2, nd2, ch2, gr2, gn2, m1, m2, e, ho1, ho2⟩ := hs
  replace e : [encStr id, .int .u64 sq, (.slice TA tn tc), ch, gr, .int .i64 gn] = [encStr id2, .int .u64 sq2, nd2, ch2, gr2, .int .i64 gn2] := e
  injection e with i1 e
  injection e with i2 e
  injection e with i3 e
  injection e with e1 e
  injection e with e2 e9
  clear i1 i2 i3 e9
  subst e1 e2
  have ht1 := hch.two
  have ht2 := hgr.two
  obtain rfl : m1 = n1 := by obtain ⟨_, _, e, _⟩ := ho1; obtain ⟨_, _, _, _, e', _⟩ := ht1; rw [e] at e'; injection e'
  obtain rfl : m2 = n2 := by obtain ⟨_, _, e, _⟩ := ho2; obtain ⟨_, _, _, _, e', _⟩ := ht2; rw [e] at e'; injection e'
  have ht1 := ht1.and ho1
  have ht2 := ht2.and ho2
  obtain ⟨CA, cc, CA', cc', rfl, rfl, hn1, hc⟩ := ht1
  obtain ⟨GA, gc, GA', gc', rfl, rfl, hn2, hg⟩ := ht2
  have hm1 : m1 ≤ 9223372036854775807 := by omega
  have hm2 : m2 ≤ 9223372036854775807 := by omega
  obtain ⟨N, hN⟩ : ∃ N, N = W.heap.size := ⟨_, rfl⟩
  obtain ⟨W0, hW0⟩ : ∃ W0, W0 = (W.alloc (.cells (docC id sq (.slice TA tn tc) (.slice CA m1 cc) (.slice GA m2 gc) gn).toArray 45)).alloc (.cells (docC id sq (.slice TA' tn tc') (.slice CA' m1 cc') (.slice GA' m2 gc') gn).toArray 45) := ⟨_, rfl⟩
  have hrow : W0.heap[N]? = some (.cells (docC id sq (.slice TA tn tc) (.slice CA m1 cc) (.slice GA m2 gc) gn).toArray 45 (0, 0)) := by rw [hW0, hN]; exact blk_alloc (World.alloc_heap_new W _) _
  have hrow' : W0.heap[N + 1]? = some (.cells (docC id sq (.slice TA' tn tc') (.slice CA' m1 cc') (.slice GA' m2 gc') gn).toArray 45 (0, 0)) := by rw [hW0]; exact alloc_new_at (by simp [hN])
  have hbel : Below W.heap.size W W0 := by rw [hW0]; exact ((Below.refl _ W).alloc (Nat.le_refl _) _).alloc (by simp) _
  have ha0 : W0.cell? ⟨N, 0, none⟩ = some (encStr id) := cell_of_row W0 N 0 _ _ _ hrow
  have ha1 : W0.cell? ⟨N, 1, none⟩ = some (.int .u64 sq) := cell_of_row W0 N 1 _ _ _ hrow
  have ha5 : W0.cell? ⟨N, 5, none⟩ = some (.int .i64 gn) := cell_of_row W0 N 5 _ _ _ hrow
  have hb0 : W0.cell? ⟨N + 1, 0, none⟩ = some (encStr id) := cell_of_row W0 (N + 1) 0 _ _ _ hrow'
  have hb1 : W0.cell? ⟨N + 1, 1, none⟩ = some (.int .u64 sq) := cell_of_row W0 (N + 1) 1 _ _ _ hrow'
  have hb5 : W0.cell? ⟨N + 1, 5, none⟩ = some (.int .i64 gn) := cell_of_row W0 (N + 1) 5 _ _ _ hrow'
  have HC2 := Lib.hid (show ∀ j u, [Value.slice TA tn tc][j]? = some u → W0.cell? ⟨N, 2 + j, none⟩ = some u from fun j u hj => by
    match j, hj with
    | 0, hj => rw [cell_of_row W0 N _ _ _ _ hrow]; exact hj)
  have HD2 := Lib.hid (show ∀ j u, [Value.slice TA' tn tc'][j]? = some u → W0.cell? ⟨N + 1, 2 + j, none⟩ = some u from fun j u hj => by
    match j, hj with
    | 0, hj => rw [cell_of_row W0 (N + 1) _ _ _ _ hrow']; exact hj)
  have HST := Lib.hid (sameT_any m ok (.slice TA tn tc) (.slice TA' tn tc') W0 (TE.lk m _ _ _ _ _ _ hte (Keep.of_below hbel) (fun _ h _ => h)))
  have HROW := Lib.hid hrow
  have HROW' := Lib.hid hrow'
  have HBEL := Lib.hid hbel
  have HN := Lib.hid hN
  have HCC := Lib.hid hc
  have HGG := Lib.hid hg
  clear hrow hrow' hbel hc hg hte hch hgr ho1 ho2 hn1 hn2
  go_enter Try.func42, Try.ntmps42
  go_upto_region 1 with fail
  rw [← HN.out, ← hW0]
  clear hN hW0
  go_wp2_with (first
    | (refine wpList_want rfl (ow_load_at 42 _ rfl N 2 rfl [(.slice TA tn tc)] _ HC2.out Try.underlying42 rfl sz42 ?_))
    | (refine wpList_want rfl (ow_load_at 42 _ rfl (N + 1) 2 rfl [(.slice TA' tn tc')] _ HD2.out Try.underlying42 rfl sz42 ?_)))
  refine HST.out.mono ?_
  rintro e w2 ⟨rfl, hb2⟩
  have HB2 := Lib.hid (HBEL.out.trans (hb2.mono HBEL.out.size))
  have HR2 := Lib.hid (blk_below HROW.out hb2)
  have HR2' := Lib.hid (blk_below HROW'.out hb2)
  have ha3 : w2.cell? ⟨N, 3, none⟩ = some (.slice CA m1 cc) := cell_of_row w2 N 3 _ _ _ HR2.out
  have ha4 : w2.cell? ⟨N, 4, none⟩ = some (.slice GA m2 gc) := cell_of_row w2 N 4 _ _ _ HR2.out
  have hb3 : w2.cell? ⟨N + 1, 3, none⟩ = some (.slice CA' m1 cc') := cell_of_row w2 (N + 1) 3 _ _ _ HR2'.out
  have hb4 : w2.cell? ⟨N + 1, 4, none⟩ = some (.slice GA' m2 gc') := cell_of_row w2 (N + 1) 4 _ _ _ HR2'.out
  clear hb2 ha0 ha1 ha5 hb0 hb1 hb5 HROW HROW' HST HC2 HD2
  go_upto_region 4 with fail
  clear ha3 ha4 hb3 hb4
  go_loopw [5] (fun vi wr => ∃ q : Nat, vi = .int .i64 (q : Int) ∧ q ≤ m1 ∧ Below w2.heap.size w2 wr) (fun vi _ => m1 - (intOf vi).toNat)
  case atStart => exact ⟨0, rfl, Nat.zero_le _, Below.refl _ _⟩
  case round =>
    obtain ⟨q, rfl, hq, hbl⟩ := hrel
    have ha3 : wr.cell? ⟨N, 3, none⟩ = some (.slice CA m1 cc) := cell_of_row wr N 3 _ _ _ (blk_below HR2.out hbl)
    have hb3 : wr.cell? ⟨N + 1, 3, none⟩ = some (.slice CA' m1 cc') := cell_of_row wr (N + 1) 3 _ _ _ (blk_below HR2'.out hbl)
    have HBL := Lib.hid hbl
    clear hbl
    rcases (show q = m1 ∨ q < m1 by omega) with rfl | hql
    · have hd : decide ((q : Int) < (q : Int)) = false := by simp
      go_wp2_with fail
      clear hd ha3 hb3
      go_loopw [6] (fun vi wq => ∃ q : Nat, vi = .int .i64 (q : Int) ∧ q ≤ m2 ∧ Below w2.heap.size w2 wq) (fun vi _ => m2 - (intOf vi).toNat)
      case atStart => exact ⟨0, rfl, Nat.zero_le _, HBL.out⟩
      case round =>
        clear HBL
        obtain ⟨q, rfl, hq, hbl⟩ := hrel
        have ha4 : wr.cell? ⟨N, 4, none⟩ = some (.slice GA m2 gc) := cell_of_row wr N 4 _ _ _ (blk_below HR2.out hbl)
        have hb4 : wr.cell? ⟨N + 1, 4, none⟩ = some (.slice GA' m2 gc') := cell_of_row wr (N + 1) 4 _ _ _ (blk_below HR2'.out hbl)
        have HBL := Lib.hid hbl
        clear hbl
        rcases (show q = m2 ∨ q < m2 by omega) with rfl | hql
        · have hd : decide ((q : Int) < (q : Int)) = false := by simp
          go_wp2_with fail
          go_ret
          exact ⟨rfl, HB2.out.trans (HBL.out.mono HB2.out.size)⟩
        · have hd : decide ((q : Int) < (m2 : Int)) = true := by simp; omega
          have hd' : decide (q < m2) = true := by simp; omega
          obtain ⟨bl, ol, bl', ol', rfl, rfl, -, -, hes⟩ := HGG.out.resolve_left (by omega)
          obtain ⟨es, es', hl, -, hc, hc', rfl, s1, s2, rfl⟩ := hes q hql
          have hall := HB2.out.trans (HBL.out.mono HB2.out.size)
          have HC := Lib.hid (show ∀ j u, [encStr s1, encStr s2][j]? = some u → wr.cell? ⟨bl, ol + q * 2 + j, none⟩ = some u from fun j u hj => below_cell hall (hc j u hj))
          have HC' := Lib.hid (show ∀ j u, [encStr s1, encStr s2][j]? = some u → wr.cell? ⟨bl', ol' + q * 2 + j, none⟩ = some u from fun j u hj => below_cell hall (hc' j u hj))
          clear hes hl hc hc' hall
          go_upto_region 11 with fail
          refine region_f 11 (fun i vs W => match i with
              | 0 => vs 0 = .pointer (some ⟨N, 0 + 4, none⟩)
              | 1 => vs 1 = .slice (some ⟨bl, ol, none⟩) m2 gc
              | 2 => vs 2 = .int .i64 (q : Int)
              | 3 => vs 3 = .pointer (some ⟨bl, ol + q * 2, none⟩)
              | 4 => vs 4 = .agg [encStr s1, encStr s2].toArray
              | 5 => vs 5 = .pointer (some ⟨(N + 1), 0 + 4, none⟩)
              | 6 => vs 6 = .slice (some ⟨bl', ol', none⟩) m2 gc'
              | 7 => vs 7 = .int .i64 (q : Int)
              | 8 => vs 8 = .pointer (some ⟨bl', ol' + q * 2, none⟩)
              | 9 => vs 9 = .agg [encStr s1, encStr s2].toArray
              | 10 => vs 10 = .bool false
              | _ => True) (fun _ W W' => Below W.heap.size W W') (fun W => Below wr.heap.size wr W) (by kernel_rfl) (by kernel_rfl) ?hstb ?h0b ?stepb ?finb
          case hstb =>
            intro i k vs W W' _ _ h hG
            match i, h with
            | 0, h => exact h
            | 1, h => exact h
            | 2, h => exact h
            | 3, h => exact h
            | 4, h => exact h
            | 5, h => exact h
            | 6, h => exact h
            | 7, h => exact h
            | 8, h => exact h
            | 9, h => exact h
            | 10, h => exact h
            | n + 11, _ => trivial
          case h0b => exact (Below.refl _ _).drew
          case stepb =>
            intro i op hi ho ac W hS hag hdep
            have hbr : Below W.heap.size W W := Below.refl _ _
            match i, hi, ho with
            | 0, _, rfl =>
              exact ow_field fld45_4' _ rfl N (0) (hag 2 rfl) ⟨_, rfl, fun vs' h _ => h (fun e => by cases e), hbr, hS⟩
            | 1, _, rfl =>
              have hp : ac.eval (.tmp 77) = .pointer (some ⟨N, 0 + 4, none⟩) := hdep 0 (by omega) (by kernel_rfl)
              exact ow_load_slice' _ 48 43 rfl N (0 + 4) hp (some ⟨bl, ol, none⟩) m2 gc (below_cell hS ha4) Try.underlying43 ⟨_, rfl, fun vs' h _ => h (fun e => by cases e), hbr, hS⟩
            | 2, _, rfl =>
              exact ow_move _ rfl (v := .int .i64 (q : Int)) (hag 6 rfl) ⟨_, rfl, fun vs' h _ => h (fun e => by cases e), hbr, hS⟩
            | 3, _, rfl =>
              have hs : ac.eval (.tmp 78) = .slice (some ⟨bl, ol, none⟩) m2 gc := hdep 1 (by omega) (by kernel_rfl)
              have hi : ac.eval (.tmp 79) = .int .i64 (q : Int) := hdep 2 (by omega) (by kernel_rfl)
              exact ow_index_n _ _ 48 43 2 rfl bl ol m2 gc q hs hi hql Try.underlying43 info48 ⟨_, rfl, fun vs' h _ => h (fun e => by cases e), hbr, hS⟩
            | 4, _, rfl =>
              have h5 : ac.eval (.tmp 80) = .pointer (some ⟨bl, ol + q * 2, none⟩) := hdep 3 (by omega) (by kernel_rfl)
              exact ow_load_at 48 _ rfl bl (ol + q * 2) h5 [encStr s1, encStr s2] _ (fun j u hj => below_cell hS (HC.out j u hj)) Try.underlying48 rfl (info48) ⟨_, rfl, fun vs' h _ => h (fun e => by cases e), hbr, hS⟩
            | 5, _, rfl =>
              exact ow_field fld45_4' _ rfl (N + 1) (0) (hag 3 rfl) ⟨_, rfl, fun vs' h _ => h (fun e => by cases e), hbr, hS⟩
            | 6, _, rfl =>
              have hp : ac.eval (.tmp 82) = .pointer (some ⟨(N + 1), 0 + 4, none⟩) := hdep 5 (by omega) (by kernel_rfl)
              exact ow_load_slice' _ 48 43 rfl (N + 1) (0 + 4) hp (some ⟨bl', ol', none⟩) m2 gc' (below_cell hS hb4) Try.underlying43 ⟨_, rfl, fun vs' h _ => h (fun e => by cases e), hbr, hS⟩
            | 7, _, rfl =>
              exact ow_move _ rfl (v := .int .i64 (q : Int)) (hag 6 rfl) ⟨_, rfl, fun vs' h _ => h (fun e => by cases e), hbr, hS⟩
            | 8, _, rfl =>
              have hs : ac.eval (.tmp 83) = .slice (some ⟨bl', ol', none⟩) m2 gc' := hdep 6 (by omega) (by kernel_rfl)
              have hi : ac.eval (.tmp 84) = .int .i64 (q : Int) := hdep 7 (by omega) (by kernel_rfl)
              exact ow_index_n _ _ 48 43 2 rfl bl' ol' m2 gc' q hs hi hql Try.underlying43 info48 ⟨_, rfl, fun vs' h _ => h (fun e => by cases e), hbr, hS⟩
            | 9, _, rfl =>
              have h5 : ac.eval (.tmp 85) = .pointer (some ⟨bl', ol' + q * 2, none⟩) := hdep 8 (by omega) (by kernel_rfl)
              exact ow_load_at 48 _ rfl bl' (ol' + q * 2) h5 [encStr s1, encStr s2] _ (fun j u hj => below_cell hS (HC'.out j u hj)) Try.underlying48 rfl (info48) ⟨_, rfl, fun vs' h _ => h (fun e => by cases e), hbr, hS⟩
            | 10, _, rfl =>
              have h1 : ac.eval (.tmp 81) = .agg [encStr s1, encStr s2].toArray := hdep 4 (by omega) (by kernel_rfl)
              have h2 : ac.eval (.tmp 86) = .agg [encStr s1, encStr s2].toArray := hdep 9 (by omega) (by kernel_rfl)
              exact ow_neq_agg _ _ 48 _ rfl _ h1 h2 eg48 (eq_gr _ _ 9998 _) ⟨_, rfl, fun vs' h _ => h (fun e => by cases e), hbr, hS⟩
            | n + 11, hi, _ => exact absurd hi (by omega)
          case finb =>
            intro vs W hS hF
            have e10 : vs 10 = .bool false := hF 10 (by omega)
            clear hF
            change wpList _ _ _ _ (Act.put (Act.put (Act.put (Act.put (Act.put (Act.put (Act.put (Act.put (Act.put (Act.put (Act.put _ (some 77) (vs 0)) (some 78) (vs 1)) (some 79) (vs 2)) (some 80) (vs 3)) (some 81) (vs 4)) (some 82) (vs 5)) (some 83) (vs 6)) (some 84) (vs 7)) (some 85) (vs 8)) (some 86) (vs 9)) (some 87) (vs 10)) W
            rw [e10]
            clear e10
            generalize vs 0 = z0
            generalize vs 1 = z1
            generalize vs 2 = z2
            generalize vs 3 = z3
            generalize vs 4 = z4
            generalize vs 5 = z5
            generalize vs 6 = z6
            generalize vs 7 = z7
            generalize vs 8 = z8
            generalize vs 9 = z9
            simp only [putAll, List.drop_succ_cons, List.drop_zero, Act.put, List.setIfInBounds_toArray, List.set_cons_zero, List.set_cons_succ]
            clear vs
            have HBL2 := Lib.hid (HBL.out.trans (hS.mono HBL.out.size))
            clear hS HBL ha4 hb4
            go_wp2_with fail
            go_roundw
            case rel => exact ⟨q + 1, rfl, by omega, HBL2.out⟩
            case measure => simp [intOf]; omega
    · have hd : decide ((q : Int) < (m1 : Int)) = true := by simp; omega
      have hd' : decide (q < m1) = true := by simp; omega
      obtain ⟨bk, ok1, bk', ok2, rfl, rfl, -, -, hes⟩ := HCC.out.resolve_left (by omega)
      obtain ⟨es, es', hl, -, hc, hc', rfl, s1, rfl⟩ := hes q hql
      have hall := HB2.out.trans (HBL.out.mono HB2.out.size)
      have hx : wr.cell? ⟨bk, ok1 + q, none⟩ = some (encStr s1) := below_cell hall (by have := hc 0 _ rfl; simpa using this)
      have hx' : wr.cell? ⟨bk', ok2 + q, none⟩ = some (encStr s1) := below_cell hall (by have := hc' 0 _ rfl; simpa using this)
      clear hes hl hc hc' hall
      go_upto_region 6 with fail
      refine region_f 11 (fun i vs W => match i with
          | 0 => vs 0 = .pointer (some ⟨N, 0 + 3, none⟩)
          | 1 => vs 1 = .slice (some ⟨bk, ok1, none⟩) m1 cc
          | 2 => vs 2 = .int .i64 (q : Int)
          | 3 => vs 3 = .pointer (some ⟨bk, ok1 + (q), none⟩)
          | 4 => vs 4 = encStr s1
          | 5 => vs 5 = .pointer (some ⟨(N + 1), 0 + 3, none⟩)
          | 6 => vs 6 = .slice (some ⟨bk', ok2, none⟩) m1 cc'
          | 7 => vs 7 = .int .i64 (q : Int)
          | 8 => vs 8 = .pointer (some ⟨bk', ok2 + (q), none⟩)
          | 9 => vs 9 = encStr s1
          | 10 => vs 10 = .bool (!(s1 == s1))
          | _ => True) (fun _ W W' => Below W.heap.size W W') (fun W => Below wr.heap.size wr W) (by kernel_rfl) (by kernel_rfl) ?hsta ?h0a ?stepa ?fina
      case hsta =>
        intro i k vs W W' _ _ h hG
        match i, h with
        | 0, h => exact h
        | 1, h => exact h
        | 2, h => exact h
        | 3, h => exact h
        | 4, h => exact h
        | 5, h => exact h
        | 6, h => exact h
        | 7, h => exact h
        | 8, h => exact h
        | 9, h => exact h
        | 10, h => exact h
        | n + 11, _ => trivial
      case h0a => exact (Below.refl _ _).drew
      case stepa =>
        intro i op hi ho ac W hS hag hdep
        have hbr : Below W.heap.size W W := Below.refl _ _
        match i, hi, ho with
        | 0, _, rfl =>
          exact ow_field fld45_3' _ rfl N (0) (hag 2 rfl) ⟨_, rfl, fun vs' h _ => h (fun e => by cases e), hbr, hS⟩
        | 1, _, rfl =>
          have hp : ac.eval (.tmp 59) = .pointer (some ⟨N, 0 + 3, none⟩) := hdep 0 (by omega) (by kernel_rfl)
          exact ow_load_slice' _ 9 35 rfl N (0 + 3) hp (some ⟨bk, ok1, none⟩) m1 cc (below_cell hS ha3) Try.underlying35 ⟨_, rfl, fun vs' h _ => h (fun e => by cases e), hbr, hS⟩
        | 2, _, rfl =>
          exact ow_move _ rfl (v := .int .i64 (q : Int)) (hag 5 rfl) ⟨_, rfl, fun vs' h _ => h (fun e => by cases e), hbr, hS⟩
        | 3, _, rfl =>
          have hs : ac.eval (.tmp 60) = .slice (some ⟨bk, ok1, none⟩) m1 cc := hdep 1 (by omega) (by kernel_rfl)
          have hi : ac.eval (.tmp 61) = .int .i64 (q : Int) := hdep 2 (by omega) (by kernel_rfl)
          exact ow_index _ _ 9 35 rfl bk ok1 m1 cc (q) hs hi hql Try.underlying35 tag9 ⟨_, rfl, fun vs' h _ => h (fun e => by cases e), hbr, hS⟩
        | 4, _, rfl =>
          have hp : ac.eval (.tmp 62) = .pointer (some ⟨bk, ok1 + (q), none⟩) := hdep 3 (by omega) (by kernel_rfl)
          exact ow_load_str _ 9 rfl bk (ok1 + (q)) hp _ (below_cell hS hx) Try.underlying9 ⟨_, rfl, fun vs' h _ => h (fun e => by cases e), hbr, hS⟩
        | 5, _, rfl =>
          exact ow_field fld45_3' _ rfl (N + 1) (0) (hag 3 rfl) ⟨_, rfl, fun vs' h _ => h (fun e => by cases e), hbr, hS⟩
        | 6, _, rfl =>
          have hp : ac.eval (.tmp 64) = .pointer (some ⟨(N + 1), 0 + 3, none⟩) := hdep 5 (by omega) (by kernel_rfl)
          exact ow_load_slice' _ 9 35 rfl (N + 1) (0 + 3) hp (some ⟨bk', ok2, none⟩) m1 cc' (below_cell hS hb3) Try.underlying35 ⟨_, rfl, fun vs' h _ => h (fun e => by cases e), hbr, hS⟩
        | 7, _, rfl =>
          exact ow_move _ rfl (v := .int .i64 (q : Int)) (hag 5 rfl) ⟨_, rfl, fun vs' h _ => h (fun e => by cases e), hbr, hS⟩
        | 8, _, rfl =>
          have hs : ac.eval (.tmp 65) = .slice (some ⟨bk', ok2, none⟩) m1 cc' := hdep 6 (by omega) (by kernel_rfl)
          have hi : ac.eval (.tmp 66) = .int .i64 (q : Int) := hdep 7 (by omega) (by kernel_rfl)
          exact ow_index _ _ 9 35 rfl bk' ok2 m1 cc' (q) hs hi hql Try.underlying35 tag9 ⟨_, rfl, fun vs' h _ => h (fun e => by cases e), hbr, hS⟩
        | 9, _, rfl =>
          have hp : ac.eval (.tmp 67) = .pointer (some ⟨bk', ok2 + (q), none⟩) := hdep 8 (by omega) (by kernel_rfl)
          exact ow_load_str _ 9 rfl bk' (ok2 + (q)) hp _ (below_cell hS hx') Try.underlying9 ⟨_, rfl, fun vs' h _ => h (fun e => by cases e), hbr, hS⟩
        | 10, _, rfl =>
          have h1 : ac.eval (.tmp 63) = encStr s1 := hdep 4 (by omega) (by kernel_rfl)
          have h2 : ac.eval (.tmp 68) = encStr s1 := hdep 9 (by omega) (by kernel_rfl)
          exact ow_neq_str _ _ _ rfl _ _ h1 h2 ⟨_, rfl, fun vs' h _ => h (fun e => by cases e), hbr, hS⟩
        | n + 11, hi, _ => exact absurd hi (by omega)
      case fina =>
        intro vs W hS hF
        have e10 : vs 10 = .bool (!(s1 == s1)) := hF 10 (by omega)
        clear hF
        change wpList _ _ _ _ (Act.put (Act.put (Act.put (Act.put (Act.put (Act.put (Act.put (Act.put (Act.put (Act.put (Act.put _ (some 59) (vs 0)) (some 60) (vs 1)) (some 61) (vs 2)) (some 62) (vs 3)) (some 63) (vs 4)) (some 64) (vs 5)) (some 65) (vs 6)) (some 66) (vs 7)) (some 67) (vs 8)) (some 68) (vs 9)) (some 69) (vs 10)) W
        rw [e10]
        clear e10
        generalize vs 0 = z0
        generalize vs 1 = z1
        generalize vs 2 = z2
        generalize vs 3 = z3
        generalize vs 4 = z4
        generalize vs 5 = z5
        generalize vs 6 = z6
        generalize vs 7 = z7
        generalize vs 8 = z8
        generalize vs 9 = z9
        simp only [putAll, List.drop_succ_cons, List.drop_zero, Act.put, List.setIfInBounds_toArray, List.set_cons_zero, List.set_cons_succ]
        clear vs
        rw [show (!(s1 == s1)) = false by simp]
        have HBL2 := Lib.hid (HBL.out.trans (hS.mono HBL.out.size))
        clear hS HBL ha3 hb3 hx hx'
        go_wp2_with fail
        go_roundw
        case rel => exact ⟨q + 1, rfl, by omega, HBL2.out⟩
        case measure => simp [intOf]; omega

set_option maxHeartbeats 4000000 in
set_option maxRecDepth 4000 in
theorem rows_any (m : Nat) (ok : Nat → Prop) (B0 n ln sn : Nat) (dv dv' lv lv' sv sv' : Value) (W : World) (hB : B0 ≤ W.heap.size) (h1 : Two W ok 6 dv dv' n (fun es es' => DE m W ok es es' ∧ docS B0 W es)) (h2 : Two W ok 2 lv lv' ln (fun es es' => es = es' ∧ LocC es)) (h3 : Two W ok 22 sv sv' sn (fun es es' => es = es' ∧ SeenC es)) :
    Calls Try.prog 29 #[dv, dv', lv, lv', sv, sv'] W fun e w' => e = .returned (.bool true) ∧ Below W.heap.size W w' := by
  obtain ⟨DA, dc, DA', dc', rfl, rfl, hn1, hd1⟩ := h1
  obtain ⟨LA, lc, LA', lc', rfl, rfl, hn2, hd2⟩ := h2
  obtain ⟨SA, sc, SA', sc', rfl, rfl, hn3, hd3⟩ := h3
  have hm1 : n ≤ 9223372036854775807 := by omega
  have hm2 : ln ≤ 9223372036854775807 := by omega
  have hm3 : sn ≤ 9223372036854775807 := by omega
  have HD1 := Lib.hid hd1
  have HD2 := Lib.hid hd2
  have HD3 := Lib.hid hd3
  have HB := Lib.hid hB
  clear hd1 hd2 hd3 hn1 hn2 hn3 hB
  go_enter Try.func29, Try.ntmps29
  go_upto_region 4 with fail
  go_loopw [13] (fun vi wr => ∃ q : Nat, vi = .int .i64 (q : Int) ∧ q ≤ n ∧ Below W.heap.size W wr) (fun vi _ => n - (intOf vi).toNat)
  case atStart => exact ⟨0, rfl, Nat.zero_le _, Below.refl _ _⟩
  case round =>
    obtain ⟨q, rfl, hq, hbl⟩ := hrel
    have HBL := Lib.hid hbl
    clear hbl
    rcases (show q = n ∨ q < n by omega) with rfl | hql
    · have hd : decide ((q : Int) < (q : Int)) = false := by simp
      go_wp2_with fail
      clear hd
      go_loopw [14] (fun vi wr => ∃ q : Nat, vi = .int .i64 (q : Int) ∧ q ≤ ln ∧ Below W.heap.size W wr) (fun vi _ => ln - (intOf vi).toNat)
      case atStart => exact ⟨0, rfl, Nat.zero_le _, HBL.out⟩
      case round =>
        clear HBL
        obtain ⟨q, rfl, hq, hbl⟩ := hrel
        have HBL := Lib.hid hbl
        clear hbl
        rcases (show q = ln ∨ q < ln by omega) with rfl | hql
        · have hd : decide ((q : Int) < (q : Int)) = false := by simp
          go_wp2_with fail
          clear hd
          go_loopw [15] (fun vi wr => ∃ q : Nat, vi = .int .i64 (q : Int) ∧ q ≤ sn ∧ Below W.heap.size W wr) (fun vi _ => sn - (intOf vi).toNat)
          case atStart => exact ⟨0, rfl, Nat.zero_le _, HBL.out⟩
          case round =>
            clear HBL
            obtain ⟨q, rfl, hq, hbl⟩ := hrel
            have HBL := Lib.hid hbl
            clear hbl
            rcases (show q = sn ∨ q < sn by omega) with rfl | hql
            · have hd : decide ((q : Int) < (q : Int)) = false := by simp
              go_wp2_with fail
              go_ret
              exact ⟨rfl, HBL.out⟩
            · have hd : decide ((q : Int) < (sn : Int)) = true := by simp; omega
              have hd' : decide (q < sn) = true := by simp; omega
              obtain ⟨bl, ol, bl', ol', rfl, rfl, -, -, hes⟩ := HD3.out.resolve_left (by omega)
              obtain ⟨es, es', hl, -, hc, hc', rfl, hsh⟩ := hes q hql
              have HC := Lib.hid (show ∀ j u, es[j]? = some u → wr.cell? ⟨bl, ol + q * 22 + j, none⟩ = some u from fun j u hj => below_cell HBL.out (hc j u hj))
              have HC' := Lib.hid (show ∀ j u, es[j]? = some u → wr.cell? ⟨bl', ol' + q * 22 + j, none⟩ = some u from fun j u hj => below_cell HBL.out (hc' j u hj))
              have HSH := Lib.hid hsh
              have HL := Lib.hid hl
              clear hes hl hc hc' hsh
              go_upto_region 16 with fail
              refine region_f 9 (fun i vs W => match i with
                  | 0 => vs 0 = .slice (some ⟨bl, ol, none⟩) sn sc
                  | 1 => vs 1 = .int .i64 (q : Int)
                  | 2 => vs 2 = .pointer (some ⟨bl, ol + q * 22, none⟩)
                  | 3 => vs 3 = .agg es.toArray
                  | 4 => vs 4 = .slice (some ⟨bl', ol', none⟩) sn sc'
                  | 5 => vs 5 = .int .i64 (q : Int)
                  | 6 => vs 6 = .pointer (some ⟨bl', ol' + q * 22, none⟩)
                  | 7 => vs 7 = .agg es.toArray
                  | 8 => vs 8 = .bool false
                  | _ => True) (fun _ W W' => Below W.heap.size W W') (fun W => Below wr.heap.size wr W) (by kernel_rfl) (by kernel_rfl) ?hstc ?h0c ?stepc ?finc
              case hstc =>
                intro i k vs W W' _ _ h hG
                match i, h with
                | 0, h => exact h
                | 1, h => exact h
                | 2, h => exact h
                | 3, h => exact h
                | 4, h => exact h
                | 5, h => exact h
                | 6, h => exact h
                | 7, h => exact h
                | 8, h => exact h
                | n + 9, _ => trivial
              case h0c => exact (Below.refl _ _).drew
              case stepc =>
                intro i op hi ho ac W hS hag hdep
                have hbr : Below W.heap.size W W := Below.refl _ _
                match i, hi, ho with
                | 0, _, rfl =>
                  exact ow_move _ rfl (v := .slice (some ⟨bl, ol, none⟩) sn sc) (hag 4 rfl) ⟨_, rfl, fun vs' h _ => h (fun e => by cases e), hbr, hS⟩
                | 1, _, rfl =>
                  exact ow_move _ rfl (v := .int .i64 (q : Int)) (hag 15 rfl) ⟨_, rfl, fun vs' h _ => h (fun e => by cases e), hbr, hS⟩
                | 2, _, rfl =>
                  have hs : ac.eval (.tmp 72) = .slice (some ⟨bl, ol, none⟩) sn sc := hdep 0 (by omega) (by kernel_rfl)
                  have hi : ac.eval (.tmp 73) = .int .i64 (q : Int) := hdep 1 (by omega) (by kernel_rfl)
                  exact ow_index_n _ _ 70 25 22 rfl bl ol sn sc q hs hi hql Try.underlying25 info70 ⟨_, rfl, fun vs' h _ => h (fun e => by cases e), hbr, hS⟩
                | 3, _, rfl =>
                  have h5 : ac.eval (.tmp 74) = .pointer (some ⟨bl, ol + q * 22, none⟩) := hdep 2 (by omega) (by kernel_rfl)
                  exact ow_load_at 70 _ rfl bl (ol + q * 22) h5 es _ (fun j u hj => below_cell hS (HC.out j u hj)) Try.underlying70 rfl (by rw [HL.out]; exact sz70) ⟨_, rfl, fun vs' h _ => h (fun e => by cases e), hbr, hS⟩
                | 4, _, rfl =>
                  exact ow_move _ rfl (v := .slice (some ⟨bl', ol', none⟩) sn sc') (hag 5 rfl) ⟨_, rfl, fun vs' h _ => h (fun e => by cases e), hbr, hS⟩
                | 5, _, rfl =>
                  exact ow_move _ rfl (v := .int .i64 (q : Int)) (hag 15 rfl) ⟨_, rfl, fun vs' h _ => h (fun e => by cases e), hbr, hS⟩
                | 6, _, rfl =>
                  have hs : ac.eval (.tmp 76) = .slice (some ⟨bl', ol', none⟩) sn sc' := hdep 4 (by omega) (by kernel_rfl)
                  have hi : ac.eval (.tmp 77) = .int .i64 (q : Int) := hdep 5 (by omega) (by kernel_rfl)
                  exact ow_index_n _ _ 70 25 22 rfl bl' ol' sn sc' q hs hi hql Try.underlying25 info70 ⟨_, rfl, fun vs' h _ => h (fun e => by cases e), hbr, hS⟩
                | 7, _, rfl =>
                  have h5 : ac.eval (.tmp 78) = .pointer (some ⟨bl', ol' + q * 22, none⟩) := hdep 6 (by omega) (by kernel_rfl)
                  exact ow_load_at 70 _ rfl bl' (ol' + q * 22) h5 es _ (fun j u hj => below_cell hS (HC'.out j u hj)) Try.underlying70 rfl (by rw [HL.out]; exact sz70) ⟨_, rfl, fun vs' h _ => h (fun e => by cases e), hbr, hS⟩
                | 8, _, rfl =>
                  have h1 : ac.eval (.tmp 75) = .agg es.toArray := hdep 3 (by omega) (by kernel_rfl)
                  have h2 : ac.eval (.tmp 79) = .agg es.toArray := hdep 7 (by omega) (by kernel_rfl)
                  exact ow_neq_agg _ _ 70 _ rfl _ h1 h2 eg70 (eq_seen HSH.out 9996 _) ⟨_, rfl, fun vs' h _ => h (fun e => by cases e), hbr, hS⟩
                | n + 9, hi, _ => exact absurd hi (by omega)
              case finc =>
                intro vs W hS hF
                have e8 : vs 8 = .bool false := hF 8 (by omega)
                clear hF
                change wpList _ _ _ _ (Act.put (Act.put (Act.put (Act.put (Act.put (Act.put (Act.put (Act.put (Act.put _ (some 72) (vs 0)) (some 73) (vs 1)) (some 74) (vs 2)) (some 75) (vs 3)) (some 76) (vs 4)) (some 77) (vs 5)) (some 78) (vs 6)) (some 79) (vs 7)) (some 80) (vs 8)) W
                rw [e8]
                clear e8
                generalize vs 0 = z0
                generalize vs 1 = z1
                generalize vs 2 = z2
                generalize vs 3 = z3
                generalize vs 4 = z4
                generalize vs 5 = z5
                generalize vs 6 = z6
                generalize vs 7 = z7
                simp only [putAll, List.drop_succ_cons, List.drop_zero, Act.put, List.setIfInBounds_toArray, List.set_cons_zero, List.set_cons_succ]
                clear vs
                have HBL2 := Lib.hid (HBL.out.trans (hS.mono HBL.out.size))
                clear hS HBL 
                go_wp2_with fail
                go_roundw
                case rel => exact ⟨q + 1, rfl, by omega, HBL2.out⟩
                case measure => simp [intOf]; omega
        · have hd : decide ((q : Int) < (ln : Int)) = true := by simp; omega
          have hd' : decide (q < ln) = true := by simp; omega
          obtain ⟨bl, ol, bl', ol', rfl, rfl, -, -, hes⟩ := HD2.out.resolve_left (by omega)
          obtain ⟨es, es', hl, -, hc, hc', rfl, hsh⟩ := hes q hql
          have HC := Lib.hid (show ∀ j u, es[j]? = some u → wr.cell? ⟨bl, ol + q * 2 + j, none⟩ = some u from fun j u hj => below_cell HBL.out (hc j u hj))
          have HC' := Lib.hid (show ∀ j u, es[j]? = some u → wr.cell? ⟨bl', ol' + q * 2 + j, none⟩ = some u from fun j u hj => below_cell HBL.out (hc' j u hj))
          have HSH := Lib.hid hsh
          have HL := Lib.hid hl
          clear hes hl hc hc' hsh
          go_upto_region 11 with fail
          refine region_f 9 (fun i vs W => match i with
              | 0 => vs 0 = .slice (some ⟨bl, ol, none⟩) ln lc
              | 1 => vs 1 = .int .i64 (q : Int)
              | 2 => vs 2 = .pointer (some ⟨bl, ol + q * 2, none⟩)
              | 3 => vs 3 = .agg es.toArray
              | 4 => vs 4 = .slice (some ⟨bl', ol', none⟩) ln lc'
              | 5 => vs 5 = .int .i64 (q : Int)
              | 6 => vs 6 = .pointer (some ⟨bl', ol' + q * 2, none⟩)
              | 7 => vs 7 = .agg es.toArray
              | 8 => vs 8 = .bool false
              | _ => True) (fun _ W W' => Below W.heap.size W W') (fun W => Below wr.heap.size wr W) (by kernel_rfl) (by kernel_rfl) ?hstd ?h0d ?stepd ?find
          case hstd =>
            intro i k vs W W' _ _ h hG
            match i, h with
            | 0, h => exact h
            | 1, h => exact h
            | 2, h => exact h
            | 3, h => exact h
            | 4, h => exact h
            | 5, h => exact h
            | 6, h => exact h
            | 7, h => exact h
            | 8, h => exact h
            | n + 9, _ => trivial
          case h0d => exact (Below.refl _ _).drew
          case stepd =>
            intro i op hi ho ac W hS hag hdep
            have hbr : Below W.heap.size W W := Below.refl _ _
            match i, hi, ho with
            | 0, _, rfl =>
              exact ow_move _ rfl (v := .slice (some ⟨bl, ol, none⟩) ln lc) (hag 2 rfl) ⟨_, rfl, fun vs' h _ => h (fun e => by cases e), hbr, hS⟩
            | 1, _, rfl =>
              exact ow_move _ rfl (v := .int .i64 (q : Int)) (hag 14 rfl) ⟨_, rfl, fun vs' h _ => h (fun e => by cases e), hbr, hS⟩
            | 2, _, rfl =>
              have hs : ac.eval (.tmp 57) = .slice (some ⟨bl, ol, none⟩) ln lc := hdep 0 (by omega) (by kernel_rfl)
              have hi : ac.eval (.tmp 58) = .int .i64 (q : Int) := hdep 1 (by omega) (by kernel_rfl)
              exact ow_index_n _ _ 65 24 2 rfl bl ol ln lc q hs hi hql Try.underlying24 info65 ⟨_, rfl, fun vs' h _ => h (fun e => by cases e), hbr, hS⟩
            | 3, _, rfl =>
              have h5 : ac.eval (.tmp 59) = .pointer (some ⟨bl, ol + q * 2, none⟩) := hdep 2 (by omega) (by kernel_rfl)
              exact ow_load_at 65 _ rfl bl (ol + q * 2) h5 es _ (fun j u hj => below_cell hS (HC.out j u hj)) Try.underlying65 rfl (by rw [HL.out]; exact sz65) ⟨_, rfl, fun vs' h _ => h (fun e => by cases e), hbr, hS⟩
            | 4, _, rfl =>
              exact ow_move _ rfl (v := .slice (some ⟨bl', ol', none⟩) ln lc') (hag 3 rfl) ⟨_, rfl, fun vs' h _ => h (fun e => by cases e), hbr, hS⟩
            | 5, _, rfl =>
              exact ow_move _ rfl (v := .int .i64 (q : Int)) (hag 14 rfl) ⟨_, rfl, fun vs' h _ => h (fun e => by cases e), hbr, hS⟩
            | 6, _, rfl =>
              have hs : ac.eval (.tmp 61) = .slice (some ⟨bl', ol', none⟩) ln lc' := hdep 4 (by omega) (by kernel_rfl)
              have hi : ac.eval (.tmp 62) = .int .i64 (q : Int) := hdep 5 (by omega) (by kernel_rfl)
              exact ow_index_n _ _ 65 24 2 rfl bl' ol' ln lc' q hs hi hql Try.underlying24 info65 ⟨_, rfl, fun vs' h _ => h (fun e => by cases e), hbr, hS⟩
            | 7, _, rfl =>
              have h5 : ac.eval (.tmp 63) = .pointer (some ⟨bl', ol' + q * 2, none⟩) := hdep 6 (by omega) (by kernel_rfl)
              exact ow_load_at 65 _ rfl bl' (ol' + q * 2) h5 es _ (fun j u hj => below_cell hS (HC'.out j u hj)) Try.underlying65 rfl (by rw [HL.out]; exact sz65) ⟨_, rfl, fun vs' h _ => h (fun e => by cases e), hbr, hS⟩
            | 8, _, rfl =>
              have h1 : ac.eval (.tmp 60) = .agg es.toArray := hdep 3 (by omega) (by kernel_rfl)
              have h2 : ac.eval (.tmp 64) = .agg es.toArray := hdep 7 (by omega) (by kernel_rfl)
              exact ow_neq_agg _ _ 65 _ rfl _ h1 h2 eg65 (eq_loc HSH.out 9998 _) ⟨_, rfl, fun vs' h _ => h (fun e => by cases e), hbr, hS⟩
            | n + 9, hi, _ => exact absurd hi (by omega)
          case find =>
            intro vs W hS hF
            have e8 : vs 8 = .bool false := hF 8 (by omega)
            clear hF
            change wpList _ _ _ _ (Act.put (Act.put (Act.put (Act.put (Act.put (Act.put (Act.put (Act.put (Act.put _ (some 57) (vs 0)) (some 58) (vs 1)) (some 59) (vs 2)) (some 60) (vs 3)) (some 61) (vs 4)) (some 62) (vs 5)) (some 63) (vs 6)) (some 64) (vs 7)) (some 65) (vs 8)) W
            rw [e8]
            clear e8
            generalize vs 0 = z0
            generalize vs 1 = z1
            generalize vs 2 = z2
            generalize vs 3 = z3
            generalize vs 4 = z4
            generalize vs 5 = z5
            generalize vs 6 = z6
            generalize vs 7 = z7
            simp only [putAll, List.drop_succ_cons, List.drop_zero, Act.put, List.setIfInBounds_toArray, List.set_cons_zero, List.set_cons_succ]
            clear vs
            have HBL2 := Lib.hid (HBL.out.trans (hS.mono HBL.out.size))
            clear hS HBL 
            go_wp2_with fail
            go_roundw
            case rel => exact ⟨q + 1, rfl, by omega, HBL2.out⟩
            case measure => simp [intOf]; omega
    · have hd : decide ((q : Int) < (n : Int)) = true := by simp; omega
      have hd' : decide (q < n) = true := by simp; omega
      obtain ⟨bl, ol, bl', ol', rfl, rfl, -, -, hes⟩ := HD1.out.resolve_left (by omega)
      obtain ⟨es, es', hl, hl', hc, hc', hde, hds⟩ := hes q hql
      have HC := Lib.hid (show ∀ j u, es[j]? = some u → wr.cell? ⟨bl, ol + q * 6 + j, none⟩ = some u from fun j u hj => below_cell HBL.out (hc j u hj))
      have HC' := Lib.hid (show ∀ j u, es'[j]? = some u → wr.cell? ⟨bl', ol' + q * 6 + j, none⟩ = some u from fun j u hj => below_cell HBL.out (hc' j u hj))
      have HDE := Lib.hid (DE.lk m _ _ _ _ _ _ hde (Keep.of_below HBL.out) (fun _ h _ => h))
      have HDS := Lib.hid (hds.keep (Keep.of_below HBL.out))
      have HL := Lib.hid hl
      have HL' := Lib.hid hl'
      clear hes hl hl' hc hc' hde hds
      go_upto_region 6 with fail
      refine region_f 10 (fun i vs W => match i with
          | 0 => vs 0 = .slice (some ⟨bl, ol, none⟩) n dc
          | 1 => vs 1 = .int .i64 (q : Int)
          | 2 => vs 2 = .pointer (some ⟨bl, ol + q * 6, none⟩)
          | 3 => vs 3 = .agg es.toArray
          | 4 => vs 4 = .slice (some ⟨bl', ol', none⟩) n dc'
          | 5 => vs 5 = .int .i64 (q : Int)
          | 6 => vs 6 = .pointer (some ⟨bl', ol' + q * 6, none⟩)
          | 7 => vs 7 = .agg es'.toArray
          | 8 => vs 8 = .bool true
          | 9 => vs 9 = .bool false
          | _ => True) (fun _ W W' => Below W.heap.size W W') (fun W => Below wr.heap.size wr W) (by kernel_rfl) (by kernel_rfl) ?hste ?h0e ?stepe ?fine
      case hste =>
        intro i k vs W W' _ _ h hG
        match i, h with
        | 0, h => exact h
        | 1, h => exact h
        | 2, h => exact h
        | 3, h => exact h
        | 4, h => exact h
        | 5, h => exact h
        | 6, h => exact h
        | 7, h => exact h
        | 8, h => exact h
        | 9, h => exact h
        | n + 10, _ => trivial
      case h0e => exact (Below.refl _ _).drew
      case stepe =>
        intro i op hi ho ac W hS hag hdep
        have hbr : Below W.heap.size W W := Below.refl _ _
        match i, hi, ho with
        | 0, _, rfl =>
          exact ow_move _ rfl (v := .slice (some ⟨bl, ol, none⟩) n dc) (hag 0 rfl) ⟨_, rfl, fun vs' h _ => h (fun e => by cases e), hbr, hS⟩
        | 1, _, rfl =>
          exact ow_move _ rfl (v := .int .i64 (q : Int)) (hag 13 rfl) ⟨_, rfl, fun vs' h _ => h (fun e => by cases e), hbr, hS⟩
        | 2, _, rfl =>
          have hs : ac.eval (.tmp 41) = .slice (some ⟨bl, ol, none⟩) n dc := hdep 0 (by omega) (by kernel_rfl)
          have hi : ac.eval (.tmp 42) = .int .i64 (q : Int) := hdep 1 (by omega) (by kernel_rfl)
          exact ow_index_n _ _ 45 23 6 rfl bl ol n dc q hs hi hql Try.underlying23 info45 ⟨_, rfl, fun vs' h _ => h (fun e => by cases e), hbr, hS⟩
        | 3, _, rfl =>
          have h5 : ac.eval (.tmp 43) = .pointer (some ⟨bl, ol + q * 6, none⟩) := hdep 2 (by omega) (by kernel_rfl)
          exact ow_load_at 45 _ rfl bl (ol + q * 6) h5 es _ (fun j u hj => below_cell hS (HC.out j u hj)) Try.underlying45 rfl (by rw [HL.out]; exact info45) ⟨_, rfl, fun vs' h _ => h (fun e => by cases e), hbr, hS⟩
        | 4, _, rfl =>
          exact ow_move _ rfl (v := .slice (some ⟨bl', ol', none⟩) n dc') (hag 1 rfl) ⟨_, rfl, fun vs' h _ => h (fun e => by cases e), hbr, hS⟩
        | 5, _, rfl =>
          exact ow_move _ rfl (v := .int .i64 (q : Int)) (hag 13 rfl) ⟨_, rfl, fun vs' h _ => h (fun e => by cases e), hbr, hS⟩
        | 6, _, rfl =>
          have hs : ac.eval (.tmp 45) = .slice (some ⟨bl', ol', none⟩) n dc' := hdep 4 (by omega) (by kernel_rfl)
          have hi : ac.eval (.tmp 46) = .int .i64 (q : Int) := hdep 5 (by omega) (by kernel_rfl)
          exact ow_index_n _ _ 45 23 6 rfl bl' ol' n dc' q hs hi hql Try.underlying23 info45 ⟨_, rfl, fun vs' h _ => h (fun e => by cases e), hbr, hS⟩
        | 7, _, rfl =>
          have h5 : ac.eval (.tmp 47) = .pointer (some ⟨bl', ol' + q * 6, none⟩) := hdep 6 (by omega) (by kernel_rfl)
          exact ow_load_at 45 _ rfl bl' (ol' + q * 6) h5 es' _ (fun j u hj => below_cell hS (HC'.out j u hj)) Try.underlying45 rfl (by rw [HL'.out]; exact info45) ⟨_, rfl, fun vs' h _ => h (fun e => by cases e), hbr, hS⟩
        | 8, _, rfl =>
          have h1 : ac.eval (.tmp 44) = .agg es.toArray := hdep 3 (by omega) (by kernel_rfl)
          have h2 : ac.eval (.tmp 48) = .agg es'.toArray := hdep 7 (by omega) (by kernel_rfl)
          refine ow_call Try.func42 (by kernel_rfl) rfl _ _ rfl (vs := #[.agg es.toArray, .agg es'.toArray]) (by simp only [List.map_toArray, List.map_cons, List.map_nil, h1, h2]) ?_
          refine (sameD_any m ok B0 es es' W (DE.lk m _ _ _ _ _ _ HDE.out (Keep.of_below hS) (fun _ h _ => h)) (HDS.out.keep (Keep.of_below hS))).mono ?_
          rintro e w' ⟨rfl, hbb⟩
          exact ⟨_, rfl, ⟨_, rfl, fun vs' h _ => h (fun e => by cases e), hbb, hS.trans (hbb.mono hS.size)⟩⟩
        | 9, _, rfl =>
          have h1 : ac.eval (.tmp 49) = .bool true := hdep 8 (by omega) (by kernel_rfl)
          exact ow_not _ 4 rfl true h1 ⟨_, rfl, fun vs' h _ => h (fun e => by cases e), hbr, hS⟩
        | n + 10, hi, _ => exact absurd hi (by omega)
      case fine =>
        intro vs W hS hF
        have e9 : vs 9 = .bool false := hF 9 (by omega)
        clear hF
        change wpList _ _ _ _ (Act.put (Act.put (Act.put (Act.put (Act.put (Act.put (Act.put (Act.put (Act.put (Act.put _ (some 41) (vs 0)) (some 42) (vs 1)) (some 43) (vs 2)) (some 44) (vs 3)) (some 45) (vs 4)) (some 46) (vs 5)) (some 47) (vs 6)) (some 48) (vs 7)) (some 49) (vs 8)) (some 50) (vs 9)) W
        rw [e9]
        clear e9
        generalize vs 0 = z0
        generalize vs 1 = z1
        generalize vs 2 = z2
        generalize vs 3 = z3
        generalize vs 4 = z4
        generalize vs 5 = z5
        generalize vs 6 = z6
        generalize vs 7 = z7
        generalize vs 8 = z8
        simp only [putAll, List.drop_succ_cons, List.drop_zero, Act.put, List.setIfInBounds_toArray, List.set_cons_zero, List.set_cons_succ]
        clear vs
        have HBL2 := Lib.hid (HBL.out.trans (hS.mono HBL.out.size))
        clear hS HBL 
        go_wp2_with fail
        go_roundw
        case rel => exact ⟨q + 1, rfl, by omega, HBL2.out⟩
        case measure => simp [intOf]; omega

set_option maxHeartbeats 4000000 in
set_option maxRecDepth 4000 in
theorem sameS_any (m : Nat) (ok : Nat → Prop) (B0 n ln sn : Nat) (sq : Int) (dv dv' lv lv' sv sv' : Value) (W : World) (hB : B0 ≤ W.heap.size) (h1 : Two W ok 6 dv dv' n (fun es es' => DE m W ok es es' ∧ docS B0 W es)) (h2 : Two W ok 2 lv lv' ln (fun es es' => es = es' ∧ LocC es)) (h3 : Two W ok 22 sv sv' sn (fun es es' => es = es' ∧ SeenC es)) :
    Calls Try.prog 20 #[.agg (stV sq dv lv sv), .agg (stV sq dv' lv' sv')] W fun e w' => e = .returned (.bool true) ∧ Below W.heap.size W w' := by
  obtain ⟨N, hN⟩ : ∃ N, N = W.heap.size := ⟨_, rfl⟩
  obtain ⟨W0, hW0⟩ : ∃ W0, W0 = (W.alloc (.cells (stV sq dv lv sv) 27)).alloc (.cells (stV sq dv' lv' sv') 27) := ⟨_, rfl⟩
  have hrow : W0.heap[N]? = some (.cells (stV sq dv lv sv) 27 (0, 0)) := by rw [hW0, hN]; exact blk_alloc (World.alloc_heap_new W _) _
  have hrow' : W0.heap[N + 1]? = some (.cells (stV sq dv' lv' sv') 27 (0, 0)) := by rw [hW0]; exact alloc_new_at (by simp [hN])
  have hbel : Below W.heap.size W W0 := by rw [hW0]; exact ((Below.refl _ W).alloc (Nat.le_refl _) _).alloc (by simp) _
  have hr := rows_any m ok B0 n ln sn dv dv' lv lv' sv sv' W0 (Nat.le_trans hB hbel.size)
    (h1.keep (by omega) (Keep.of_below hbel) (fun _ h _ => h) (fun es es' h => ⟨DE.lk m _ _ _ _ _ _ h.1 (Keep.of_below hbel) (fun _ h _ => h), h.2.keep (Keep.of_below hbel)⟩))
    (h2.keep (by omega) (Keep.of_below hbel) (fun _ h _ => h) (fun _ _ h => h)) (h3.keep (by omega) (Keep.of_below hbel) (fun _ h _ => h) (fun _ _ h => h))
  obtain ⟨DA, dc, DA', dc', rfl, rfl, -, -⟩ := h1
  obtain ⟨LA, lc, LA', lc', rfl, rfl, -, -⟩ := h2
  obtain ⟨SA, sc, SA', sc', rfl, rfl, -, -⟩ := h3
  have ha0 : W0.cell? ⟨N, 0, none⟩ = some (.int .u64 sq) := cell_of_row W0 N 0 _ _ _ hrow
  have ha1 : W0.cell? ⟨N, 1, none⟩ = some (.slice DA n dc) := cell_of_row W0 N 1 _ _ _ hrow
  have ha2 : W0.cell? ⟨N, 2, none⟩ = some (.slice LA ln lc) := cell_of_row W0 N 2 _ _ _ hrow
  have ha3 : W0.cell? ⟨N, 3, none⟩ = some (.slice SA sn sc) := cell_of_row W0 N 3 _ _ _ hrow
  have hb0 : W0.cell? ⟨N + 1, 0, none⟩ = some (.int .u64 sq) := cell_of_row W0 (N + 1) 0 _ _ _ hrow'
  have hb1 : W0.cell? ⟨N + 1, 1, none⟩ = some (.slice DA' n dc') := cell_of_row W0 (N + 1) 1 _ _ _ hrow'
  have hb2 : W0.cell? ⟨N + 1, 2, none⟩ = some (.slice LA' ln lc') := cell_of_row W0 (N + 1) 2 _ _ _ hrow'
  have hb3 : W0.cell? ⟨N + 1, 3, none⟩ = some (.slice SA' sn sc') := cell_of_row W0 (N + 1) 3 _ _ _ hrow'
  have HR := Lib.hid hr
  have HBEL := Lib.hid hbel
  have HN := Lib.hid hN
  clear hrow hrow' hr hbel
  go_enter Try.func20, Try.ntmps20
  go_upto_region 1 with fail
  rw [← HN.out, ← hW0]
  clear hN hW0
  go_wp2_with fail
  refine HR.out.mono ?_
  rintro e w2 ⟨rfl, hb2⟩
  have HB2 := Lib.hid (HBEL.out.trans (hb2.mono HBEL.out.size))
  clear ha0 ha1 ha2 ha3 hb0 hb1 hb2 hb3
  go_wp2_with fail
  go_ret
  exact ⟨rfl, HB2.out⟩
end Go.Proofs.Ytncjgfhipflokaa
