/-
  tidewrackref01.Same: two like values are the same.
  Rows that are the same: revisions' names, grants, checkpoints, what was seen.
  tidewrackref07.SameNode, tidewrackref07.Same: two like trees are the same.
-/
import Derived.Test.YtncjgfhipflokaaVg
import Derived.ChangeKeysEq
import Derived.Test.YtncjgfhipflokaaVo
namespace Go.Proofs.Ytncjgfhipflokaa
open Go.RowKit Go.Shelf Hp Go.Maps

theorem fld87_4 : Fld 87 4 4 := fun _ _ _ => by kernel_rfl
set_option maxHeartbeats 4000000 in
set_option maxRecDepth 4000 in
theorem sameV_any : ∀ (m : Nat) (ok : Nat → Prop) (cs cs' : List Value) (W : World), VE m W ok cs cs' →
    Calls Try.prog 51 #[.agg cs.toArray, .agg cs'.toArray] W fun e w' => e = .returned (.bool true) ∧ Below W.heap.size W w' := by
  intro m
  induction m with
  | zero => intro ok cs cs' W h; exact h.elim
  | succ m ih =>
    rintro ok cs cs' W ⟨k0, k1, tx, lv, kv, lv', kv', n, ks, rfl, rfl, hk1, hk2, htw⟩
    obtain ⟨KA, kc, rfl, hkm, hka⟩ := hk1
    obtain ⟨KA', kc', rfl, -, hka'⟩ := hk2
    obtain ⟨LA, lc, LA', lc', rfl, rfl, hn, hla⟩ := htw
    have hkl : ks.length ≤ 9223372036854775807 := hkm
    have hnl : n ≤ 9223372036854775807 := by omega
    obtain ⟨N, hN⟩ : ∃ N, N = W.heap.size := ⟨_, rfl⟩
    obtain ⟨W0, hW0⟩ : ∃ W0, W0 = (W.alloc (.cells (valC (.int .i64 k0) (.int .i64 k1) tx (.slice LA n lc) (.slice KA ks.length kc)).toArray 87)).alloc (.cells (valC (.int .i64 k0) (.int .i64 k1) tx (.slice LA' n lc') (.slice KA' ks.length kc')).toArray 87) := ⟨_, rfl⟩
    have hrow : W0.heap[N]? = some (.cells (valC (.int .i64 k0) (.int .i64 k1) tx (.slice LA n lc) (.slice KA ks.length kc)).toArray 87 (0, 0)) := by rw [hW0, hN]; exact blk_alloc (World.alloc_heap_new W _) _
    have hrow' : W0.heap[N + 1]? = some (.cells (valC (.int .i64 k0) (.int .i64 k1) tx (.slice LA' n lc') (.slice KA' ks.length kc')).toArray 87 (0, 0)) := by rw [hW0]; exact alloc_new_at (by simp [hN])
    have hbel : Below W.heap.size W W0 := by rw [hW0]; exact ((Below.refl _ W).alloc (Nat.le_refl _) _).alloc (by simp) _
    have ha0 : W0.cell? ⟨N, 0, none⟩ = some (.int .i64 k0) := cell_of_row W0 N 0 _ _ _ hrow
    have ha1 : W0.cell? ⟨N, 1, none⟩ = some (.int .i64 k1) := cell_of_row W0 N 1 _ _ _ hrow
    have ha2 : W0.cell? ⟨N, 2, none⟩ = some (.string tx) := cell_of_row W0 N 2 _ _ _ hrow
    have ha3 : W0.cell? ⟨N, 3, none⟩ = some (.slice LA n lc) := cell_of_row W0 N 3 _ _ _ hrow
    have ha4 : W0.cell? ⟨N, 4, none⟩ = some (.slice KA ks.length kc) := cell_of_row W0 N 4 _ _ _ hrow
    have hb0 : W0.cell? ⟨N + 1, 0, none⟩ = some (.int .i64 k0) := cell_of_row W0 (N + 1) 0 _ _ _ hrow'
    have hb1 : W0.cell? ⟨N + 1, 1, none⟩ = some (.int .i64 k1) := cell_of_row W0 (N + 1) 1 _ _ _ hrow'
    have hb2 : W0.cell? ⟨N + 1, 2, none⟩ = some (.string tx) := cell_of_row W0 (N + 1) 2 _ _ _ hrow'
    have hb3 : W0.cell? ⟨N + 1, 3, none⟩ = some (.slice LA' n lc') := cell_of_row W0 (N + 1) 3 _ _ _ hrow'
    have hb4 : W0.cell? ⟨N + 1, 4, none⟩ = some (.slice KA' ks.length kc') := cell_of_row W0 (N + 1) 4 _ _ _ hrow'
    have HROW := Lib.hid hrow
    have HROW' := Lib.hid hrow'
    have HBEL := Lib.hid hbel
    have HN := Lib.hid hN
    have HIH := Lib.hid ih
    have HKA := Lib.hid hka
    have HKB := Lib.hid hka'
    have HLA := Lib.hid hla
    clear hrow hrow' hbel ih hka hka' hla hkm hn
    go_enter Try.func51, Try.ntmps51
    go_upto_region 1 with fail
    rw [← HN.out, ← hW0]
    clear hN hW0
    go_upto_region 4 with fail
    clear ha0 ha1 ha2 ha3 ha4 hb0 hb1 hb2 hb3 hb4
    go_loopw [5] (fun vi wr => ∃ q : Nat, vi = .int .i64 (q : Int) ∧ q ≤ ks.length ∧ Below W0.heap.size W0 wr) (fun vi _ => ks.length - (intOf vi).toNat)
    case atStart => exact ⟨0, rfl, Nat.zero_le _, Below.refl _ _⟩
    case round =>
      obtain ⟨q, rfl, hq, hbl⟩ := hrel
      have ha4 : wr.cell? ⟨N, 4, none⟩ = some (.slice KA ks.length kc) := cell_of_row wr N 4 _ _ _ (blk_below HROW.out hbl)
      have hb4 : wr.cell? ⟨N + 1, 4, none⟩ = some (.slice KA' ks.length kc') := cell_of_row wr (N + 1) 4 _ _ _ (blk_below HROW'.out hbl)
      have HBL := Lib.hid hbl
      clear hbl
      rcases (show q = ks.length ∨ q < ks.length by omega) with rfl | hql
      · have hd : decide ((ks.length : Int) < (ks.length : Int)) = false := by simp
        go_wp2_with fail
        clear hd ha4 hb4
        go_loopw [6] (fun vi wq => ∃ q : Nat, vi = .int .i64 (q : Int) ∧ q ≤ n ∧ Below W0.heap.size W0 wq) (fun vi _ => n - (intOf vi).toNat)
        case atStart => exact ⟨0, rfl, Nat.zero_le _, HBL.out⟩
        case round =>
          clear HBL
          obtain ⟨q, rfl, hq, hbl⟩ := hrel
          have ha3 : wr.cell? ⟨N, 3, none⟩ = some (.slice LA n lc) := cell_of_row wr N 3 _ _ _ (blk_below HROW.out hbl)
          have hb3 : wr.cell? ⟨N + 1, 3, none⟩ = some (.slice LA' n lc') := cell_of_row wr (N + 1) 3 _ _ _ (blk_below HROW'.out hbl)
          have HBL := Lib.hid hbl
          clear hbl
          rcases (show q = n ∨ q < n by omega) with rfl | hql
          · have hd : decide ((q : Int) < (q : Int)) = false := by simp
            go_wp2_with fail
            go_ret
            exact ⟨rfl, HBEL.out.trans (HBL.out.mono HBEL.out.size)⟩
          · have hd : decide ((q : Int) < (n : Int)) = true := by simp; omega
            have hd' : decide (q < n) = true := by simp; omega
            obtain ⟨bl, ol, bl', ol', rfl, rfl, -, -, hes⟩ := HLA.out.resolve_left (by omega)
            obtain ⟨es, es', hl, hl', hc, hc', hve⟩ := hes q hql
            have hall := HBEL.out.trans (HBL.out.mono HBEL.out.size)
            have HC := Lib.hid (show ∀ j u, es[j]? = some u → wr.cell? ⟨bl, ol + q * 5 + j, none⟩ = some u from fun j u hj => below_cell hall (hc j u hj))
            have HC' := Lib.hid (show ∀ j u, es'[j]? = some u → wr.cell? ⟨bl', ol' + q * 5 + j, none⟩ = some u from fun j u hj => below_cell hall (hc' j u hj))
            have HVE := Lib.hid (VE.lk m _ _ _ _ _ _ hve (Keep.of_below hall) (fun _ h _ => h))
            have HL5 := Lib.hid hl
            have HL5' := Lib.hid hl'
            clear hes hl hl' hc hc' hve hall
            go_upto_region 11 with fail
            refine region_f 12 (fun i vs W => match i with
                | 0 => vs 0 = .pointer (some ⟨N, 0 + 3, none⟩)
                | 1 => vs 1 = .slice (some ⟨bl, ol, none⟩) n lc
                | 2 => vs 2 = .int .i64 (q : Int)
                | 3 => vs 3 = .pointer (some ⟨bl, ol + q * 5, none⟩)
                | 4 => vs 4 = .agg es.toArray
                | 5 => vs 5 = .pointer (some ⟨(N + 1), 0 + 3, none⟩)
                | 6 => vs 6 = .slice (some ⟨bl', ol', none⟩) n lc'
                | 7 => vs 7 = .int .i64 (q : Int)
                | 8 => vs 8 = .pointer (some ⟨bl', ol' + q * 5, none⟩)
                | 9 => vs 9 = .agg es'.toArray
                | 10 => vs 10 = .bool true
                | 11 => vs 11 = .bool false
                | _ => True) (fun _ W W' => Below W.heap.size W W') (fun W => Below wr.heap.size wr W) (by kernel_rfl) (by kernel_rfl) ?hstb ?h0b ?stepb ?finb
            case hstb =>
              intro i k vs W W' _ _ h hG
              match i, h with
              | 0, h => exact h
              | 1, h => exact h
              | 2, h => exact h
              | 3, h => exact h
              | 4, h => exact h
              | 5, h => exact h
              | 6, h => exact h
              | 7, h => exact h
              | 8, h => exact h
              | 9, h => exact h
              | 10, h => exact h
              | 11, h => exact h
              | n + 12, _ => trivial
            case h0b => exact (Below.refl _ _).drew
            case stepb =>
              intro i op hi ho ac W hS hag hdep
              have hbr : Below W.heap.size W W := Below.refl _ _
              match i, hi, ho with
              | 0, _, rfl =>
                exact ow_field fld87_3 _ rfl N (0) (hag 2 rfl) ⟨_, rfl, fun vs' h _ => h (fun e => by cases e), hbr, hS⟩
              | 1, _, rfl =>
                have hp : ac.eval (.tmp 69) = .pointer (some ⟨N, 0 + 3, none⟩) := hdep 0 (by omega) (by kernel_rfl)
                exact ow_load_slice' _ 87 85 rfl N (0 + 3) hp (some ⟨bl, ol, none⟩) n lc (below_cell hS ha3) Try.underlying85 ⟨_, rfl, fun vs' h _ => h (fun e => by cases e), hbr, hS⟩
              | 2, _, rfl =>
                exact ow_move _ rfl (v := .int .i64 (q : Int)) (hag 6 rfl) ⟨_, rfl, fun vs' h _ => h (fun e => by cases e), hbr, hS⟩
              | 3, _, rfl =>
                have hs : ac.eval (.tmp 70) = .slice (some ⟨bl, ol, none⟩) n lc := hdep 1 (by omega) (by kernel_rfl)
                have hi : ac.eval (.tmp 71) = .int .i64 (q : Int) := hdep 2 (by omega) (by kernel_rfl)
                exact ow_index_n _ _ 87 85 5 rfl bl ol n lc q hs hi hql Try.underlying85 info87 ⟨_, rfl, fun vs' h _ => h (fun e => by cases e), hbr, hS⟩
              | 4, _, rfl =>
                have h5 : ac.eval (.tmp 72) = .pointer (some ⟨bl, ol + q * 5, none⟩) := hdep 3 (by omega) (by kernel_rfl)
                exact ow_load_at 87 _ rfl bl (ol + q * 5) h5 es _ (fun j u hj => below_cell hS (HC.out j u hj)) Try.underlying87 rfl (by rw [HL5.out]; exact info87) ⟨_, rfl, fun vs' h _ => h (fun e => by cases e), hbr, hS⟩
              | 5, _, rfl =>
                exact ow_field fld87_3 _ rfl (N + 1) (0) (hag 3 rfl) ⟨_, rfl, fun vs' h _ => h (fun e => by cases e), hbr, hS⟩
              | 6, _, rfl =>
                have hp : ac.eval (.tmp 74) = .pointer (some ⟨(N + 1), 0 + 3, none⟩) := hdep 5 (by omega) (by kernel_rfl)
                exact ow_load_slice' _ 87 85 rfl (N + 1) (0 + 3) hp (some ⟨bl', ol', none⟩) n lc' (below_cell hS hb3) Try.underlying85 ⟨_, rfl, fun vs' h _ => h (fun e => by cases e), hbr, hS⟩
              | 7, _, rfl =>
                exact ow_move _ rfl (v := .int .i64 (q : Int)) (hag 6 rfl) ⟨_, rfl, fun vs' h _ => h (fun e => by cases e), hbr, hS⟩
              | 8, _, rfl =>
                have hs : ac.eval (.tmp 75) = .slice (some ⟨bl', ol', none⟩) n lc' := hdep 6 (by omega) (by kernel_rfl)
                have hi : ac.eval (.tmp 76) = .int .i64 (q : Int) := hdep 7 (by omega) (by kernel_rfl)
                exact ow_index_n _ _ 87 85 5 rfl bl' ol' n lc' q hs hi hql Try.underlying85 info87 ⟨_, rfl, fun vs' h _ => h (fun e => by cases e), hbr, hS⟩
              | 9, _, rfl =>
                have h5 : ac.eval (.tmp 77) = .pointer (some ⟨bl', ol' + q * 5, none⟩) := hdep 8 (by omega) (by kernel_rfl)
                exact ow_load_at 87 _ rfl bl' (ol' + q * 5) h5 es' _ (fun j u hj => below_cell hS (HC'.out j u hj)) Try.underlying87 rfl (by rw [HL5'.out]; exact info87) ⟨_, rfl, fun vs' h _ => h (fun e => by cases e), hbr, hS⟩
              | 10, _, rfl =>
                have h1 : ac.eval (.tmp 73) = .agg es.toArray := hdep 4 (by omega) (by kernel_rfl)
                have h2 : ac.eval (.tmp 78) = .agg es'.toArray := hdep 9 (by omega) (by kernel_rfl)
                refine ow_call Try.func51 (by kernel_rfl) rfl _ _ rfl (vs := #[.agg es.toArray, .agg es'.toArray]) (by simp only [List.map_toArray, List.map_cons, List.map_nil, h1, h2]) ?_
                refine (HIH.out ok es es' W (VE.lk m _ _ _ _ _ _ HVE.out (Keep.of_below hS) (fun _ h _ => h))).mono ?_
                rintro e w' ⟨rfl, hbb⟩
                exact ⟨_, rfl, ⟨_, rfl, fun vs' h _ => h (fun e => by cases e), hbb, hS.trans (hbb.mono hS.size)⟩⟩
              | 11, _, rfl =>
                have h1 : ac.eval (.tmp 79) = .bool true := hdep 10 (by omega) (by kernel_rfl)
                exact ow_not _ 4 rfl true h1 ⟨_, rfl, fun vs' h _ => h (fun e => by cases e), hbr, hS⟩
              | n + 12, hi, _ => exact absurd hi (by omega)
            case finb =>
              intro vs W hS hF
              have e11 : vs 11 = .bool false := hF 11 (by omega)
              clear hF
              change wpList _ _ _ _ (Act.put (Act.put (Act.put (Act.put (Act.put (Act.put (Act.put (Act.put (Act.put (Act.put (Act.put (Act.put _ (some 69) (vs 0)) (some 70) (vs 1)) (some 71) (vs 2)) (some 72) (vs 3)) (some 73) (vs 4)) (some 74) (vs 5)) (some 75) (vs 6)) (some 76) (vs 7)) (some 77) (vs 8)) (some 78) (vs 9)) (some 79) (vs 10)) (some 80) (vs 11)) W
              rw [e11]
              clear e11
              generalize vs 0 = z0
              generalize vs 1 = z1
              generalize vs 2 = z2
              generalize vs 3 = z3
              generalize vs 4 = z4
              generalize vs 5 = z5
              generalize vs 6 = z6
              generalize vs 7 = z7
              generalize vs 8 = z8
              generalize vs 9 = z9
              generalize vs 10 = z10
              simp only [putAll, List.drop_succ_cons, List.drop_zero, Act.put, List.setIfInBounds_toArray, List.set_cons_zero, List.set_cons_succ]
              clear vs
              have HBL2 := Lib.hid (HBL.out.trans (hS.mono HBL.out.size))
              clear hS ha3 hb3 HBL
              go_wp2_with fail
              go_roundw
              case rel => exact ⟨q + 1, rfl, by omega, HBL2.out⟩
              case measure => simp [intOf]; omega
      · have hd : decide ((q : Int) < (ks.length : Int)) = true := by simp; omega
        have hd' : decide (q < ks.length) = true := by simp; omega
        obtain ⟨bk, ok1, rfl, -, hk⟩ := HKA.out.resolve_left (by omega)
        obtain ⟨bk', ok2, rfl, -, hk'⟩ := HKB.out.resolve_left (by omega)
        have hall := HBEL.out.trans (HBL.out.mono HBEL.out.size)
        have hx : wr.cell? ⟨bk, ok1 + q, none⟩ = some (encStr (at_ ks q)) := below_cell hall (hk q hql)
        have hx' : wr.cell? ⟨bk', ok2 + q, none⟩ = some (encStr (at_ ks q)) := below_cell hall (hk' q hql)
        clear hk hk' hall
        go_upto_region 6 with fail
        refine region_f 11 (fun i vs W => match i with
            | 0 => vs 0 = .pointer (some ⟨N, 0 + 4, none⟩)
            | 1 => vs 1 = .slice (some ⟨bk, ok1, none⟩) ks.length kc
            | 2 => vs 2 = .int .i64 (q : Int)
            | 3 => vs 3 = .pointer (some ⟨bk, ok1 + (q), none⟩)
            | 4 => vs 4 = encStr (at_ ks q)
            | 5 => vs 5 = .pointer (some ⟨(N + 1), 0 + 4, none⟩)
            | 6 => vs 6 = .slice (some ⟨bk', ok2, none⟩) ks.length kc'
            | 7 => vs 7 = .int .i64 (q : Int)
            | 8 => vs 8 = .pointer (some ⟨bk', ok2 + (q), none⟩)
            | 9 => vs 9 = encStr (at_ ks q)
            | 10 => vs 10 = .bool (!(at_ ks q == at_ ks q))
            | _ => True) (fun _ W W' => Below W.heap.size W W') (fun W => Below wr.heap.size wr W) (by kernel_rfl) (by kernel_rfl) ?hsta ?h0a ?stepa ?fina
        case hsta =>
          intro i k vs W W' _ _ h hG
          match i, h with
          | 0, h => exact h
          | 1, h => exact h
          | 2, h => exact h
          | 3, h => exact h
          | 4, h => exact h
          | 5, h => exact h
          | 6, h => exact h
          | 7, h => exact h
          | 8, h => exact h
          | 9, h => exact h
          | 10, h => exact h
          | n + 11, _ => trivial
        case h0a => exact (Below.refl _ _).drew
        case stepa =>
          intro i op hi ho ac W hS hag hdep
          have hbr : Below W.heap.size W W := Below.refl _ _
          match i, hi, ho with
          | 0, _, rfl =>
            exact ow_field fld87_4 _ rfl N (0) (hag 2 rfl) ⟨_, rfl, fun vs' h _ => h (fun e => by cases e), hbr, hS⟩
          | 1, _, rfl =>
            have hp : ac.eval (.tmp 51) = .pointer (some ⟨N, 0 + 4, none⟩) := hdep 0 (by omega) (by kernel_rfl)
            exact ow_load_slice' _ 9 35 rfl N (0 + 4) hp (some ⟨bk, ok1, none⟩) ks.length kc (below_cell hS ha4) Try.underlying35 ⟨_, rfl, fun vs' h _ => h (fun e => by cases e), hbr, hS⟩
          | 2, _, rfl =>
            exact ow_move _ rfl (v := .int .i64 (q : Int)) (hag 5 rfl) ⟨_, rfl, fun vs' h _ => h (fun e => by cases e), hbr, hS⟩
          | 3, _, rfl =>
            have hs : ac.eval (.tmp 52) = .slice (some ⟨bk, ok1, none⟩) ks.length kc := hdep 1 (by omega) (by kernel_rfl)
            have hi : ac.eval (.tmp 53) = .int .i64 (q : Int) := hdep 2 (by omega) (by kernel_rfl)
            exact ow_index _ _ 9 35 rfl bk ok1 ks.length kc (q) hs hi hql Try.underlying35 tag9 ⟨_, rfl, fun vs' h _ => h (fun e => by cases e), hbr, hS⟩
          | 4, _, rfl =>
            have hp : ac.eval (.tmp 54) = .pointer (some ⟨bk, ok1 + (q), none⟩) := hdep 3 (by omega) (by kernel_rfl)
            exact ow_load_str _ 9 rfl bk (ok1 + (q)) hp _ (below_cell hS hx) Try.underlying9 ⟨_, rfl, fun vs' h _ => h (fun e => by cases e), hbr, hS⟩
          | 5, _, rfl =>
            exact ow_field fld87_4 _ rfl (N + 1) (0) (hag 3 rfl) ⟨_, rfl, fun vs' h _ => h (fun e => by cases e), hbr, hS⟩
          | 6, _, rfl =>
            have hp : ac.eval (.tmp 56) = .pointer (some ⟨(N + 1), 0 + 4, none⟩) := hdep 5 (by omega) (by kernel_rfl)
            exact ow_load_slice' _ 9 35 rfl (N + 1) (0 + 4) hp (some ⟨bk', ok2, none⟩) ks.length kc' (below_cell hS hb4) Try.underlying35 ⟨_, rfl, fun vs' h _ => h (fun e => by cases e), hbr, hS⟩
          | 7, _, rfl =>
            exact ow_move _ rfl (v := .int .i64 (q : Int)) (hag 5 rfl) ⟨_, rfl, fun vs' h _ => h (fun e => by cases e), hbr, hS⟩
          | 8, _, rfl =>
            have hs : ac.eval (.tmp 57) = .slice (some ⟨bk', ok2, none⟩) ks.length kc' := hdep 6 (by omega) (by kernel_rfl)
            have hi : ac.eval (.tmp 58) = .int .i64 (q : Int) := hdep 7 (by omega) (by kernel_rfl)
            exact ow_index _ _ 9 35 rfl bk' ok2 ks.length kc' (q) hs hi hql Try.underlying35 tag9 ⟨_, rfl, fun vs' h _ => h (fun e => by cases e), hbr, hS⟩
          | 9, _, rfl =>
            have hp : ac.eval (.tmp 59) = .pointer (some ⟨bk', ok2 + (q), none⟩) := hdep 8 (by omega) (by kernel_rfl)
            exact ow_load_str _ 9 rfl bk' (ok2 + (q)) hp _ (below_cell hS hx') Try.underlying9 ⟨_, rfl, fun vs' h _ => h (fun e => by cases e), hbr, hS⟩
          | 10, _, rfl =>
            have h1 : ac.eval (.tmp 55) = encStr (at_ ks q) := hdep 4 (by omega) (by kernel_rfl)
            have h2 : ac.eval (.tmp 60) = encStr (at_ ks q) := hdep 9 (by omega) (by kernel_rfl)
            exact ow_neq_str _ _ _ rfl _ _ h1 h2 ⟨_, rfl, fun vs' h _ => h (fun e => by cases e), hbr, hS⟩
          | n + 11, hi, _ => exact absurd hi (by omega)
        case fina =>
          intro vs W hS hF
          have e10 : vs 10 = .bool (!(at_ ks q == at_ ks q)) := hF 10 (by omega)
          clear hF
          change wpList _ _ _ _ (Act.put (Act.put (Act.put (Act.put (Act.put (Act.put (Act.put (Act.put (Act.put (Act.put (Act.put _ (some 51) (vs 0)) (some 52) (vs 1)) (some 53) (vs 2)) (some 54) (vs 3)) (some 55) (vs 4)) (some 56) (vs 5)) (some 57) (vs 6)) (some 58) (vs 7)) (some 59) (vs 8)) (some 60) (vs 9)) (some 61) (vs 10)) W
          rw [e10]
          clear e10
          generalize vs 0 = z0
          generalize vs 1 = z1
          generalize vs 2 = z2
          generalize vs 3 = z3
          generalize vs 4 = z4
          generalize vs 5 = z5
          generalize vs 6 = z6
          generalize vs 7 = z7
          generalize vs 8 = z8
          generalize vs 9 = z9
          simp only [putAll, List.drop_succ_cons, List.drop_zero, Act.put, List.setIfInBounds_toArray, List.set_cons_zero, List.set_cons_succ]
          clear vs
          have HBL2 := Lib.hid (HBL.out.trans (hS.mono HBL.out.size))
          clear hS ha4 hb4 hx hx' HBL
          rw [show (!(at_ ks q == at_ ks q)) = false by simp]
          go_wp2_with fail
          go_roundw
          case rel => exact ⟨q + 1, rfl, by omega, HBL2.out⟩
          case measure => simp [intOf]; omega
end Go.Proofs.Ytncjgfhipflokaa

namespace Go.Proofs.Ytncjgfhipflokaa
open Go.RowKit Go.Shelf Hp Go.Maps

theorem tag5' : ∃ i, Try.prog.info? 5 = some i := Option.isSome_iff_exists.1 (by kernel_rfl)
theorem eqF_cons {P : Program} {d : Nat} {xs : Array Value} {f : Field} {fs : List Field} {v : Value} {w : World} (hn : f.name ≠ "_") (hp : (part f.type xs f.offset).run P w = .ok v w) (he : (Op.equalIn d f.type v v).run P w = .ok true w) (hr : (Op.eqFields d xs xs fs).run P w = .ok true w) : (Op.eqFields d xs xs (f :: fs)).run P w = .ok true w := by
  rw [Op.eqFields, if_pos hn]
  simp [Sem.run_bind, hp, he, hr]
theorem eq_int {d : Nat} {t : TypeId} {k : IntKind} {z : Int} {w : World} (h : Try.prog.underlying t = some (.int k)) : (Op.equalIn (d + 1) t (.int k z) (.int k z)).run Try.prog w = .ok true w := by
  rw [run_equalIn_int w d t k k z z h, beq_self_eq_true]
theorem eq_str {d : Nat} {s : ByteArray} {w : World} : (Op.equalIn (d + 1) 9 (.string s) (.string s)).run Try.prog w = .ok true w := by
  rw [run_equalIn_string w d 9 s s Try.underlying9, beq_self_eq_true]
theorem items16 (xs : Array Value) (hs : List Int) (w : World) (hx : ∀ i, i < 16 → (part 5 xs (i * Try.prog.cellsOf 5)).run Try.prog w = .ok (.int .u8 (hs.getD i 0)) w) (d : Nat) : ∀ is : List Nat, (∀ i ∈ is, i < 16) →
    (Op.eqItems (d + 1) 5 (Try.prog.cellsOf 5) xs xs is).run Try.prog w = .ok true w := by
  intro is
  induction is with
  | nil => intro _; rfl
  | cons i is ih =>
    intro h
    simp only [Op.eqItems, Sem.run_bind, hx i (h i List.mem_cons_self), Result.andThen_ok, run_equalIn_int w d 5 .u8 .u8 _ _ Try.underlying5, beq_self_eq_true]
    simpa using ih (fun j hj => h j (List.mem_cons_of_mem _ hj))
theorem list16 {α : Type} (l : List α) (h : l.length = 16) : ∃ a b c d e f g h' i j k m n o p q, l = [a, b, c, d, e, f, g, h', i, j, k, m, n, o, p, q] := by
  match l, h with
  | [a, b, c, d, e, f, g, h', i, j, k, m, n, o, p, q], _ => exact ⟨_, _, _, _, _, _, _, _, _, _, _, _, _, _, _, _, rfl⟩
theorem und68 : Try.prog.underlying 68 = some (.struct (Try.prog.fieldsOf 68)) := by kernel_rfl
theorem und70 : Try.prog.underlying 70 = some (.struct (Try.prog.fieldsOf 70)) := by kernel_rfl
theorem und65 : Try.prog.underlying 65 = some (.struct (Try.prog.fieldsOf 65)) := by kernel_rfl
theorem und48 : Try.prog.underlying 48 = some (.struct (Try.prog.fieldsOf 48)) := by kernel_rfl
theorem si68 : Try.prog.stoodInHeld 68 = false := by kernel_rfl
theorem si70 : Try.prog.stoodInHeld 70 = false := by kernel_rfl
theorem si65 : Try.prog.stoodInHeld 65 = false := by kernel_rfl
theorem si48 : Try.prog.stoodInHeld 48 = false := by kernel_rfl
theorem fo68 : (Try.prog.fieldsOf 68).toList = [{ name := "Gen", type := 22, offset := 0, embedded := false, tag := "", pkgPath := "", byteOffset := 0 }, { name := "Sum", type := 66, offset := 1, embedded := false, tag := "", pkgPath := "", byteOffset := 8 }] := by kernel_rfl
theorem fo65 : (Try.prog.fieldsOf 65).toList = [{ name := "Id", type := 9, offset := 0, embedded := false, tag := "", pkgPath := "", byteOffset := 0 }, { name := "Seq", type := 22, offset := 1, embedded := false, tag := "", pkgPath := "", byteOffset := 16 }] := by kernel_rfl
theorem fo48 : (Try.prog.fieldsOf 48).toList = [{ name := "User", type := 9, offset := 0, embedded := false, tag := "", pkgPath := "", byteOffset := 0 }, { name := "Channel", type := 9, offset := 1, embedded := false, tag := "", pkgPath := "", byteOffset := 16 }] := by kernel_rfl
theorem fo70 : (Try.prog.fieldsOf 70).toList = [{ name := "User", type := 9, offset := 0, embedded := false, tag := "", pkgPath := "", byteOffset := 0 }, { name := "Doc", type := 9, offset := 1, embedded := false, tag := "", pkgPath := "", byteOffset := 16 }, { name := "Seq", type := 22, offset := 2, embedded := false, tag := "", pkgPath := "", byteOffset := 32 }, { name := "Rev", type := 68, offset := 3, embedded := false, tag := "", pkgPath := "", byteOffset := 40 }, { name := "Gone", type := 3, offset := 20, embedded := false, tag := "", pkgPath := "", byteOffset := 64 }, { name := "Channel", type := 9, offset := 21, embedded := false, tag := "", pkgPath := "", byteOffset := 72 }] := by kernel_rfl
theorem eq_rev {r : List Value} (h : RevC r) (d : Nat) (w : World) : (Op.equalIn (d + 3) 68 (.agg r.toArray) (.agg r.toArray)).run Try.prog w = .ok true w := by
  obtain ⟨g, hs, rfl, hl⟩ := h
  obtain ⟨a, b, c, d', e, f, g', h', i, j, k, m, n, o, p, q, rfl⟩ := list16 hs hl
  rw [run_equalIn_struct w (d + 2) 68 _ _ und68 si68, fo68]
  obtain ⟨i5, hi5⟩ := tag5'
  have p3 : (Op.equalIn (d + 2) 66 (.agg ([a, b, c, d', e, f, g', h', i, j, k, m, n, o, p, q].map (Value.int .u8)).toArray) (.agg ([a, b, c, d', e, f, g', h', i, j, k, m, n, o, p, q].map (Value.int .u8)).toArray)).run Try.prog w = .ok true w := by
    rw [run_equalIn_array w (d + 1) _ _ Try.underlying66 hi5]
    exact items16 _ [a, b, c, d', e, f, g', h', i, j, k, m, n, o, p, q] w (fun x hx => by
      rcases (show x = 0 ∨ x = 1 ∨ x = 2 ∨ x = 3 ∨ x = 4 ∨ x = 5 ∨ x = 6 ∨ x = 7 ∨ x = 8 ∨ x = 9 ∨ x = 10 ∨ x = 11 ∨ x = 12 ∨ x = 13 ∨ x = 14 ∨ x = 15 by omega) with rfl | rfl | rfl | rfl | rfl | rfl | rfl | rfl | rfl | rfl | rfl | rfl | rfl | rfl | rfl | rfl <;> kernel_rfl) d _ (fun x hx => List.mem_range.1 hx)
  refine eqF_cons (v := .int .u64 g) (by decide) (by kernel_rfl) (eq_int Try.underlying22) ?_
  refine eqF_cons (v := .agg ([a, b, c, d', e, f, g', h', i, j, k, m, n, o, p, q].map (Value.int .u8)).toArray) (by decide) (by kernel_rfl) p3 ?_
  rfl
theorem eq_gr (s s' : ByteArray) (d : Nat) (w : World) : (Op.equalIn (d + 2) 48 (.agg #[.string s, .string s']) (.agg #[.string s, .string s'])).run Try.prog w = .ok true w := by
  rw [run_equalIn_struct w (d + 1) 48 _ _ und48 si48, fo48]
  refine eqF_cons (v := .string s) (by decide) (by kernel_rfl) eq_str ?_
  refine eqF_cons (v := .string s') (by decide) (by kernel_rfl) eq_str ?_
  rfl
theorem eq_loc {es : List Value} (h : LocC es) (d : Nat) (w : World) : (Op.equalIn (d + 2) 65 (.agg es.toArray) (.agg es.toArray)).run Try.prog w = .ok true w := by
  obtain ⟨s, n, rfl⟩ := h
  rw [run_equalIn_struct w (d + 1) 65 _ _ und65 si65, fo65]
  refine eqF_cons (v := .string s) (by decide) (by kernel_rfl) eq_str ?_
  refine eqF_cons (v := .int .u64 n) (by decide) (by kernel_rfl) (eq_int Try.underlying22) ?_
  rfl
theorem eq_seen {es : List Value} (h : SeenC es) (d : Nat) (w : World) : (Op.equalIn (d + 4) 70 (.agg es.toArray) (.agg es.toArray)).run Try.prog w = .ok true w := by
  obtain ⟨s1, s2, n, r, gn, s3, rfl, hr⟩ := h
  have hrr := eq_rev hr d w
  obtain ⟨g, hs, rfl, hl⟩ := hr
  obtain ⟨a, b, c, d', e, f, g', h', i, j, k, m, n', o, p, q, rfl⟩ := list16 hs hl
  rw [run_equalIn_struct w (d + 3) 70 _ _ und70 si70, fo70]
  refine eqF_cons (v := .string s1) (by decide) (by kernel_rfl) eq_str ?_
  refine eqF_cons (v := .string s2) (by decide) (by kernel_rfl) eq_str ?_
  refine eqF_cons (v := .int .u64 n) (by decide) (by kernel_rfl) (eq_int Try.underlying22) ?_
  refine eqF_cons (v := .agg (Value.int .u64 g :: [a, b, c, d', e, f, g', h', i, j, k, m, n', o, p, q].map (Value.int .u8)).toArray) (by decide) (by kernel_rfl) hrr ?_
  refine eqF_cons (v := .int .i64 gn) (by decide) (by kernel_rfl) (eq_int Try.underlying3) ?_
  refine eqF_cons (v := .string s3) (by decide) (by kernel_rfl) eq_str ?_
  rfl
section
variable {Q : Exit → Act → World → Prop} {o : Oper} {a : Act} {w : World} {K : Act → World → Prop} {ops : Array Oper} {rest : List Oper}
/-- two aggregates that are the same -/
theorem ow_neq_agg (x y : Operand) (t ty : TypeId) (ho : o.op = .binOp .neq t x y ty) (xs : Array Value) (hx : a.eval x = .agg xs) (hy : a.eval y = .agg xs) (hg : Try.prog.eqGuardType Try.prog.depth t = false) (he : (Op.equalIn 10000 t (.agg xs) (.agg xs)).run Try.prog w = .ok true w) (h : K (a.put o.dst (.bool false)) w) : o.wp Try.prog a w K Q := by
  refine ow_value (v := .bool false) ?_ h
  unfold execOp
  simp only [ho, hx, hy]
  simp [go_sem, he, hg, run_eqGuard_agg, run_neq_struct]
end
end Go.Proofs.Ytncjgfhipflokaa

namespace Go.Proofs.Ytncjgfhipflokaa
open Go.RowKit Go.Shelf Hp Go.Maps

section
variable {Q : Exit → Act → World → Prop} {o : Oper} {a : Act} {w : World} {K : Act → World → Prop} {ops : Array Oper} {rest : List Oper}
theorem ow_eql_agg (x y : Operand) (t ty : TypeId) (ho : o.op = .binOp .eql t x y ty) (xs : Array Value) (hx : a.eval x = .agg xs) (hy : a.eval y = .agg xs) (hg : Try.prog.eqGuardType Try.prog.depth t = false) (he : (Op.equalIn 10000 t (.agg xs) (.agg xs)).run Try.prog w = .ok true w) (h : K (a.put o.dst (.bool true)) w) : o.wp Try.prog a w K Q := by
  refine ow_value (v := .bool true) ?_ h
  unfold execOp
  simp only [ho, hx, hy]
  simp [go_sem, he, hg, run_eqGuard_agg, run_eql_struct]
end
theorem sz68 : (Try.prog.info? 68).map (·.size) = some 17 := by kernel_rfl
theorem eg68 : Try.prog.eqGuardType Try.prog.depth 68 = false := by kernel_rfl
theorem node_cells {w : World} {g : Nat} {r1 r2 b : List Value} {i j : Int} {cs : List Value} (e : cs = (r1 ++ (r2 ++ [.int .i64 i, .int .i64 j])) ++ b) (h1 : r1.length = 17) (h2 : r2.length = 17) (h : w.heap[g]? = some (.cells cs.toArray 89 (0, 0))) :
    (∀ k u, r1[k]? = some u → w.cell? ⟨g, 0 + k, none⟩ = some u) ∧ (∀ k u, r2[k]? = some u → w.cell? ⟨g, 17 + k, none⟩ = some u) ∧ w.cell? ⟨g, 34, none⟩ = some (.int .i64 i) ∧ w.cell? ⟨g, 35, none⟩ = some (.int .i64 j) ∧ (∀ k u, b[k]? = some u → w.cell? ⟨g, 36 + k, none⟩ = some u) := by
  have hr : ∀ k, cs[k]? = (w.cell? ⟨g, k, none⟩) := fun k => by rw [cell_of_row w g k _ _ _ h]; simp
  have e1 : cs = r1 ++ (r2 ++ ([.int .i64 i, .int .i64 j] ++ b)) := by rw [e]; simp
  refine ⟨fun k u hk => ?_, fun k u hk => ?_, ?_, ?_, fun k u hk => ?_⟩
  · have hlt := (List.getElem?_eq_some_iff.1 hk).1
    rw [← hr, e1, Nat.zero_add, List.getElem?_append_left hlt]; exact hk
  · have hlt := (List.getElem?_eq_some_iff.1 hk).1
    rw [← hr, e1, List.getElem?_append_right (by omega), h1, Nat.add_sub_cancel_left, List.getElem?_append_left hlt]; exact hk
  · rw [← hr, e1, List.getElem?_append_right (by omega), h1, List.getElem?_append_right (by omega), h2]; rfl
  · rw [← hr, e1, List.getElem?_append_right (by omega), h1, List.getElem?_append_right (by omega), h2]; rfl
  · rw [← hr, e1, List.getElem?_append_right (by omega), h1, List.getElem?_append_right (by omega), h2, List.getElem?_append_right (by simp; omega)]
    have : 36 + k - 17 - 17 - [Value.int .i64 i, .int .i64 j].length = k := by simp; omega
    rw [this]; exact hk

set_option maxHeartbeats 4000000 in
set_option maxRecDepth 4000 in
theorem sameN_any (m : Nat) (ok : Nat → Prop) (es es' : List Value) (W : World) (h : NE m W ok es es') :
    Calls Try.prog 50 #[.agg es.toArray, .agg es'.toArray] W fun e w' => e = .returned (.bool true) ∧ Below W.heap.size W w' := by
  obtain ⟨a, b, b', ⟨r1, r2, i0, j0, rfl, hr1, hr2⟩, he1, he2, hve⟩ := h
  obtain ⟨N, hN⟩ : ∃ N, N = W.heap.size := ⟨_, rfl⟩
  obtain ⟨W0, hW0⟩ : ∃ W0, W0 = (W.alloc (.cells es.toArray 89)).alloc (.cells es'.toArray 89) := ⟨_, rfl⟩
  have hrow : W0.heap[N]? = some (.cells es.toArray 89 (0, 0)) := by rw [hW0, hN]; exact blk_alloc (World.alloc_heap_new W _) _
  have hrow' : W0.heap[N + 1]? = some (.cells es'.toArray 89 (0, 0)) := by rw [hW0]; exact alloc_new_at (by simp [hN])
  have hbel : Below W.heap.size W W0 := by rw [hW0]; exact ((Below.refl _ W).alloc (Nat.le_refl _) _).alloc (by simp) _
  obtain ⟨c1, c2, c3, c4, c5⟩ := node_cells he1 hr1.len hr2.len hrow
  obtain ⟨d1, d2, d3, d4, d5⟩ := node_cells he2 hr1.len hr2.len hrow'
  have HC1 := Lib.hid c1
  have HC2 := Lib.hid c2
  have HC5 := Lib.hid c5
  have HD1 := Lib.hid d1
  have HD2 := Lib.hid d2
  have HD5 := Lib.hid d5
  have HR1 := Lib.hid hr1
  have HR2 := Lib.hid hr2
  have hb5 : b'.length = 5 := hve.len
  have ha5 : b.length = 5 := by
    cases m with
    | zero => exact hve.elim
    | succ m => obtain ⟨_, _, _, _, _, _, _, _, _, rfl, _⟩ := hve; rfl
  have HA5 := Lib.hid ha5
  have HB5 := Lib.hid hb5
  have hsm := sameV_any m ok b b' W0 (VE.lk m _ _ _ _ _ _ hve (Keep.of_below hbel) (fun _ h _ => h))
  have HSM := Lib.hid hsm
  have HBEL := Lib.hid hbel
  have HN := Lib.hid hN
  clear hrow hrow' hbel c1 c2 c5 d1 d2 d5 hr1 hr2 hb5 ha5 hsm hve he1 he2
  go_enter Try.func50, Try.ntmps50
  go_upto_region 1 with fail
  rw [← HN.out, ← hW0]
  clear hN hW0
  go_wp2_with (first
    | (refine wpList_want rfl (ow_load_at 68 _ rfl N 0 rfl r1 _ HC1.out Try.underlying68 rfl (by rw [HR1.out.len]; exact sz68) ?_))
    | (refine wpList_want rfl (ow_load_at 68 _ rfl (N + 1) 0 rfl r1 _ HD1.out Try.underlying68 rfl (by rw [HR1.out.len]; exact sz68) ?_))
    | (refine wpList_want rfl (ow_load_at 68 _ rfl N 17 rfl r2 _ HC2.out Try.underlying68 rfl (by rw [HR2.out.len]; exact sz68) ?_))
    | (refine wpList_want rfl (ow_load_at 68 _ rfl (N + 1) 17 rfl r2 _ HD2.out Try.underlying68 rfl (by rw [HR2.out.len]; exact sz68) ?_))
    | (refine wpList_want rfl (ow_load_at 87 _ rfl N 36 rfl b _ HC5.out Try.underlying87 rfl (by rw [HA5.out]; exact info87) ?_))
    | (refine wpList_want rfl (ow_load_at 87 _ rfl (N + 1) 36 rfl b' _ HD5.out Try.underlying87 rfl (by rw [HB5.out]; exact info87) ?_))
    | (refine wpList_want rfl (ow_eql_agg _ _ 68 _ rfl r1.toArray rfl rfl eg68 (eq_rev HR1.out 9997 _) ?_))
    | (refine wpList_want rfl (ow_eql_agg _ _ 68 _ rfl r2.toArray rfl rfl eg68 (eq_rev HR2.out 9997 _) ?_)))
  refine HSM.out.mono ?_
  rintro e w2 ⟨rfl, hb2⟩
  have HB2 := Lib.hid (HBEL.out.trans (hb2.mono HBEL.out.size))
  clear hb2
  go_wp2_with fail
  go_ret
  exact ⟨rfl, HB2.out⟩

theorem fld42_0 : Fld 42 0 0 := fun _ _ _ => by kernel_rfl
set_option maxHeartbeats 4000000 in
set_option maxRecDepth 4000 in
theorem sameT_any (m : Nat) (ok : Nat → Prop) (nd nd' : Value) (W : World) (h : TE m W ok nd nd') :
    Calls Try.prog 48 #[.agg #[nd], .agg #[nd']] W fun e w' => e = .returned (.bool true) ∧ Below W.heap.size W w' := by
  obtain ⟨n, LA, lc, LA', lc', rfl, rfl, hn, hla⟩ := h
  have hnl : n ≤ 9223372036854775807 := by omega
  obtain ⟨N, hN⟩ : ∃ N, N = W.heap.size := ⟨_, rfl⟩
  obtain ⟨W0, hW0⟩ : ∃ W0, W0 = (W.alloc (.cells #[.slice LA n lc] 42)).alloc (.cells #[.slice LA' n lc'] 42) := ⟨_, rfl⟩
  have hrow : W0.heap[N]? = some (.cells #[.slice LA n lc] 42 (0, 0)) := by rw [hW0, hN]; exact blk_alloc (World.alloc_heap_new W _) _
  have hrow' : W0.heap[N + 1]? = some (.cells #[.slice LA' n lc'] 42 (0, 0)) := by rw [hW0]; exact alloc_new_at (by simp [hN])
  have hbel : Below W.heap.size W W0 := by rw [hW0]; exact ((Below.refl _ W).alloc (Nat.le_refl _) _).alloc (by simp) _
  have ha3 : W0.cell? ⟨N, 0, none⟩ = some (.slice LA n lc) := cell_of_row W0 N 0 _ _ _ hrow
  have hb3 : W0.cell? ⟨N + 1, 0, none⟩ = some (.slice LA' n lc') := cell_of_row W0 (N + 1) 0 _ _ _ hrow'
  have HROW := Lib.hid hrow
  have HROW' := Lib.hid hrow'
  have HBEL := Lib.hid hbel
  have HN := Lib.hid hN
  have HLA := Lib.hid hla
  clear hrow hrow' hbel hla hn
  go_enter Try.func48, Try.ntmps48
  go_upto_region 1 with fail
  rw [← HN.out, ← hW0]
  clear hN hW0
  go_upto_region 4 with fail
  clear ha3 hb3
  go_loopw [5] (fun vi wq => ∃ q : Nat, vi = .int .i64 (q : Int) ∧ q ≤ n ∧ Below W0.heap.size W0 wq) (fun vi _ => n - (intOf vi).toNat)
  case atStart => exact ⟨0, rfl, Nat.zero_le _, Below.refl _ _⟩
  case round =>
    obtain ⟨q, rfl, hq, hbl⟩ := hrel
    have ha3 : wr.cell? ⟨N, 0, none⟩ = some (.slice LA n lc) := cell_of_row wr N 0 _ _ _ (blk_below HROW.out hbl)
    have hb3 : wr.cell? ⟨N + 1, 0, none⟩ = some (.slice LA' n lc') := cell_of_row wr (N + 1) 0 _ _ _ (blk_below HROW'.out hbl)
    have HBL := Lib.hid hbl
    clear hbl
    rcases (show q = n ∨ q < n by omega) with rfl | hql
    · have hd : decide ((q : Int) < (q : Int)) = false := by simp
      go_wp2_with fail
      go_ret
      exact ⟨rfl, HBEL.out.trans (HBL.out.mono HBEL.out.size)⟩
    · have hd : decide ((q : Int) < (n : Int)) = true := by simp; omega
      have hd' : decide (q < n) = true := by simp; omega
      obtain ⟨bl, ol, bl', ol', rfl, rfl, -, -, hes⟩ := HLA.out.resolve_left (by omega)
      obtain ⟨es, es', hl, hl', hc, hc', hve⟩ := hes q hql
      have hall := HBEL.out.trans (HBL.out.mono HBEL.out.size)
      have HC := Lib.hid (show ∀ j u, es[j]? = some u → wr.cell? ⟨bl, ol + q * 41 + j, none⟩ = some u from fun j u hj => below_cell hall (hc j u hj))
      have HC' := Lib.hid (show ∀ j u, es'[j]? = some u → wr.cell? ⟨bl', ol' + q * 41 + j, none⟩ = some u from fun j u hj => below_cell hall (hc' j u hj))
      have HVE := Lib.hid (NE.lk m _ _ _ _ _ _ hve (Keep.of_below hall) (fun _ h _ => h))
      have HL5 := Lib.hid hl
      have HL5' := Lib.hid hl'
      clear hes hl hl' hc hc' hve hall
      go_upto_region 6 with fail
      refine region_f 12 (fun i vs W => match i with
          | 0 => vs 0 = .pointer (some ⟨N, 0 + 0, none⟩)
          | 1 => vs 1 = .slice (some ⟨bl, ol, none⟩) n lc
          | 2 => vs 2 = .int .i64 (q : Int)
          | 3 => vs 3 = .pointer (some ⟨bl, ol + q * 41, none⟩)
          | 4 => vs 4 = .agg es.toArray
          | 5 => vs 5 = .pointer (some ⟨(N + 1), 0 + 0, none⟩)
          | 6 => vs 6 = .slice (some ⟨bl', ol', none⟩) n lc'
          | 7 => vs 7 = .int .i64 (q : Int)
          | 8 => vs 8 = .pointer (some ⟨bl', ol' + q * 41, none⟩)
          | 9 => vs 9 = .agg es'.toArray
          | 10 => vs 10 = .bool true
          | 11 => vs 11 = .bool false
          | _ => True) (fun _ W W' => Below W.heap.size W W') (fun W => Below wr.heap.size wr W) (by kernel_rfl) (by kernel_rfl) ?hstb ?h0b ?stepb ?finb
      case hstb =>
        intro i k vs W W' _ _ h hG
        match i, h with
        | 0, h => exact h
        | 1, h => exact h
        | 2, h => exact h
        | 3, h => exact h
        | 4, h => exact h
        | 5, h => exact h
        | 6, h => exact h
        | 7, h => exact h
        | 8, h => exact h
        | 9, h => exact h
        | 10, h => exact h
        | 11, h => exact h
        | n + 12, _ => trivial
      case h0b => exact (Below.refl _ _).drew
      case stepb =>
        intro i op hi ho ac W hS hag hdep
        have hbr : Below W.heap.size W W := Below.refl _ _
        match i, hi, ho with
        | 0, _, rfl =>
          exact ow_field fld42_0 _ rfl N (0) (hag 2 rfl) ⟨_, rfl, fun vs' h _ => h (fun e => by cases e), hbr, hS⟩
        | 1, _, rfl =>
          have hp : ac.eval (.tmp 20) = .pointer (some ⟨N, 0 + 0, none⟩) := hdep 0 (by omega) (by kernel_rfl)
          exact ow_load_slice' _ 89 40 rfl N (0 + 0) hp (some ⟨bl, ol, none⟩) n lc (below_cell hS ha3) Try.underlying40 ⟨_, rfl, fun vs' h _ => h (fun e => by cases e), hbr, hS⟩
        | 2, _, rfl =>
          exact ow_move _ rfl (v := .int .i64 (q : Int)) (hag 5 rfl) ⟨_, rfl, fun vs' h _ => h (fun e => by cases e), hbr, hS⟩
        | 3, _, rfl =>
          have hs : ac.eval (.tmp 21) = .slice (some ⟨bl, ol, none⟩) n lc := hdep 1 (by omega) (by kernel_rfl)
          have hi : ac.eval (.tmp 22) = .int .i64 (q : Int) := hdep 2 (by omega) (by kernel_rfl)
          exact ow_index_n _ _ 89 40 41 rfl bl ol n lc q hs hi hql Try.underlying40 info89 ⟨_, rfl, fun vs' h _ => h (fun e => by cases e), hbr, hS⟩
        | 4, _, rfl =>
          have h5 : ac.eval (.tmp 23) = .pointer (some ⟨bl, ol + q * 41, none⟩) := hdep 3 (by omega) (by kernel_rfl)
          exact ow_load_at 89 _ rfl bl (ol + q * 41) h5 es _ (fun j u hj => below_cell hS (HC.out j u hj)) Try.underlying89 rfl (by rw [HL5.out]; exact info89) ⟨_, rfl, fun vs' h _ => h (fun e => by cases e), hbr, hS⟩
        | 5, _, rfl =>
          exact ow_field fld42_0 _ rfl (N + 1) (0) (hag 3 rfl) ⟨_, rfl, fun vs' h _ => h (fun e => by cases e), hbr, hS⟩
        | 6, _, rfl =>
          have hp : ac.eval (.tmp 25) = .pointer (some ⟨(N + 1), 0 + 0, none⟩) := hdep 5 (by omega) (by kernel_rfl)
          exact ow_load_slice' _ 89 40 rfl (N + 1) (0 + 0) hp (some ⟨bl', ol', none⟩) n lc' (below_cell hS hb3) Try.underlying40 ⟨_, rfl, fun vs' h _ => h (fun e => by cases e), hbr, hS⟩
        | 7, _, rfl =>
          exact ow_move _ rfl (v := .int .i64 (q : Int)) (hag 5 rfl) ⟨_, rfl, fun vs' h _ => h (fun e => by cases e), hbr, hS⟩
        | 8, _, rfl =>
          have hs : ac.eval (.tmp 26) = .slice (some ⟨bl', ol', none⟩) n lc' := hdep 6 (by omega) (by kernel_rfl)
          have hi : ac.eval (.tmp 27) = .int .i64 (q : Int) := hdep 7 (by omega) (by kernel_rfl)
          exact ow_index_n _ _ 89 40 41 rfl bl' ol' n lc' q hs hi hql Try.underlying40 info89 ⟨_, rfl, fun vs' h _ => h (fun e => by cases e), hbr, hS⟩
        | 9, _, rfl =>
          have h5 : ac.eval (.tmp 28) = .pointer (some ⟨bl', ol' + q * 41, none⟩) := hdep 8 (by omega) (by kernel_rfl)
          exact ow_load_at 89 _ rfl bl' (ol' + q * 41) h5 es' _ (fun j u hj => below_cell hS (HC'.out j u hj)) Try.underlying89 rfl (by rw [HL5'.out]; exact info89) ⟨_, rfl, fun vs' h _ => h (fun e => by cases e), hbr, hS⟩
        | 10, _, rfl =>
          have h1 : ac.eval (.tmp 24) = .agg es.toArray := hdep 4 (by omega) (by kernel_rfl)
          have h2 : ac.eval (.tmp 29) = .agg es'.toArray := hdep 9 (by omega) (by kernel_rfl)
          refine ow_call Try.func50 (by kernel_rfl) rfl _ _ rfl (vs := #[.agg es.toArray, .agg es'.toArray]) (by simp only [List.map_toArray, List.map_cons, List.map_nil, h1, h2]) ?_
          refine (sameN_any m ok es es' W (NE.lk m _ _ _ _ _ _ HVE.out (Keep.of_below hS) (fun _ h _ => h))).mono ?_
          rintro e w' ⟨rfl, hbb⟩
          exact ⟨_, rfl, ⟨_, rfl, fun vs' h _ => h (fun e => by cases e), hbb, hS.trans (hbb.mono hS.size)⟩⟩
        | 11, _, rfl =>
          have h1 : ac.eval (.tmp 30) = .bool true := hdep 10 (by omega) (by kernel_rfl)
          exact ow_not _ 4 rfl true h1 ⟨_, rfl, fun vs' h _ => h (fun e => by cases e), hbr, hS⟩
        | n + 12, hi, _ => exact absurd hi (by omega)
      case finb =>
        intro vs W hS hF
        have e11 : vs 11 = .bool false := hF 11 (by omega)
        clear hF
        change wpList _ _ _ _ (Act.put (Act.put (Act.put (Act.put (Act.put (Act.put (Act.put (Act.put (Act.put (Act.put (Act.put (Act.put _ (some 20) (vs 0)) (some 21) (vs 1)) (some 22) (vs 2)) (some 23) (vs 3)) (some 24) (vs 4)) (some 25) (vs 5)) (some 26) (vs 6)) (some 27) (vs 7)) (some 28) (vs 8)) (some 29) (vs 9)) (some 30) (vs 10)) (some 31) (vs 11)) W
        rw [e11]
        clear e11
        generalize vs 0 = z0
        generalize vs 1 = z1
        generalize vs 2 = z2
        generalize vs 3 = z3
        generalize vs 4 = z4
        generalize vs 5 = z5
        generalize vs 6 = z6
        generalize vs 7 = z7
        generalize vs 8 = z8
        generalize vs 9 = z9
        generalize vs 10 = z10
        simp only [putAll, List.drop_succ_cons, List.drop_zero, Act.put, List.setIfInBounds_toArray, List.set_cons_zero, List.set_cons_succ]
        clear vs
        have HBL2 := Lib.hid (HBL.out.trans (hS.mono HBL.out.size))
        clear hS ha3 hb3 HBL
        go_wp2_with fail
        go_roundw
        case rel => exact ⟨q + 1, rfl, by omega, HBL2.out⟩
        case measure => simp [intOf]; omega
end Go.Proofs.Ytncjgfhipflokaa
