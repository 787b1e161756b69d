/-
  FrameRow, walked.
-/
import Derived.Test.YtlhdnloimgckgaaLc
import Derived.Test.YtlhdnloimgckgaaWu
import Derived.Deep.DeepCutAuto
import Derived.BigQuiet
namespace Go.Proofs.Ytlhdnloimgckgaa
open Go.RowKit Go.Shelf

/-- FrameRow, between two rounds of its first loop -/
structure LogAt (w : World) (L : List (List UInt8)) (k : Nat) (rs ts : Value) (W : World) : Prop where
  below : Below w.heap.size w W
  recs : RecsAt w.heap.size W rs (rowL 0 (L.take k))
  tails : TailsAt w.heap.size W ts L k
  small : ∀ p ∈ L.take k, p.length ≤ 16384

set_option maxHeartbeats 2000000 in
set_option maxRecDepth 4000 in
theorem FrameRow_any (v : Value) (L : List (List UInt8)) (x1 x2 x3 : Int) (w : World) (hv : SBB w v L) :
    Calls Try.prog 7 #[v, .int .i64 x1, .int .i64 x2, .int .i64 x3] w fun e w' => e = .returned (.bool true) ∧ Below w.heap.size w w' := by
  obtain ⟨A, c, rfl, hv, -⟩ := hv.shape
  have HV := Lib.hid hv
  clear hv
  by_cases hlong : 60000 < tot L
  · go_enter Try.func7, Try.ntmps7
    go_wp2_with fail
    refine (long_any _ L w HV.out).mono ?_
    rintro e w1 ⟨rfl, rfl⟩
    rw [show decide (60000 < tot L) = true from by simp [hlong]]
    clear hlong
    go_wp2_with fail
    refine (awake_any w).mono ?_
    rintro e w2 ⟨rfl, hb⟩
    have HB := Lib.hid hb
    clear hb
    go_wp2
    go_ret
    exact ⟨rfl, HB.out⟩
  · have htot := tot_eq L
    have HTOT : Hid (L.length + L.flatten.length ≤ 60000) := Lib.hid (by omega)
    have hd1 : decide (60000 < tot L) = false := by simp; omega
    have hLl : L.length ≤ 60000 := by omega
    clear htot hlong
    by_cases hz : L.length = 0
    · have hz' : ((L.length : Int) == 0) = true := by rw [beq_iff_eq]; omega
      have HZ := Lib.hid hz
      clear hz
      go_enter Try.func7, Try.ntmps7
      go_wp2_with fail
      refine (long_any _ L w HV.out).mono ?_
      rintro e w1 ⟨rfl, rfl⟩
      rw [hd1]
      clear hd1
      go_wp2_with fail
      refine (awake_any w).mono ?_
      rintro e w2 ⟨rfl, hb⟩
      have HB := Lib.hid hb
      clear hb
      go_wp2
      go_ret
      exact ⟨rfl, HB.out⟩
    · have hz' : ((L.length : Int) == 0) = false := by rw [beq_eq_false_iff_ne]; omega
      have hLpos : 0 < L.length := by omega
      clear hz
      go_enter Try.func7, Try.ntmps7
      go_wp2_with fail
      refine (long_any _ L w HV.out).mono ?_
      rintro e w1 ⟨rfl, rfl⟩
      rw [hd1]
      clear hd1
      have k43 := fun w : World => run_build43 (.int .i64 0) (.int .i64 0) (.int .u32 0) w rfl rfl rfl
      go_wp2_with fail
      have hlog : LogAt w L 0 (.slice none 0 0) (.slice (some ⟨w.heap.size, 0, none⟩) 1 1) (w.alloc (Obj.cells #[Value.int IntKind.i64 0, Value.int IntKind.i64 0, Value.int IntKind.u32 0] 30)) := by
        refine ⟨below_alloc1 _ _, ⟨[], rfl, World.ownsRow_nil _ _ _ _, fun i u p h => by simp at h⟩, ⟨[.int .i64 0, .int .i64 0, .int .u32 0], ⟨rfl, .inr ⟨w.heap.size, 1, _, rfl, Nat.le_refl _, heap_alloc_new w _, Nat.le_refl _, by unfold maxLen; omega, rfl, rfl⟩⟩, fun j hj => ?_⟩, by simp⟩
        obtain rfl : j = 0 := by omega
        exact ⟨rfl, rfl, rfl⟩
      have HLOG := Lib.hid hlog
      clear hlog k43
      generalize w.alloc (Obj.cells #[Value.int IntKind.i64 0, Value.int IntKind.i64 0, Value.int IntKind.u32 0] 30) = w0 at *
      generalize Value.slice (some ⟨w.heap.size, 0, none⟩) 1 1 = tl0 at *
      go_loopw [9, 10, 11] (fun rs tl i wr => ∃ k : Nat, k ≤ L.length ∧ i = .int .i64 (k : Int) ∧ LogAt w L k rs tl wr) (fun _ _ i _ => L.length - (intOf i).toNat)
      case atStart => exact ⟨0, by omega, rfl, HLOG.out⟩
      case round =>
        obtain ⟨k, hk, rfl, hr⟩ := hrel
        have HR := Lib.hid hr
        clear HLOG
        by_cases hlt : k < L.length
        · obtain ⟨b, o, A3, c3, rfl, hcell, hsb, hl3⟩ := HV.out.at_ k hlt
          have hcell2 := cell_below hr.below hcell
          have HS := Lib.hid (hsb.below hr.below)
          have HTK := Lib.hid (take_snoc L k hlt)
          have hpl : (L[k]).length ≤ 60000 := by have := HTOT.out; have := len_le_flat (List.getElem_mem hlt); omega
          have HKL := Lib.hid hlt
          have hfl := flat_len_le L k
          have htl : (L.take k).length = k := by simp; omega
          have hT2 := tailOf_eq (L.take k)
          obtain ⟨⟨tc, ts, tx⟩, hT⟩ : ∃ t, tailOf (L.take k) = t := ⟨_, rfl⟩
          rw [hT] at hT2
          injection hT2 with h1 hT2
          injection hT2 with h2 h3
          have htc : tc ≤ 120000 := by omega
          have hts : ts ≤ 1200000 := by have := HTOT.out; omega
          have htx : tx < 4294967296 := by rw [h3]; exact lastS_lt (by omega) _
          obtain ⟨gt, capt, rfl, hgB, hgW, hcells⟩ := hr.tails.at_
          obtain ⟨d0, d1, d2⟩ := hcells k (Nat.le_refl _)
          rw [hT] at d0 d1 d2
          have HD0 := Lib.hid d0
          have HD1 := Lib.hid d1
          have HD2 := Lib.hid d2
          have HT := Lib.hid hT
          have HLS := Lib.hid h3
          obtain ⟨p, hp⟩ : ∃ p : List UInt8, p = L[k]'hlt := ⟨_, rfl⟩
          rw [← hp] at HS HTK hcell2 hpl
          clear hcell hsb hl3 hr hp hfl htl h1 h2 h3 hT d0 d1 d2 hcells
          go_wp2_with fail
          refine region_f 16 (fun i vs W => match i with
              | 0 => vs 0 = .slice (some ⟨gt, 0, none⟩) (k + 1) capt
              | 1 => vs 1 = .int .i64 (k : Int)
              | 2 => vs 2 = .pointer (some ⟨gt, k * 3, none⟩)
              | 3 => vs 3 = .agg (tvs (tc, ts, tx))
              | 4 => vs 4 = .slice (some ⟨b, o, none⟩) L.length c
              | 5 => vs 5 = .int .i64 (k : Int)
              | 6 => vs 6 = .pointer (some ⟨b, o + k, none⟩)
              | 7 => vs 7 = .slice A3 p.length c3
              | 8 => ∃ u t n, vs 8 = .tuple #[u, .agg t, .int .i64 n] ∧ PutRes wr.heap.size tc ts tx p W u t n
              | 9 => ∃ u t n, vs 9 = .tuple #[u, .agg t, .int .i64 n] ∧ PutRes wr.heap.size tc ts tx p W u t n
              | 10 => ∃ t n, PutRes wr.heap.size tc ts tx p W (vs 10) t n
              | 11 => vs 11 = .agg (tP tc ts tx p)
              | 12 => vs 12 = .int .i64 (nP p)
              | 13 => ∃ g, vs 13 = .pointer (some ⟨g, 0, none⟩) ∧ wr.heap.size ≤ g ∧ ∃ cs, cs.size = 3 ∧ W.heap[g]? = some (.cells cs 30 (0, 0))
              | 14 => ∃ t n, PutRes wr.heap.size tc ts tx p W (vs 14) t n
              | 15 => ∃ g, vs 13 = .pointer (some ⟨g, 0, none⟩) ∧ wr.heap.size ≤ g ∧ W.heap[g]? = some (.cells (tP tc ts tx p) 30 (0, 0))
              | _ => True) (fun k W W' => (k ≠ 15 → Below W.heap.size W W') ∧ G30 wr.heap.size W W') (fun W => Below wr.heap.size wr W) (by kernel_rfl) (by kernel_rfl) ?hst ?h0 ?step ?fin
          case hst =>
            intro i j vs W W' hji hnd h hG
            match i, h with
            | 0, h => exact h
            | 1, h => exact h
            | 2, h => exact h
            | 3, h => exact h
            | 4, h => exact h
            | 5, h => exact h
            | 6, h => exact h
            | 7, h => exact h
            | 8, ⟨u, t, n, h1, h2⟩ => exact ⟨u, t, n, h1, h2.g30 hG.2⟩
            | 9, ⟨u, t, n, h1, h2⟩ => exact ⟨u, t, n, h1, h2.g30 hG.2⟩
            | 10, ⟨t, n, h2⟩ => exact ⟨t, n, h2.g30 hG.2⟩
            | 11, h => exact h
            | 12, h => exact h
            | 13, ⟨g, h1, h2, cs, h3, h4⟩ =>
              obtain ⟨cs', h5, h6⟩ := hG.2.2 g cs h2 h4
              exact ⟨g, h1, h2, cs', h5.trans h3, h6⟩
            | 14, ⟨t, n, h2⟩ => exact ⟨t, n, h2.g30 hG.2⟩
            | 15, ⟨g, h1, h2, h3⟩ => exact ⟨g, h1, h2, blk_below h3 (hG.1 hji)⟩
            | n + 16, _ => trivial
          case h0 => exact (Below.refl _ _).drew
          case step =>
            intro i op hi ho a W hS hag hdep
            have hbr : Below W.heap.size W W := Below.refl _ _
            have hG0 : ∀ k : Nat, (k ≠ 15 → Below W.heap.size W W) ∧ G30 wr.heap.size W W := fun _ => ⟨fun _ => hbr, G30.of_below hbr⟩
            match i, hi, ho with
            | 0, _, rfl => exact ow_move _ rfl (hag 10 rfl) ⟨_, rfl, fun vs' h _ => h (fun e => by cases e), hG0 0, hS⟩
            | 1, _, rfl => exact ow_move _ rfl (hag 11 rfl) ⟨_, rfl, fun vs' h _ => h (fun e => by cases e), hG0 1, hS⟩
            | 2, _, rfl =>
              have h1 : a.eval (.tmp 41) = .slice (some ⟨gt, 0, none⟩) (k + 1) capt := hdep 0 (by omega) (by kernel_rfl)
              have h2 : a.eval (.tmp 42) = .int .i64 (k : Int) := hdep 1 (by omega) (by kernel_rfl)
              exact ow_index3 _ _ 30 43 rfl gt (k + 1) capt k h1 h2 (by omega) Try.underlying43 (by kernel_rfl) ⟨_, rfl, fun vs' h _ => h (fun e => by cases e), hG0 2, hS⟩
            | 3, _, rfl =>
              have h1 : a.eval (.tmp 43) = .pointer (some ⟨gt, k * 3, none⟩) := hdep 2 (by omega) (by kernel_rfl)
              exact ow_load_tail _ rfl gt (k * 3) h1 _ _ _ (cell_below hS HD0.out) (cell_below hS HD1.out) (cell_below hS HD2.out) ⟨_, rfl, fun vs' h _ => h (fun e => by cases e), hG0 3, hS⟩
            | 4, _, rfl => exact ow_move _ rfl (hag 0 rfl) ⟨_, rfl, fun vs' h _ => h (fun e => by cases e), hG0 4, hS⟩
            | 5, _, rfl => exact ow_move _ rfl (hag 11 rfl) ⟨_, rfl, fun vs' h _ => h (fun e => by cases e), hG0 5, hS⟩
            | 6, _, rfl =>
              have h1 : a.eval (.tmp 45) = .slice (some ⟨b, o, none⟩) L.length c := hdep 4 (by omega) (by kernel_rfl)
              have h2 : a.eval (.tmp 46) = .int .i64 (k : Int) := hdep 5 (by omega) (by kernel_rfl)
              exact ow_index _ _ 25 22 rfl b o L.length c k h1 h2 HKL.out Try.underlying22 (by kernel_rfl) ⟨_, rfl, fun vs' h _ => h (fun e => by cases e), hG0 6, hS⟩
            | 7, _, rfl =>
              have h1 : a.eval (.tmp 47) = .pointer (some ⟨b, o + k, none⟩) := hdep 6 (by omega) (by kernel_rfl)
              exact ow_load_slice' _ 5 25 rfl b (o + k) h1 A3 p.length c3 (cell_below hS hcell2) Try.underlying25 ⟨_, rfl, fun vs' h _ => h (fun e => by cases e), hG0 7, hS⟩
            | 8, _, rfl =>
              have h1 : a.eval (.tmp 44) = .agg (tvs (tc, ts, tx)) := hdep 3 (by omega) (by kernel_rfl)
              have h2 : a.eval (.tmp 48) = .slice A3 p.length c3 := hdep 7 (by omega) (by kernel_rfl)
              refine ow_call Try.func18 (by kernel_rfl) rfl _ _ rfl (vs := #[.agg (tvs (tc, ts, tx)), .slice A3 p.length c3]) (by simp only [List.map_toArray, List.map_cons, List.map_nil, h1, h2]) ?_
              refine (Put_any tc ts tx htx (by omega) (by omega) _ p W (HS.out.below hS)).mono ?_
              rintro e w' ⟨⟨u, t, n, rfl, hres⟩, hb⟩
              exact ⟨_, rfl, _, rfl, fun vs' h _ => ⟨u, t, n, h (fun e => by cases e), hres.base_le hS.size⟩, ⟨fun _ => hb, G30.of_below hb⟩, hS.trans (hb.mono hS.size)⟩
            | 9, _, rfl =>
              obtain ⟨u, t, n, h1, h2⟩ : ∃ u t n, a.eval (.tmp 49) = .tuple #[u, .agg t, .int .i64 n] ∧ PutRes wr.heap.size tc ts tx p W u t n := hdep 8 (by omega) (by kernel_rfl)
              exact ow_move _ rfl h1 ⟨_, rfl, fun vs' h _ => ⟨u, t, n, h (fun e => by cases e), h2⟩, hG0 9, hS⟩
            | 10, _, rfl =>
              obtain ⟨u, t, n, h1, h2⟩ : ∃ u t n, a.eval (.tmp 40) = .tuple #[u, .agg t, .int .i64 n] ∧ PutRes wr.heap.size tc ts tx p W u t n := hdep 9 (by omega) (by kernel_rfl)
              exact ow_extract _ 0 rfl h1 rfl ⟨_, rfl, fun vs' h _ => ⟨t, n, by rw [h (fun e => by cases e)]; exact h2⟩, hG0 10, hS⟩
            | 11, _, rfl =>
              obtain ⟨u, t, n, h1, h2⟩ : ∃ u t n, a.eval (.tmp 40) = .tuple #[u, .agg t, .int .i64 n] ∧ PutRes wr.heap.size tc ts tx p W u t n := hdep 9 (by omega) (by kernel_rfl)
              exact ow_extract _ 1 rfl h1 rfl ⟨_, rfl, fun vs' h _ => (h (fun e => by cases e)).trans (by rw [h2.eq.1]; rfl), hG0 11, hS⟩
            | 12, _, rfl =>
              obtain ⟨u, t, n, h1, h2⟩ : ∃ u t n, a.eval (.tmp 40) = .tuple #[u, .agg t, .int .i64 n] ∧ PutRes wr.heap.size tc ts tx p W u t n := hdep 9 (by omega) (by kernel_rfl)
              exact ow_extract _ 2 rfl h1 rfl ⟨_, rfl, fun vs' h _ => (h (fun e => by cases e)).trans (by rw [h2.eq.2]; rfl), hG0 12, hS⟩
            | 13, _, rfl =>
              refine ow_alloc_row 30 rfl _ (zeroTail W) (fun w' hn hb => ⟨_, rfl, fun vs' h _ => ⟨_, h (fun e => by cases e), hS.size, _, rfl, hn⟩, ⟨fun _ => hb, G30.of_below hb⟩, hS.trans (hb.mono hS.size)⟩)
            | 14, _, rfl =>
              obtain ⟨t, n, h2⟩ : ∃ t n, PutRes wr.heap.size tc ts tx p W (a.eval (.tmp 50)) t n := hdep 10 (by omega) (by kernel_rfl)
              exact ow_assign _ rfl rfl ⟨_, rfl, fun vs' h _ => ⟨t, n, by rw [h (fun e => by cases e)]; exact h2⟩, hG0 14, hS⟩
            | 15, _, rfl =>
              have h1 : a.eval (.tmp 51) = .agg (tP tc ts tx p) := hdep 11 (by omega) (by kernel_rfl)
              obtain ⟨g, h2, h3, cs, h4, h5⟩ := hdep 13 (by omega) (by kernel_rfl)
              have h2 : a.eval (.tmp 13) = .pointer (some ⟨g, 0, none⟩) := h2
              refine wp_store_row 30 _ _ rfl g h2 30 cs _ h1 h5 (by rw [tP_size, h4]) (by rw [tP_size]; kernel_rfl) (tP_one _ _ _ _) ?_
              intro w' hT' hS' hG'
              refine ⟨_, rfl, fun vs' _ hv => ⟨g, (hv 13 (by kernel_rfl)).trans h2, h3, hT'⟩, ⟨fun h => absurd rfl h, G30.of_grown hG' h3 h5 hT' (by rw [tP_size, h4])⟩, hS.grown hG' hS.size (fun j e => by injection e with e; omega)⟩
            | n + 16, hi, _ => exact absurd hi (by omega)
          case fin =>
            intro vs W hS hF
            have e0 : vs 0 = _ := hF 0 (by omega)
            have e1 : vs 1 = _ := hF 1 (by omega)
            have e2 : vs 2 = _ := hF 2 (by omega)
            have e3 : vs 3 = _ := hF 3 (by omega)
            have e4 : vs 4 = _ := hF 4 (by omega)
            have e5 : vs 5 = _ := hF 5 (by omega)
            have e6 : vs 6 = _ := hF 6 (by omega)
            have e7 : vs 7 = _ := hF 7 (by omega)
            have e11 : vs 11 = _ := hF 11 (by omega)
            have e12 : vs 12 = _ := hF 12 (by omega)
            obtain ⟨g, e13, hg, hcell⟩ := hF 15 (by omega)
            obtain ⟨t11, n11, hres⟩ := hF 14 (by omega)
            clear hF
            change wpList Try.prog _ _ _ ((((((((((((((((Act.put _ (some 41) (vs 0)).put (some 42) (vs 1)).put (some 43) (vs 2)).put (some 44) (vs 3)).put (some 45) (vs 4)).put (some 46) (vs 5)).put (some 47) (vs 6)).put (some 48) (vs 7)).put (some 49) (vs 8)).put (some 40) (vs 9)).put (some 50) (vs 10)).put (some 51) (vs 11)).put (some 52) (vs 12)).put (some 13) (vs 13)).put (some 12) (vs 14)).put none (vs 15)) W
            rw [e0, e1, e2, e3, e4, e5, e6, e7, e11, e12, e13]
            clear e0 e1 e2 e3 e4 e5 e6 e7 e11 e12 e13
            generalize vs 8 = x8
            generalize vs 9 = x9
            generalize vs 10 = x10
            generalize vs 14 = cu at hres ⊢
            generalize vs 15 = x15
            simp only [putAll, List.drop_succ_cons, List.drop_zero]
            clear vs
            have HSS := Lib.hid hS
            have HC := Lib.hid hcell
            have HRES := Lib.hid hres
            have HG := Lib.hid hg
            clear hS hcell hres hg
            by_cases hpp : p.length ≤ 16384
            · have hn : nP p = 0 := if_pos hpp
              have ht : tP tc ts tx p = tvs (tc + 1, ts + (8 + p.length), rsum tx p) := if_pos hpp
              rw [hn, ht]
              have HCC : Hid (W.heap[g]? = some (.cells (tvs (tc + 1, ts + (8 + p.length), rsum tx p)) 30 (0, 0))) := Lib.hid (ht ▸ HC.out)
              have HOW : Hid (W.ownsRow wr.heap.size 5 1 cu (rec_ tx p).length (bytesV (rec_ tx p))) := Lib.hid (by rcases HRES.out with ⟨_, _, _, h⟩ | ⟨h, _⟩; exact h; omega)
              clear hn ht HRES HC
              obtain ⟨i1, hj0, hy0, hy1, hy2⟩ := info_parts info25
              have HJ := Lib.hid hj0
              have HY0 := Lib.hid hy0
              have HY1 := Lib.hid hy1
              have HY2 := Lib.hid hy2
              have hrW := HR.out.recs.below HSS.out
              obtain ⟨rv, hrl, hro, hre⟩ := hrW
              rw [rowL_length] at hro
              have htk : (L.take k).length = k := by simp; omega
              rw [htk] at hro
              rw [rowL_length, htk] at hrl
              have htW := HR.out.tails.below HSS.out
              obtain ⟨xs, hxo, hxe⟩ := htW
              have HRL := Lib.hid hrl
              have HRO := Lib.hid hro
              have HRE := Lib.hid hre
              have HXO := Lib.hid hxo
              have HXE := Lib.hid hxe
              have hwr := HR.out.below.size
              have hWr := HSS.out.size
              clear hj0 hy0 hy1 hy2 hrl hro hre htk hxo hxe
              go_wp2_with (first
                | (refine wpList_build1 rfl (.tmp 57) rfl rfl (own_one HOW.out) ?_; intro w5 hb5 hbel5)
                | (at_builtin; (refine wpList_append_src _ rfl (.tmp 56) (.tmp 58) 22 rfl w.heap.size 25 i1 (.slice none 0 0) 24 Try.underlying22 HJ.out HY0.out HY1.out HY2.out rfl _ k rv rfl (own_move HRO.out (fun j cs _ h => blk_below h hbel5)) (some ⟨W.heap.size, 0, none⟩) 1 1 [cu] rfl rfl (by simp) (cells_one hb5) (fun x hx => by rw [List.mem_singleton.1 hx]; exact own_one HOW.out) (by unfold maxLen; omega) (by omega) (by have h2 := hbel5.size; omega) ?_; intro v6 w6 hown6 hg6 hat6))
                | (refine wpList_load_row rfl 30 _ rfl g rfl 30 _ (0, 0) _ (blk_grown_ty (own_move HRO.out (fun j cs _ h => blk_below h hbel5)) hg6 (blk_below HCC.out hbel5) (by decide)) Try.underlying30 rfl (by kernel_rfl) ?_)
                | ((refine wpList_build43 rfl (.tmp 61) rfl _ _ _ rfl rfl rfl rfl ?_; intro w7 hb7 hbel7))
                | (at_builtin; (refine wpList_append_tail rfl (.tmp 60) (.tmp 62) rfl w.heap.size _ (k + 1) xs rfl (own_move3 HXO.out (fun j cs _ h => blk_below (blk_grown_ty (own_move HRO.out (fun j cs _ h => blk_below h hbel5)) hg6 (blk_below h hbel5) (by decide)) hbel7)) w6.heap.size 1 _ _ _ rfl hb7 rfl rfl rfl (by omega) (by have h1 := hg6.size; have h2 := hbel5.size; have h3 := hbel7.size; omega) ?_; intro v8 w8 hown8 hg8)))
              go_roundw
              case rel =>
                refine ⟨k + 1, by omega, by go_num, ?_⟩
                have ho5 := own_move HRO.out (fun j cs _ h => blk_below h hbel5)
                have ho7 := own_move3 HXO.out (fun j cs _ h => blk_below (blk_grown_ty ho5 hg6 (blk_below h hbel5) (by decide)) hbel7)
                have hbW : Below w.heap.size w W := HR.out.below.trans (HSS.out.mono HR.out.below.size)
                have hbw5 := hbW.trans (hbel5.mono hbW.size)
                have hbw6 := below_grown_own hbw5 ho5 (Nat.le_refl _) hg6
                have hbw7 := hbw6.trans (hbel7.mono hbw6.size)
                have hbw8 := below_grown_own3 hbw7 ho7 (Nat.le_refl _) hg8
                have k5 : ∀ (j : Nat) (cs : Array Value), W.heap[j]? = some (.cells cs 5 (0, 0)) → w8.heap[j]? = some (.cells cs 5 (0, 0)) := fun j cs h => blk_grown_ty3 ho7 hg8 (blk_below (blk_grown_ty ho5 hg6 (blk_below h hbel5) (by decide)) hbel7) (by decide)
                have hrow : rowL 0 (L.take (k + 1)) = rowL 0 (L.take k) ++ [rec_ tx p] := by rw [HTK.out, rowL_snoc, HLS.out]
                have hlen : (rowL 0 (L.take k)).length = k := by rw [rowL_length]; simp; omega
                refine ⟨hbw8, ?_, ?_, ?_⟩
                · rw [hrow]
                  refine RecsAt.push (vs := rv) (by rw [HRL.out, hlen]) (fun i u q h1 h2 => own_move (HRE.out i u q h1 h2) (fun j cs _ h => k5 j cs h)) (own_move (HOW.out.base_le hwr) (fun j cs _ h => k5 j cs h)) ?_
                  rw [hlen]
                  exact own_move hown6 (fun j cs _ h => blk_grown_ty3 ho7 hg8 (blk_below h hbel7) (by decide))
                · refine TailsAt.push HXO.out.1 HXE.out ?_
                  rw [HTK.out, tailOf_snoc, HT.out]
                  exact hown8
                · rw [HTK.out]
                  intro q hq
                  rcases List.mem_append.1 hq with h | h
                  · exact HR.out.small q h
                  · rw [List.mem_singleton.1 h]; exact hpp
              case measure => simp [intOf]; omega
            · have hn : nP p = 6 := if_neg hpp
              have ht : tP tc ts tx p = zeroT := if_neg hpp
              rw [hn, ht]
              clear hn ht HRES HC
              go_wp2_with fail
              refine (awake_any _).mono ?_
              rintro e w2 ⟨rfl, hb2⟩
              have HB2 : Hid (Below w.heap.size w w2) := Lib.hid ((HR.out.below.trans (HSS.out.mono HR.out.below.size)).trans (hb2.mono (by have h1 := HR.out.below.size; have h2 := HSS.out.size; omega)))
              clear hb2
              go_wp2
              go_ret
              exact ⟨rfl, HB2.out⟩
        · obtain rfl : k = L.length := by omega
          have hrs := HR.out.recs
          have hsmall := HR.out.small
          rw [List.take_length] at hrs hsmall
          have HSM := Lib.hid hsmall
          have HRS := Lib.hid hrs
          have HTS := Lib.hid HR.out.tails
          have HB := Lib.hid HR.out.below
          obtain ⟨m1, hm1, hm1'⟩ := i64_mask x1 65535 (by decide)
          obtain ⟨m2, hm2, hm2'⟩ := i64_mask x2 65535 (by decide)
          obtain ⟨m3, hm3, hm3'⟩ := i64_mask x3 65535 (by decide)
          have hm1 : bits BinOp.and IntKind.i64 x1 65535 = (m1 : Int) := hm1
          have hm2 : bits BinOp.and IntKind.i64 x2 65535 = (m2 : Int) := hm2
          have hm3 : bits BinOp.and IntKind.i64 x3 65535 = (m3 : Int) := hm3
          have hrl : (rowF 0 L).length ≤ 540000 := by rw [rowF_length]; have := HTOT.out; omega
          have hfl : (rowL 0 L).flatten.length ≤ 540000 := by rw [rowL_flatten]; exact hrl
          have hpl : ∀ p ∈ rowL 0 L, p.length ≤ 540000 := fun p hp => Nat.le_trans (len_le_flat hp) hfl
          obtain ⟨br, capr, rv, hs, hcap, hbrB, hbrW, hcel, hrel, hone⟩ := hrs.open_ (fun p hp => Nat.le_trans (hpl p hp) (by omega)) (by rw [rowL_length]; omega)
          rw [rowL_length] at hs hcap
          subst hs
          obtain ⟨gt, capt, rfl, hgB, hgW, htc⟩ := HTS.out.at_
          have HCAP := Lib.hid hcap
          have HCEL := Lib.hid hcel
          have HREL := Lib.hid hrel
          have HONE := Lib.hid hone
          have HTC := Lib.hid htc
          have HFL := Lib.hid hfl
          clear hr hrs hsmall hk hlt HR HTOT hcap hcel hrel hone htc hrl hfl hpl
          go_wp2_with fail
          obtain ⟨K, hK, hKL⟩ : ∃ K : Nat, (m1 : Int) % (L.length : Int) = (K : Int) ∧ K < L.length := ⟨m1 % L.length, by omega, Nat.mod_lt _ hLpos⟩
          rw [hK]
          clear hK hm1
          obtain ⟨bs, hbs⟩ : ∃ bs, bs = rowF 0 (L.take K) ++ rowF (lastS 0 (L.take (K + 1))) (L.drop (K + 1)) := ⟨_, rfl⟩
          have hjl : ((rowL 0 L).take K ++ (rowL 0 L).drop (K + 1)).flatten = bs := by
            rw [hbs, rowL_take 0 L K (by omega), rowL_drop 0 L (K + 1) (by omega), List.flatten_append, rowL_flatten, rowL_flatten]
          have hbl : bs.length ≤ 540000 := by
            rw [← hjl, List.flatten_append, List.length_append]
            have h1 := HFL.out
            rw [← List.take_append_drop K (rowL 0 L), List.flatten_append, List.length_append] at h1
            have h2 : ((rowL 0 L).drop (K + 1)).flatten.length ≤ ((rowL 0 L).drop K).flatten.length := by
              have h3 := congrArg List.length (congrArg List.flatten (List.take_append_drop 1 ((rowL 0 L).drop K)))
              rw [List.flatten_append, List.length_append, List.drop_drop] at h3
              omega
            omega
          have HJL := Lib.hid hjl
          have HBS := Lib.hid hbs
          have hrvl : rv.length = L.length := by rw [HREL.out.1, rowL_length]
          have HRVL := Lib.hid hrvl
          clear hjl hbs hrvl
          obtain ⟨i1, hj0, hy0, hy1, hy2⟩ := info_parts info25
          have HJ := Lib.hid hj0
          have HY0 := Lib.hid hy0
          have HY1 := Lib.hid hy1
          have HY2 := Lib.hid hy2
          clear hj0 hy0 hy1 hy2
          refine region_c 17 (fun k j => (k == 4 && j == 0) || (k == 9 && (j == 0 || j == 4))) (fun i vs W => match i with
              | 0 => W.ownsRow wr.heap.size 25 1 (vs 0) 0 []
              | 1 => vs 1 = .slice (some ⟨br, 0, none⟩) L.length capr
              | 2 => vs 2 = .int .i64 (K : Int)
              | 3 => vs 3 = .slice (some ⟨br, 0, none⟩) K capr
              | 4 => W.ownsRow wr.heap.size 25 1 (vs 4) K (rv.take K)
              | 5 => vs 5 = .slice (some ⟨br, 0, none⟩) L.length capr
              | 6 => vs 6 = .int .i64 (K : Int)
              | 7 => vs 7 = .int .i64 ((K + 1 : Nat) : Int)
              | 8 => ∃ off, (L.length - (K + 1) = 0 ∨ off = 0 + (K + 1)) ∧ vs 8 = .slice (some ⟨br, off, none⟩) (L.length - (K + 1)) (capr - (K + 1))
              | 9 => W.ownsRow wr.heap.size 25 1 (vs 9) (K + (L.length - (K + 1))) (rv.take K ++ rv.drop (K + 1))
              | 10 => W.ownsRow wr.heap.size 5 1 (vs 10) bs.length (bytesV bs)
              | 11 => ∃ u, vs 11 = .tuple #[u, tv (tailOf (recs bs.length 0 bs))] ∧ OutAt wr.heap.size W u (recs bs.length 0 bs)
              | 12 => ∃ u, vs 12 = .tuple #[u, tv (tailOf (recs bs.length 0 bs))] ∧ OutAt wr.heap.size W u (recs bs.length 0 bs)
              | 13 => OutAt wr.heap.size W (vs 13) (recs bs.length 0 bs)
              | 14 => vs 14 = tv (tailOf (recs bs.length 0 bs))
              | 15 => ∃ g, vs 15 = .pointer (some ⟨g, 0, none⟩) ∧ wr.heap.size ≤ g ∧ W.heap[g]? = some (.cells zeroT 30 (0, 0))
              | 16 => OutAt wr.heap.size W (vs 16) (recs bs.length 0 bs)
              | _ => True) (fun k W W' => (k ≠ 4 ∧ k ≠ 9 → Below W.heap.size W W') ∧ G25 wr.heap.size W W') (fun W => Below wr.heap.size wr W) (by kernel_rfl) (by kernel_rfl) ?hst ?h0 ?step ?fin
          case hst =>
            intro i j vs W W' hji hnd hnc h hG
            have hb : j ≠ 4 → j ≠ 9 → Below W.heap.size W W' := fun h1 h2 => hG.1 ⟨h1, h2⟩
            have d4 : depC _ _ i 4 = true → j ≠ 4 := fun h1 h2 => by rw [h2] at hnd; rw [hnd] at h1; cases h1
            have d9 : depC _ _ i 9 = true → j ≠ 9 := fun h1 h2 => by rw [h2] at hnd; rw [hnd] at h1; cases h1
            match i, h with
            | 0, h =>
              exact own_move h (fun _ _ _ h => blk_below h (hb (fun e => by subst e; cases hnc) (fun e => by subst e; cases hnc)))
            | 1, h => exact h
            | 2, h => exact h
            | 3, h => exact h
            | 4, h => exact own_move h (fun _ _ _ h => blk_below h (hb (fun e => hji e) (fun e => by subst e; cases hnc)))
            | 5, h => exact h
            | 6, h => exact h
            | 7, h => exact h
            | 8, h => exact h
            | 9, h => exact own_move h (fun _ _ _ h => blk_below h (hb (d4 (by kernel_rfl)) (fun e => hji e)))
            | 10, h => exact own_move h (fun _ _ _ h => blk_below h (hb (d4 (by kernel_rfl)) (d9 (by kernel_rfl))))
            | 11, ⟨u, h1, h2⟩ => exact ⟨u, h1, h2.move fun _ _ _ _ _ h => blk_below h (hb (d4 (by kernel_rfl)) (d9 (by kernel_rfl)))⟩
            | 12, ⟨u, h1, h2⟩ => exact ⟨u, h1, h2.move fun _ _ _ _ _ h => blk_below h (hb (d4 (by kernel_rfl)) (d9 (by kernel_rfl)))⟩
            | 13, h => exact OutAt.move h fun _ _ _ _ _ h => blk_below h (hb (d4 (by kernel_rfl)) (d9 (by kernel_rfl)))
            | 14, h => exact h
            | 15, ⟨g, h1, h2, h3⟩ => exact ⟨g, h1, h2, hG.2.other h3 (by decide)⟩
            | 16, h => exact OutAt.move h fun _ _ _ _ _ h => blk_below h (hb (d4 (by kernel_rfl)) (d9 (by kernel_rfl)))
            | n + 17, _ => trivial
          case h0 => exact (Below.refl _ _).drew
          case step =>
            intro i op hi ho a W hS hag hdep
            have hbr : Below W.heap.size W W := Below.refl _ _
            have hG0 : ∀ k : Nat, (k ≠ 4 ∧ k ≠ 9 → Below W.heap.size W W) ∧ G25 wr.heap.size W W := fun _ => ⟨fun _ => hbr, G25.of_below hbr⟩
            have hBw : Below w.heap.size w W := HB.out.trans (hS.mono HB.out.size)
            match i, hi, ho with
            | 0, _, rfl =>
              exact ow_build0 rfl ⟨_, rfl, fun vs' h _ => by rw [h (fun e => by cases e)]; exact (own_build0 W).base_le hS.size, ⟨fun _ => below_alloc1 _ _, G25.of_below (below_alloc1 _ _)⟩, hS.trans ((below_alloc1 W _).mono hS.size)⟩
            | 1, _, rfl => exact ow_move _ rfl (hag 9 rfl) ⟨_, rfl, fun vs' h _ => h (fun e => by cases e), hG0 1, hS⟩
            | 2, _, rfl => exact ow_move _ rfl (hag 15 rfl) ⟨_, rfl, fun vs' h _ => h (fun e => by cases e), hG0 2, hS⟩
            | 3, _, rfl =>
              have h1 : a.eval (.tmp 71) = .slice (some ⟨br, 0, none⟩) L.length capr := hdep 1 (by omega) (by kernel_rfl) (fun k _ h => by simp at h)
              have h2 : a.eval (.tmp 72) = .int .i64 (K : Int) := hdep 2 (by omega) (by kernel_rfl) (fun k _ h => by simp at h)
              exact ow_slice_to _ _ 25 22 rfl br 0 L.length capr K h1 h2 Try.underlying22 (by have := HCAP.out; omega) (by kernel_rfl) ⟨_, rfl, fun vs' h _ => h (fun e => by cases e), hG0 3, hS⟩
            | 4, _, rfl =>
              have h1 : W.ownsRow wr.heap.size 25 1 (a.eval (.tmp 70)) 0 [] := hdep 0 (by omega) (by kernel_rfl) (fun k _ h => by simp at h; rcases h with rfl | rfl; exact .inl rfl; exact .inr (by kernel_rfl))
              have h2 : a.eval (.tmp 73) = .slice (some ⟨br, 0, none⟩) K capr := hdep 3 (by omega) (by kernel_rfl) (fun k _ h => by simp at h)
              refine wp_append_src W _ _ 22 rfl wr.heap.size 25 i1 (.slice none 0 0) 24 Try.underlying22 HJ.out HY0.out HY1.out HY2.out rfl _ 0 [] rfl h1 (some ⟨br, 0, none⟩) K capr (rv.take K) h2 (by rw [List.length_take, HRVL.out]; omega) (by simp) ?_ (fun u hu => HONE.out u (List.mem_of_mem_take hu)) (by unfold maxLen; omega) (by omega) hS.size ?_
              · intro ad e j u hj
                injection e with e
                subst e
                rw [add_plain, Nat.zero_add]
                rw [List.getElem?_take] at hj
                split at hj
                · exact cell_below hS (HCEL.out j u hj)
                · cases hj
              · intro v' w' hrow hg _
                have hb' := below_grown_own (w := wr) hS h1 (Nat.le_refl _) hg
                refine ⟨_, rfl, fun vs' h _ => ?_, ⟨fun h => absurd rfl h.1, G25.of_grown h1 hg⟩, hb'⟩
                rw [h (fun e => by cases e)]
                simpa using hrow
            | 5, _, rfl => exact ow_move _ rfl (hag 9 rfl) ⟨_, rfl, fun vs' h _ => h (fun e => by cases e), hG0 5, hS⟩
            | 6, _, rfl => exact ow_move _ rfl (hag 15 rfl) ⟨_, rfl, fun vs' h _ => h (fun e => by cases e), hG0 6, hS⟩
            | 7, _, rfl =>
              have h1 : a.eval (.tmp 76) = .int .i64 (K : Int) := hdep 6 (by omega) (by kernel_rfl) (fun k _ h => by simp at h)
              exact ow_add_nat _ _ 3 3 K 1 rfl h1 rfl Try.underlying3 (by omega) ⟨_, rfl, fun vs' h _ => h (fun e => by cases e), hG0 7, hS⟩
            | 8, _, rfl =>
              have h1 : a.eval (.tmp 75) = .slice (some ⟨br, 0, none⟩) L.length capr := hdep 5 (by omega) (by kernel_rfl) (fun k _ h => by simp at h)
              have h2 : a.eval (.tmp 77) = .int .i64 ((K + 1 : Nat) : Int) := hdep 7 (by omega) (by kernel_rfl) (fun k _ h => by simp at h)
              refine ow_slice_from _ _ 25 22 rfl br 0 L.length capr (K + 1) h1 h2 Try.underlying22 (by omega) HCAP.out (by kernel_rfl) (fun off hoff => ?_)
              exact ⟨_, rfl, fun vs' h _ => ⟨off, hoff, h (fun e => by cases e)⟩, hG0 8, hS⟩
            | 9, _, rfl =>
              have h1 : W.ownsRow wr.heap.size 25 1 (a.eval (.tmp 74)) K (rv.take K) := hdep 4 (by omega) (by kernel_rfl) (fun k _ h => by simp at h; exact .inl h)
              obtain ⟨off, hoff, h2⟩ := hdep 8 (by omega) (by kernel_rfl) (fun k _ h => by simp at h)
              have h2 : a.eval (.tmp 78) = .slice (some ⟨br, off, none⟩) (L.length - (K + 1)) (capr - (K + 1)) := h2
              refine wp_append_src W _ _ 22 rfl wr.heap.size 25 i1 (.slice none 0 0) 24 Try.underlying22 HJ.out HY0.out HY1.out HY2.out rfl _ K (rv.take K) rfl h1 (some ⟨br, off, none⟩) (L.length - (K + 1)) (capr - (K + 1)) (rv.drop (K + 1)) h2 (by rw [List.length_drop, HRVL.out]) (by simp) ?_ (fun u hu => HONE.out u (List.mem_of_mem_drop hu)) (by unfold maxLen; omega) (by omega) hS.size ?_
              · intro ad e j u hj
                injection e with e
                subst e
                have hlt := (List.getElem?_eq_some_iff.1 hj).1
                rw [List.length_drop, HRVL.out] at hlt
                rw [List.getElem?_drop] at hj
                have ho := hoff.resolve_left (by omega)
                rw [add_plain, ho, Nat.zero_add]
                exact cell_below hS (HCEL.out _ u hj)
              · intro v' w' hrow hg _
                have hb' := below_grown_own (w := wr) hS h1 (Nat.le_refl _) hg
                refine ⟨_, rfl, fun vs' h _ => ?_, ⟨fun h => absurd rfl h.2, G25.of_grown h1 hg⟩, hb'⟩
                rw [h (fun e => by cases e)]
                exact hrow
            | 10, _, rfl =>
              have h1 : W.ownsRow wr.heap.size 25 1 (a.eval (.tmp 79)) (K + (L.length - (K + 1))) (rv.take K ++ rv.drop (K + 1)) := hdep 9 (by omega) (by kernel_rfl) (fun k _ h => by simp at h)
              have hrl : RelL (fun u p => SB W u p) (rv.take K ++ rv.drop (K + 1)) ((rowL 0 L).take K ++ (rowL 0 L).drop (K + 1)) := ((HREL.out.mono (fun u p h => h.below hS)).take K).append ((HREL.out.mono (fun u p h => h.below hS)).drop (K + 1))
              have hlen : ((rowL 0 L).take K ++ (rowL 0 L).drop (K + 1)).length = K + (L.length - (K + 1)) := by rw [List.length_append, List.length_take, List.length_drop, rowL_length]; omega
              have hsbb := sbb_of_rel (rs := (rowL 0 L).take K ++ (rowL 0 L).drop (K + 1)) (by rw [hlen]; exact h1) hrl (by rw [hlen]; omega)
              refine ow_call Try.func20 (by kernel_rfl) rfl _ _ rfl (vs := #[a.eval (.tmp 79)]) (by simp only [List.map_toArray, List.map_cons, List.map_nil]) ?_
              refine (join_any _ _ W hsbb (by rw [HJL.out]; omega)).mono ?_
              rw [HJL.out]
              rintro e w' ⟨u, rfl, hown, hb⟩
              exact ⟨_, rfl, _, rfl, fun vs' h _ => by rw [h (fun e => by cases e)]; exact hown.base_le hS.size, ⟨fun _ => hb, G25.of_below hb⟩, hS.trans (hb.mono hS.size)⟩
            | 11, _, rfl =>
              have h1 : W.ownsRow wr.heap.size 5 1 (a.eval (.tmp 80)) bs.length (bytesV bs) := hdep 10 (by omega) (by kernel_rfl) (fun k _ h => by simp at h)
              refine ow_call Try.func13 (by kernel_rfl) rfl _ _ rfl (vs := #[a.eval (.tmp 80)]) (by simp only [List.map_toArray, List.map_cons, List.map_nil]) ?_
              refine (All_any _ bs W (SB_of_own h1 (by omega)) (by omega)).mono ?_
              rintro e w' ⟨u, rfl, hout, hb⟩
              exact ⟨_, rfl, _, rfl, fun vs' h _ => ⟨u, h (fun e => by cases e), hout.base_le hS.size⟩, ⟨fun _ => hb, G25.of_below hb⟩, hS.trans (hb.mono hS.size)⟩
            | 12, _, rfl =>
              obtain ⟨u, h1, h2⟩ := hdep 11 (by omega) (by kernel_rfl) (fun k _ h => by simp at h)
              exact ow_move _ rfl h1 ⟨_, rfl, fun vs' h _ => ⟨u, h (fun e => by cases e), h2⟩, hG0 12, hS⟩
            | 13, _, rfl =>
              obtain ⟨u, h1, h2⟩ := hdep 12 (by omega) (by kernel_rfl) (fun k _ h => by simp at h)
              exact ow_extract _ 0 rfl h1 rfl ⟨_, rfl, fun vs' h _ => by rw [h (fun e => by cases e)]; exact h2, hG0 13, hS⟩
            | 14, _, rfl =>
              obtain ⟨u, h1, h2⟩ := hdep 12 (by omega) (by kernel_rfl) (fun k _ h => by simp at h)
              exact ow_extract _ 1 rfl h1 rfl ⟨_, rfl, fun vs' h _ => h (fun e => by cases e), hG0 14, hS⟩
            | 15, _, rfl =>
              refine ow_alloc_row 30 rfl _ (zeroTail W) (fun w' hn hb => ⟨_, rfl, fun vs' h _ => ⟨_, h (fun e => by cases e), hS.size, hn⟩, ⟨fun _ => hb, G25.of_below hb⟩, hS.trans (hb.mono hS.size)⟩)
            | 16, _, rfl =>
              have h1 : OutAt wr.heap.size W (a.eval (.tmp 82)) (recs bs.length 0 bs) := hdep 13 (by omega) (by kernel_rfl) (fun k _ h => by simp at h)
              exact ow_assign _ rfl rfl ⟨_, rfl, fun vs' h _ => by rw [h (fun e => by cases e)]; exact h1, hG0 16, hS⟩
            | n + 17, hi, _ => exact absurd hi (by omega)
          case fin =>
            intro vs W hS hF
            have e1 : vs 1 = _ := hF 1 (by omega) (fun k _ => by simp)
            have e2 : vs 2 = _ := hF 2 (by omega) (fun k _ => by simp)
            have e5 : vs 5 = _ := hF 5 (by omega) (fun k _ => by simp)
            have e14 : vs 14 = _ := hF 14 (by omega) (fun k _ => by simp)
            obtain ⟨g, e15, hg, hcell⟩ := hF 15 (by omega) (fun k _ => by simp)
            have hout : OutAt wr.heap.size W (vs 16) (recs bs.length 0 bs) := hF 16 (by omega) (fun k _ => by simp)
            clear hF
            change wpList Try.prog _ _ _ (((((((((((((((((Act.put _ (some 70) (vs 0)).put (some 71) (vs 1)).put (some 72) (vs 2)).put (some 73) (vs 3)).put (some 74) (vs 4)).put (some 75) (vs 5)).put (some 76) (vs 6)).put (some 77) (vs 7)).put (some 78) (vs 8)).put (some 79) (vs 9)).put (some 80) (vs 10)).put (some 81) (vs 11)).put (some 69) (vs 12)).put (some 82) (vs 13)).put (some 83) (vs 14)).put (some 17) (vs 15)).put (some 16) (vs 16)) W
            rw [e14, e15]
            clear e1 e2 e5 e14 e15
            generalize vs 0 = x0
            generalize vs 1 = x1'
            generalize vs 2 = x2'
            generalize vs 3 = x3'
            generalize vs 4 = x4
            generalize vs 5 = x5
            generalize vs 6 = x6
            generalize vs 7 = x7
            generalize vs 8 = x8
            generalize vs 9 = x9
            generalize vs 10 = x10
            generalize vs 11 = x11
            generalize vs 12 = x12
            generalize vs 13 = x13
            generalize vs 16 = al at hout ⊢
            simp only [putAll, List.drop_succ_cons, List.drop_zero]
            clear vs
            have HSS := Lib.hid hS
            have HC := Lib.hid hcell
            have HOUT := Lib.hid hout
            obtain ⟨⟨qc, qs, qx⟩, hT⟩ : ∃ t, tailOf (recs bs.length 0 bs) = t := ⟨_, rfl⟩
            rw [hT]
            have hgw : wr.heap.size ≤ g := hg
            simp only [tv, tailV]
            clear hS hcell hout hT hg
            refine wpList_store_row rfl 30 _ _ rfl g ?hx 30 zeroT #[.int .i64 (qc : Int), .int .i64 (qs : Int), .int .u32 (qx : Int)] ?hy HC.out rfl (by kernel_rfl) (by simp [Value.oneCell']) ?_
            case hx => rw [eval_put_other (by decide)]; exact eval_put_self (by simp [Act.put])
            case hy => rw [eval_put_other (by decide), eval_put_other (by decide)]; exact eval_put_self (by simp [Act.put])
            intro w2 hT2 hS2 hG2
            have HB2 : Hid (Below w.heap.size w w2) := Lib.hid ((HB.out.trans (HSS.out.mono HB.out.size)).grown hG2 (by have := HB.out.size; have := HSS.out.size; omega) (fun j e => by injection e with e; have := HB.out.size; omega))
            go_wp2_with fail
            simp only [Act.put, List.setIfInBounds_toArray, List.set_cons_zero, List.set_cons_succ]
            obtain ⟨S1, hS1⟩ : ∃ S1, S1 = lastS 0 (L.take K) := ⟨_, rfl⟩
            obtain ⟨S2', hS2'⟩ : ∃ S2, S2 = lastS 0 (L.take (K + 1)) := ⟨_, rfl⟩
            obtain ⟨same, hsame⟩ : ∃ b, b = decide (K + 1 < L.length ∧ S1 = S2') := ⟨_, rfl⟩
            have t1 : w2.cell? ⟨gt, K * 3 + 2, none⟩ = some (.int .u32 (S1 : Int)) := by
              have h := (HTC.out K (by omega)).2.2
              rw [tailOf_sum, ← hS1] at h
              have h2 := cell_below HSS.out h
              rw [← h2]
              exact hG2.cell_far _ (cell_lt h2) (fun e => absurd (Option.some.inj e : gt = g) (by omega))
            have t2 : w2.cell? ⟨gt, (K + 1) * 3 + 2, none⟩ = some (.int .u32 (S2' : Int)) := by
              have h := (HTC.out (K + 1) (by omega)).2.2
              rw [tailOf_sum, ← hS2'] at h
              have h2 := cell_below HSS.out h
              rw [← h2]
              exact hG2.cell_far _ (cell_lt h2) (fun e => absurd (Option.some.inj e : gt = g) (by omega))
            have hout2 : OutAt wr.heap.size w2 al (recs bs.length 0 bs) := HOUT.out.move (fun j cs t ht hj h => blk_grown_tail HC.out hG2 h (by rintro rfl; rcases ht with h | h <;> cases h))
            have HOUT2 := Lib.hid hout2
            have HS1 := Lib.hid hS1
            have HS2 := Lib.hid hS2'
            have HSAME := Lib.hid hsame
            have hcar : wr.heap.size ≤ w2.heap.size := by have := HSS.out.size; omega
            have HCAR := Lib.hid hcar
            have HRW : Hid (Below wr.heap.size wr w2) := Lib.hid (HSS.out.grown hG2 HSS.out.size (fun j e => by injection e with e; omega))
            clear hT2 hS2 hG2 hout2 hS1 hS2' hsame HOUT HC HSS hcar
            go_cut [18] from 24 (fun s wc => s = .bool same ∧ ∃ n, wc = w2.drewN n)
            case first =>
              by_cases hk1 : K + 1 < L.length
              · have hk1' : decide (((K : Int) + 1) < (L.length : Int)) = true := by simp; omega
                have heq : ((S1 : Int) == (S2' : Int)) = same := by rw [HSAME.out, Bool.eq_iff_iff, beq_iff_eq, decide_eq_true_iff]; omega
                go_quiet (fail)
                go_wp2_with fail
                go_meet
                case rel => exact ⟨rfl, _, rfl⟩
              · have hk1' : decide (((K : Int) + 1) < (L.length : Int)) = false := by simp; omega
                have hsf : same = false := by rw [HSAME.out]; simp [hk1]
                go_quiet (fail)
                go_wp2_with fail
                go_meet
                case rel => exact ⟨by rw [hsf], _, rfl⟩
            case rest =>
              obtain ⟨rfl, n1, rfl⟩ := hcut
              have hdr : Below w2.heap.size w2 (w2.drewN n1) := below_drewN (Below.refl _ _) _
              obtain ⟨w3, hw3⟩ : ∃ w3, w3 = w2.drewN n1 := ⟨_, rfl⟩
              rw [← hw3] at hdr ⊢
              clear hw3
              have HDR := Lib.hid hdr
              clear hdr t1 t2
              go_upto_region 16 with fail
              go_cut [16, 18, 112] from 24 (fun _ _ s wc => s = .bool false ∧ Below w3.heap.size w3 wc)
              case first =>
                cases hsb : same with
                | true =>
                  clear hsb
                  go_wp2_with fail
                  go_meet
                  case rel => exact ⟨rfl, Below.refl _ _⟩
                | false =>
                  have hrec : recs bs.length 0 bs = L.take K := by
                    have hn : ¬ (K + 1 < L.length ∧ lastS 0 (L.take K) = lastS 0 (L.take (K + 1))) := by
                      rw [← HS1.out, ← HS2.out]
                      have := HSAME.out
                      rw [hsb] at this
                      exact of_decide_eq_false this.symm
                    rw [HBS.out]
                    exact recs_out L HSM.out K hKL hn
                  have hsm := (HOUT2.out.move (W := w3) (fun j cs t _ _ h => blk_below h HDR.out)).sbb (by rw [hrec]; simp; omega) (fun q hq => by rw [hrec] at hq; have := HSM.out q (List.mem_of_mem_take hq); omega)
                  rw [hrec] at hsm
                  obtain ⟨Aq, cq, rfl, hsm, -⟩ := hsm.shape
                  have hlt : (L.take K).length = K := by simp; omega
                  rw [hlt] at hsm ⊢
                  have hKc : K ≤ c := by have := HV.out.cap; omega
                  clear hsb hrec
                  have HSMM := Lib.hid hsm
                  clear hsm
                  go_wp2_with fail
                  refine (Same_any _ _ (L.take K) (L.take K) w3 HSMM.out ((HV.out.below ((HB2.out.trans (HDR.out.mono HB2.out.size)))).take K (by omega))).mono ?_
                  rintro e w4 ⟨rfl, hb4⟩
                  rw [show decide (L.take K = L.take K) = true from by simp]
                  have HB4 := Lib.hid hb4
                  clear hb4
                  go_wp2_with fail
                  go_meet
                  case rel => exact ⟨rfl, HB4.out⟩
              case rest =>
                obtain ⟨rfl, hbc⟩ := hcut
                have HBC : Hid (Below w.heap.size w wc) := Lib.hid ((HB2.out.trans (HDR.out.mono HB2.out.size)).trans (hbc.mono (by have := HB2.out.size; have := HDR.out.size; omega)))
                have HRC : Hid (Below wr.heap.size wr wc) := Lib.hid ((HRW.out.trans (HDR.out.mono HRW.out.size)).trans (hbc.mono (by have := HRW.out.size; have := HDR.out.size; omega)))
                clear hbc HDR HOUT2 HCAR HB2 HRW HBS HJL HSAME HS1 HS2 hbl
                go_upto_region 18 with fail
                have hlz : ¬ ((L.length : Int) = 0) := by omega
                go_quiet (fail)
                go_wp2_with fail
                obtain ⟨I, hI, hIL⟩ : ∃ I : Nat, (m2 : Int) % (L.length : Int) = (I : Int) ∧ I < L.length := ⟨m2 % L.length, by omega, Nat.mod_lt _ hLpos⟩
                obtain ⟨P, hP, hPL⟩ : ∃ P : Nat, (m3 : Int) % ((L.length : Int) + 1) = (P : Int) ∧ P ≤ L.length := ⟨m3 % (L.length + 1), by push_cast; rfl, Nat.le_of_lt_succ (Nat.mod_lt m3 (Nat.succ_pos _))⟩
                rw [hI, hP]
                clear hI hP hm1 hm2 hm3
                obtain ⟨w5, hw5⟩ : ∃ w5, w5 = wc.drewN nq := ⟨_, rfl⟩
                rw [← hw5]
                have hdr : Below wc.heap.size wc w5 := by rw [hw5]; exact below_drewN (Below.refl _ _) _
                have HB5 : Hid (Below w.heap.size w w5) := Lib.hid (HBC.out.trans (hdr.mono HBC.out.size))
                have HR5 : Hid (Below wr.heap.size wr w5) := Lib.hid (HRC.out.trans (hdr.mono HRC.out.size))
                clear hw5 hdr HBC HRC
                obtain ⟨ui, hui⟩ : ∃ ui, rv[I]? = some ui := ⟨rv[I]'(by rw [HRVL.out]; exact hIL), by simp [HRVL.out, hIL]⟩
                have hcI := cell_below HR5.out (HCEL.out I ui hui)
                have hrI : SB w5 ui (rec_ (lastS 0 (L.take I)) L[I]) := (HREL.out.2 I ui _ hui (rowL_get 0 L I hIL)).below HR5.out
                have hoI := HONE.out ui (List.mem_of_getElem? hui)
                obtain ⟨Ai, ci, rfl, hrI, -⟩ := hrI.shape
                obtain ⟨nI, hnI⟩ : ∃ n, n = (rec_ (lastS 0 (L.take I)) L[I]).length := ⟨_, rfl⟩
                rw [← hnI] at hcI hrI hui hoI
                have HUI := Lib.hid hui
                have HRI := Lib.hid hrI
                clear hui hrI hoI hnI
                refine region_c 11 (fun k j => (k == 4 && j == 0) || (k == 10 && (j == 0 || j == 4 || j == 9))) (fun i vs W => match i with
                    | 0 => ∃ g, vs 0 = .slice (some ⟨g, 0, none⟩) 0 0 ∧ w5.heap.size ≤ g ∧ W.heap[g]? = some (.cells #[] 25 (0, 0))
                    | 1 => vs 1 = .slice (some ⟨br, 0, none⟩) L.length capr
                    | 2 => vs 2 = .int .i64 (P : Int)
                    | 3 => vs 3 = .slice (some ⟨br, 0, none⟩) P capr
                    | 4 => W.ownsRow w5.heap.size 25 1 (vs 4) P (rv.take P)
                    | 5 => vs 5 = .slice (some ⟨br, 0, none⟩) L.length capr
                    | 6 => vs 6 = .int .i64 (I : Int)
                    | 7 => vs 7 = .pointer (some ⟨br, 0 + I, none⟩)
                    | 8 => vs 8 = .slice Ai nI ci
                    | 9 => ∃ g, vs 9 = .slice (some ⟨g, 0, none⟩) 1 1 ∧ w5.heap.size ≤ g ∧ W.heap[g]? = some (.cells #[.slice Ai nI ci] 25 (0, 0))
                    | 10 => W.ownsRow w5.heap.size 25 1 (vs 10) (P + 1) (rv.take P ++ [.slice Ai nI ci])
                    | _ => True) (fun k W W' => (k ≠ 4 ∧ k ≠ 10 → Below W.heap.size W W') ∧ (k = 4 → GE W W')) (fun W => Below w5.heap.size w5 W) (by kernel_rfl) (by kernel_rfl) ?hst2 ?h02 ?step2 ?fin2
                case hst2 =>
                  intro i j vs W W' hji hnd hnc h hG
                  have d4 : depC _ _ i 4 = true → j ≠ 4 := fun h1 h2 => by rw [h2] at hnd; rw [hnd] at h1; cases h1
                  match i, h with
                  | 0, ⟨g, h1, h2, h3⟩ => exact ⟨g, h1, h2, blk_below h3 (hG.1 ⟨fun e => (by subst e; cases hnc), fun e => (by subst e; cases hnc)⟩)⟩
                  | 1, h => exact h
                  | 2, h => exact h
                  | 3, h => exact h
                  | 4, h => exact own_move h (fun _ _ _ h => blk_below h (hG.1 ⟨fun e => hji e, fun e => by subst e; cases hnc⟩))
                  | 5, h => exact h
                  | 6, h => exact h
                  | 7, h => exact h
                  | 8, h => exact h
                  | 9, ⟨g, h1, h2, h3⟩ =>
                    by_cases h4 : j = 4
                    · exact ⟨g, h1, h2, hG.2 h4 g _ h3 (fun e => by injection e with e; cases e)⟩
                    · exact ⟨g, h1, h2, blk_below h3 (hG.1 ⟨h4, fun e => by subst e; cases hnc⟩)⟩
                  | 10, h => exact own_move h (fun _ _ _ h => blk_below h (hG.1 ⟨d4 (by kernel_rfl), fun e => hji e⟩))
                  | n + 11, _ => trivial
                case h02 => exact (Below.refl _ _).drew
                case step2 =>
                  intro i op hi ho a W hS hag hdep
                  have hbr : Below W.heap.size W W := Below.refl _ _
                  have hG0 : ∀ k : Nat, (k ≠ 4 ∧ k ≠ 10 → Below W.heap.size W W) ∧ (k = 4 → GE W W) := fun _ => ⟨fun _ => hbr, fun _ => GE.of_below hbr⟩
                  have hSr : Below wr.heap.size wr W := HR5.out.trans (hS.mono HR5.out.size)
                  match i, hi, ho with
                  | 0, _, rfl => exact ow_build0 rfl ⟨_, rfl, fun vs' h _ => ⟨_, h (fun e => by cases e), hS.size, heap_alloc_new W _⟩, ⟨fun _ => below_alloc1 _ _, fun h => by cases h⟩, hS.trans ((below_alloc1 W _).mono hS.size)⟩
                  | 1, _, rfl => exact ow_move _ rfl (hag 9 rfl) ⟨_, rfl, fun vs' h _ => h (fun e => by cases e), hG0 1, hS⟩
                  | 2, _, rfl => exact ow_move _ rfl (hag 20 rfl) ⟨_, rfl, fun vs' h _ => h (fun e => by cases e), hG0 2, hS⟩
                  | 3, _, rfl =>
                    have h1 : a.eval (.tmp 125) = .slice (some ⟨br, 0, none⟩) L.length capr := hdep 1 (by omega) (by kernel_rfl) (fun k _ h => by simp at h)
                    have h2 : a.eval (.tmp 126) = .int .i64 (P : Int) := hdep 2 (by omega) (by kernel_rfl) (fun k _ h => by simp at h)
                    exact ow_slice_to _ _ 25 22 rfl br 0 L.length capr P h1 h2 Try.underlying22 (by have := HCAP.out; omega) (by kernel_rfl) ⟨_, rfl, fun vs' h _ => h (fun e => by cases e), hG0 3, hS⟩
                  | 4, _, rfl =>
                    obtain ⟨g, h1, hg1, hg2⟩ := hdep 0 (by omega) (by kernel_rfl) (fun k _ h => by simp at h; rcases h with rfl | rfl; exact .inl rfl; exact .inr (by kernel_rfl))
                    have h1 : a.eval (.tmp 124) = .slice (some ⟨g, 0, none⟩) 0 0 := h1
                    have h2 : a.eval (.tmp 127) = .slice (some ⟨br, 0, none⟩) P capr := hdep 3 (by omega) (by kernel_rfl) (fun k _ h => by simp at h)
                    have how := own_empty hg1 hg2
                    refine wp_append_src W _ _ 22 rfl w5.heap.size 25 i1 (.slice none 0 0) 24 Try.underlying22 HJ.out HY0.out HY1.out HY2.out rfl _ 0 [] h1 how (some ⟨br, 0, none⟩) P capr (rv.take P) h2 (by rw [List.length_take, HRVL.out]; omega) (by simp) ?_ (fun u hu => HONE.out u (List.mem_of_mem_take hu)) (by unfold maxLen; omega) (by omega) hS.size ?_
                    · intro ad e j u hj
                      injection e with e
                      subst e
                      rw [add_plain, Nat.zero_add]
                      rw [List.getElem?_take] at hj
                      split at hj
                      · exact cell_below hSr (HCEL.out j u hj)
                      · cases hj
                    · intro v' w' hrow hg _
                      have hb' := below_grown_own (w := w5) hS how (Nat.le_refl _) hg
                      refine ⟨_, rfl, fun vs' h _ => ?_, ⟨fun h => absurd rfl h.1, fun _ => GE.of_grown hg2 hg⟩, hb'⟩
                      rw [h (fun e => by cases e)]
                      simpa using hrow
                  | 5, _, rfl => exact ow_move _ rfl (hag 9 rfl) ⟨_, rfl, fun vs' h _ => h (fun e => by cases e), hG0 5, hS⟩
                  | 6, _, rfl => exact ow_move _ rfl (hag 19 rfl) ⟨_, rfl, fun vs' h _ => h (fun e => by cases e), hG0 6, hS⟩
                  | 7, _, rfl =>
                    have h1 : a.eval (.tmp 129) = .slice (some ⟨br, 0, none⟩) L.length capr := hdep 5 (by omega) (by kernel_rfl) (fun k _ h => by simp at h)
                    have h2 : a.eval (.tmp 130) = .int .i64 (I : Int) := hdep 6 (by omega) (by kernel_rfl) (fun k _ h => by simp at h)
                    exact ow_index _ _ 25 22 rfl br 0 L.length capr I h1 h2 hIL Try.underlying22 (by kernel_rfl) ⟨_, rfl, fun vs' h _ => h (fun e => by cases e), hG0 7, hS⟩
                  | 8, _, rfl =>
                    have h1 : a.eval (.tmp 131) = .pointer (some ⟨br, 0 + I, none⟩) := hdep 7 (by omega) (by kernel_rfl) (fun k _ h => by simp at h)
                    exact ow_load_slice' _ 5 25 rfl br (0 + I) h1 Ai nI ci (by rw [Nat.zero_add]; exact cell_below hS hcI) Try.underlying25 ⟨_, rfl, fun vs' h _ => h (fun e => by cases e), hG0 8, hS⟩
                  | 9, _, rfl =>
                    have h1 : a.eval (.tmp 132) = .slice Ai nI ci := hdep 8 (by omega) (by kernel_rfl) (fun k _ h => by simp at h)
                    exact ow_build1 _ rfl h1 rfl ⟨_, rfl, fun vs' h _ => ⟨_, h (fun e => by cases e), hS.size, heap_alloc_new W _⟩, ⟨fun _ => below_alloc1 _ _, fun h => by cases h⟩, hS.trans ((below_alloc1 W _).mono hS.size)⟩
                  | 10, _, rfl =>
                    have h1 : W.ownsRow w5.heap.size 25 1 (a.eval (.tmp 128)) P (rv.take P) := hdep 4 (by omega) (by kernel_rfl) (fun k _ h => by simp at h; exact .inl h)
                    obtain ⟨g, h2, hg1, hg2⟩ := hdep 9 (by omega) (by kernel_rfl) (fun k _ h => by simp at h; exact .inl h)
                    have h2 : a.eval (.tmp 133) = .slice (some ⟨g, 0, none⟩) 1 1 := h2
                    refine wp_append_src W _ _ 22 rfl w5.heap.size 25 i1 (.slice none 0 0) 24 Try.underlying22 HJ.out HY0.out HY1.out HY2.out rfl _ P (rv.take P) rfl h1 (some ⟨g, 0, none⟩) 1 1 [.slice Ai nI ci] h2 rfl (by simp) (cells_one hg2) (fun x hx => by rw [List.mem_singleton.1 hx]; rfl) (by unfold maxLen; omega) (by omega) hS.size ?_
                    intro v' w' hrow hg _
                    have hb' := below_grown_own (w := w5) hS h1 (Nat.le_refl _) hg
                    refine ⟨_, rfl, fun vs' h _ => ?_, ⟨fun h => absurd rfl h.2, fun h => by cases h⟩, hb'⟩
                    rw [h (fun e => by cases e)]
                    exact hrow
                  | n + 11, hi, _ => exact absurd hi (by omega)
                case fin2 =>
                  intro vs W hS hF
                  have hput : W.ownsRow w5.heap.size 25 1 (vs 10) (P + 1) (rv.take P ++ [.slice Ai nI ci]) := hF 10 (by omega) (fun k _ => by simp)
                  clear hF
                  change wpList Try.prog _ _ _ (((((((((((Act.put _ (some 124) (vs 0)).put (some 125) (vs 1)).put (some 126) (vs 2)).put (some 127) (vs 3)).put (some 128) (vs 4)).put (some 129) (vs 5)).put (some 130) (vs 6)).put (some 131) (vs 7)).put (some 132) (vs 8)).put (some 133) (vs 9)).put (some 134) (vs 10)) W
                  generalize vs 0 = x0
                  generalize vs 1 = x1'
                  generalize vs 2 = x2'
                  generalize vs 3 = x3'
                  generalize vs 4 = x4
                  generalize vs 5 = x5
                  generalize vs 6 = x6
                  generalize vs 7 = x7
                  generalize vs 8 = x8
                  generalize vs 9 = x9
                  generalize vs 10 = pv at hput ⊢
                  simp only [putAll, List.drop_succ_cons, List.drop_zero, Act.put, List.setIfInBounds_toArray, List.set_cons_zero, List.set_cons_succ]
                  clear vs
                  have HPUT := Lib.hid hput
                  have HSS := Lib.hid hS
                  clear hput hS
                  have hSr : Below wr.heap.size wr W := HR5.out.trans (HSS.out.mono HR5.out.size)
                  have hcd : ∀ off, (L.length - P = 0 ∨ off = 0 + P) → ∀ ad, some (⟨br, off, none⟩ : Addr) = some ad → ∀ (j : Nat) u, (rv.drop P)[j]? = some u → W.cell? (ad.add j) = some u := by
                    intro off hoff ad e j u hj
                    injection e with e
                    subst e
                    have hlt := (List.getElem?_eq_some_iff.1 hj).1
                    rw [List.length_drop, HRVL.out] at hlt
                    rw [List.getElem?_drop] at hj
                    have ho := hoff.resolve_left (by omega)
                    rw [add_plain, ho, Nat.zero_add]
                    exact cell_below hSr (HCEL.out _ u hj)
                  have HCD := Lib.hid hcd
                  have HSR := Lib.hid hSr
                  have hdl : (rv.drop P).length = L.length - P := by rw [List.length_drop, HRVL.out]
                  have HDL := Lib.hid hdl
                  clear hcd hSr hdl
                  go_wp2_with (first
                    | (refine wpList_slice_from rfl (.tmp 137) (.tmp 138) 25 22 rfl br 0 L.length capr P rfl rfl Try.underlying22 hPL HCAP.out (by kernel_rfl) ?_; intro off hoff)
                    | (at_builtin; (refine wpList_append_src _ rfl (.tmp 136) (.tmp 139) 22 rfl w5.heap.size 25 i1 (.slice none 0 0) 24 Try.underlying22 HJ.out HY0.out HY1.out HY2.out rfl _ (P + 1) _ rfl HPUT.out (some ⟨br, off, none⟩) (L.length - P) (capr - P) (rv.drop P) rfl HDL.out (by simp) (HCD.out off hoff) (fun u hu => HONE.out u (List.mem_of_mem_drop hu)) (by unfold maxLen; omega) (by omega) HSS.out.size ?_; intro v6 w6 hown6 hg6 hat6)))
                  obtain ⟨SI, hSI⟩ : ∃ SI, SI = lastS 0 (L.take I) := ⟨_, rfl⟩
                  obtain ⟨SP, hSP⟩ : ∃ SP, SP = lastS 0 (L.take P) := ⟨_, rfl⟩
                  have hw6r : Below wr.heap.size wr w6 := below_grown_own HSR.out HPUT.out HR5.out.size hg6
                  have hw6 : Below w.heap.size w w6 := HB.out.trans (hw6r.mono HB.out.size)
                  obtain ⟨r2, hr2⟩ : ∃ r2, r2 = rowF SP (L.drop P) := ⟨_, rfl⟩
                  obtain ⟨b2, hb2⟩ : ∃ b2, b2 = rowF 0 (L.take P) ++ (rec_ SI L[I] ++ r2) := ⟨_, rfl⟩
                  have hrs2 : ((rowL 0 L).take P ++ [rec_ SI L[I]] ++ (rowL 0 L).drop P).flatten = b2 := by
                    rw [hb2, hr2, hSP, rowL_take 0 L P hPL, rowL_drop 0 L P hPL, List.flatten_append, List.flatten_append, rowL_flatten, rowL_flatten]
                    simp
                  have hlI : (L[I]).length ≤ 16384 := HSM.out _ (List.getElem_mem hIL)
                  have hb2l : b2.length ≤ 1099511627776 := by
                    have h1 := HFL.out
                    rw [← List.take_append_drop P (rowL 0 L), List.flatten_append, List.length_append] at h1
                    rw [← hrs2, List.flatten_append, List.flatten_append, List.length_append, List.length_append]
                    have h2 : [rec_ SI L[I]].flatten.length = 8 + (L[I]).length := by simp [rec_length]
                    omega
                  have hrlen : ((rowL 0 L).take P ++ [rec_ SI L[I]] ++ (rowL 0 L).drop P).length = P + 1 + (L.length - P) := by
                    rw [List.length_append, List.length_append, List.length_take, List.length_drop, rowL_length]
                    simp
                    omega
                  have hrel6 := HREL.out.mono (R' := fun u p => SB w6 u p) (fun u p h => h.below hw6r)
                  have hget := rowL_get 0 L I hIL
                  rw [← hSI] at hget
                  have hrel2 := ((hrel6.take P).append (RelL.one (hrel6.2 I _ _ HUI.out hget))).append (hrel6.drop P)
                  have hsbb := sbb_of_rel (by rw [hrlen]; exact hown6) hrel2 (by rw [hrlen]; omega)
                  have HRS2 := Lib.hid hrs2
                  have HB2' := Lib.hid hb2
                  have HSI := Lib.hid hSI
                  have HSP := Lib.hid hSP
                  have HW6 := Lib.hid hw6
                  have HW6R := Lib.hid hw6r
                  have HB2L := Lib.hid hb2l
                  refine (join_any _ _ w6 hsbb (by rw [hrs2]; exact hb2l)).mono ?_
                  rintro e w7 ⟨u7, rfl, hown7, hb7⟩
                  rw [hrs2] at hown7
                  have HO7 := Lib.hid hown7
                  have HB7 := Lib.hid hb7
                  clear hrs2 hb2 hSI hSP hw6 hw6r hb2l hrlen hrel6 hget hrel2 hsbb hown7 hb7 hown6 hg6 hat6 hr2
                  go_wp2_with fail
                  refine (All_any _ b2 w7 (SB_of_own HO7.out (by have := HB2L.out; omega)) HB2L.out).mono ?_
                  rintro e w8 ⟨u8', rfl, hout8, hb8⟩
                  obtain ⟨⟨zc, zs, zx⟩, hT⟩ : ∃ t, tailOf (recs b2.length 0 b2) = t := ⟨_, rfl⟩
                  rw [hT]
                  have h78 : Below w6.heap.size w6 w8 := HB7.out.trans (hb8.mono HB7.out.size)
                  have HW8 : Hid (Below w.heap.size w w8) := Lib.hid (HW6.out.trans (h78.mono HW6.out.size))
                  have HW8R : Hid (Below wr.heap.size wr w8) := Lib.hid (HW6R.out.trans (h78.mono HW6R.out.size))
                  have HOUT8 := Lib.hid hout8
                  simp only [tv, tailV]
                  clear hT h78 hout8 hb8 HB7 HO7
                  go_wp2_with fail
                  obtain ⟨w9, hw9⟩ : ∃ w9, w9 = w8.alloc (Obj.cells #[Value.int IntKind.i64 ↑zc, Value.int IntKind.i64 ↑zs, Value.int IntKind.u32 ↑zx] 30) := ⟨_, rfl⟩
                  rw [← hw9]
                  have hb9 : Below w8.heap.size w8 w9 := by rw [hw9]; exact below_alloc1 _ _
                  have HB9 := Lib.hid hb9
                  clear hw9 hb9
                  have t1 : w9.cell? ⟨gt, P * 3 + 2, none⟩ = some (.int .u32 (SP : Int)) := by
                    have h := (HTC.out P hPL).2.2
                    rw [tailOf_sum, ← HSP.out] at h
                    exact cell_below HB9.out (cell_below HW8R.out h)
                  have t2 : w9.cell? ⟨gt, I * 3 + 2, none⟩ = some (.int .u32 (SI : Int)) := by
                    have h := (HTC.out I (by omega)).2.2
                    rw [tailOf_sum, ← HSI.out] at h
                    exact cell_below HB9.out (cell_below HW8R.out h)
                  have hPlt : P < L.length + 1 := by omega
                  by_cases hSS : SP = SI
                  · have hne : ((SP : Int) != (SI : Int)) = false := by rw [hSS]; simp
                    have HSS := Lib.hid hSS
                    clear hSS
                    obtain ⟨rest, hrec⟩ : ∃ rest, recs b2.length 0 b2 = L.take P ++ (L[I] :: rest) := by
                      rw [HB2'.out, HSI.out]
                      exact recs_in_same L HSM.out I P hIL (by rw [← HSI.out, ← HSP.out]; exact HSS.out) r2
                    have hlt : (L.take P).length = P := by simp; omega
                    have hsm := (HOUT8.out.move (W := w9) (fun j cs t _ _ h => blk_below h HB9.out)).sbb (by have := recs_len b2.length 0 b2; have := HB2L.out; omega) (fun q hq => by have := recs_len b2.length 0 b2; have := len_le_flat hq; have := HB2L.out; omega)
                    rw [hrec] at hsm
                    have hn2 : (L.take P ++ (L[I] :: rest)).length = P + 1 + rest.length := by rw [List.length_append, hlt, List.length_cons]; omega
                    obtain ⟨Aq, cq, rfl, hsm, -⟩ := hsm.shape
                    have hcq := hsm.cap
                    have htk := hsm.take P (by rw [hn2]; omega)
                    rw [List.take_append_of_le_length (by omega), List.take_of_length_le (by omega)] at htk
                    obtain ⟨bq, oq, A5, c5, rfl, hcell5, hsb5, -⟩ := hsm.at_ P (by rw [hn2]; omega)
                    have hgetP : (L.take P ++ (L[I] :: rest))[P]'(by rw [hn2]; omega) = L[I] := by
                      rw [List.getElem_append_right (by omega)]
                      simp [hlt]
                    rw [hgetP] at hcell5 hsb5
                    rw [hn2] at hcq hsm ⊢
                    obtain ⟨nq2, hnq2⟩ : ∃ n, n = P + 1 + rest.length := ⟨_, rfl⟩
                    rw [← hnq2] at hcq hsm ⊢
                    obtain ⟨bl, ol, A6, c6, rfl, hcell6, hsb6, -⟩ := HV.out.at_ I hIL
                    obtain ⟨pI, hpI⟩ : ∃ pI : List UInt8, pI = L[I]'hIL := ⟨_, rfl⟩
                    rw [← hpI] at hcell5 hsb5 hcell6 hsb6
                    have hw9 : Below w.heap.size w w9 := HW8.out.trans (HB9.out.mono HW8.out.size)
                    have HW9 := Lib.hid hw9
                    have HC5 := Lib.hid hcell5
                    have HS5 := Lib.hid hsb5
                    have HC6 := Lib.hid (cell_below hw9 hcell6)
                    have HS6 := Lib.hid (hsb6.below hw9)
                    have HTK := Lib.hid htk
                    have HLP := Lib.hid ((HV.out.below hw9).take P hPL)
                    have hcapL : L.length ≤ c := HV.out.cap
                    clear hsm htk hcell5 hsb5 hcell6 hsb6 hw9 hrec hgetP hn2 hlt
                    go_quiet (fail)
                    obtain ⟨wq, hwq⟩ : ∃ wq, wq = w9.drewN nq := ⟨_, rfl⟩
                    rw [← hwq]
                    have hdr : Below w9.heap.size w9 wq := by rw [hwq]; exact below_drewN (Below.refl _ _) _
                    have HDR := Lib.hid hdr
                    clear hdr hwq t1 t2 hne
                    go_wp2_with fail
                    refine region_g 28 (fun _ _ => false) (fun i vs _ => match i with
                        | 0 => vs 0 = .slice (some ⟨bq, oq, none⟩) nq2 cq
                        | 1 => vs 1 = .int .i64 (nq2 : Int)
                        | 2 => vs 2 = .int .i64 (P : Int)
                        | 3 => vs 3 = .int .i64 ((P + 1 : Nat) : Int)
                        | 4 => vs 4 = .bool true
                        | 5 => vs 5 = .bool true
                        | 6 => vs 6 = .slice (some ⟨bq, oq, none⟩) nq2 cq
                        | 7 => vs 7 = .int .i64 (P : Int)
                        | 8 => vs 8 = .slice (some ⟨bq, oq, none⟩) P cq
                        | 9 => vs 9 = .slice (some ⟨bl, ol, none⟩) L.length c
                        | 10 => vs 10 = .int .i64 (P : Int)
                        | 11 => vs 11 = .slice (some ⟨bl, ol, none⟩) P c
                        | 12 => vs 12 = .bool true
                        | 13 => vs 13 = .bool true
                        | 14 => vs 14 = .bool true
                        | 15 => vs 15 = .slice (some ⟨bq, oq, none⟩) nq2 cq
                        | 16 => vs 16 = .int .i64 (P : Int)
                        | 17 => vs 17 = .pointer (some ⟨bq, oq + P, none⟩)
                        | 18 => vs 18 = .slice A5 pI.length c5
                        | 19 => vs 19 = .string ⟨pI.toArray⟩
                        | 20 => vs 20 = .slice (some ⟨bl, ol, none⟩) L.length c
                        | 21 => vs 21 = .int .i64 (I : Int)
                        | 22 => vs 22 = .pointer (some ⟨bl, ol + I, none⟩)
                        | 23 => vs 23 = .slice A6 pI.length c6
                        | 24 => vs 24 = .string ⟨pI.toArray⟩
                        | 25 => vs 25 = .bool true
                        | 26 => vs 26 = .bool true
                        | 27 => vs 27 = .bool true
                        | _ => True) (fun _ _ _ => True) (fun W => Below wq.heap.size wq W) (by kernel_rfl) (by kernel_rfl) (fun i k vs w w' _ _ _ h _ => h) (Below.refl _ _).drew ?step3 ?fin3
                    case step3 =>
                      intro i op hi ho a W hS hag hdep
                      have h9W : Below w9.heap.size w9 W := HDR.out.trans (hS.mono HDR.out.size)
                      match i, hi, ho with
                      | 0, _, rfl =>
                        refine gstep rfl ?_
                        exact ow_move _ rfl (hag 22 rfl) ⟨_, rfl, fun vs' h _ => h (fun e => by cases e), trivial, hS⟩
                      | 1, _, rfl =>
                        have h1 : a.eval (.tmp 164) = .slice (some ⟨bq, oq, none⟩) nq2 cq := hdep 0 (by omega) (by kernel_rfl) (fun k _ h => by cases h)
                        refine gstep rfl ?_
                        exact ow_len _ 22 25 Try.underlying22 rfl h1 ⟨_, rfl, fun vs' h _ => h (fun e => by cases e), trivial, hS⟩
                      | 2, _, rfl =>
                        refine gstep rfl ?_
                        exact ow_move _ rfl (hag 20 rfl) ⟨_, rfl, fun vs' h _ => h (fun e => by cases e), trivial, hS⟩
                      | 3, _, rfl =>
                        have h1 : a.eval (.tmp 166) = .int .i64 (P : Int) := hdep 2 (by omega) (by kernel_rfl) (fun k _ h => by cases h)
                        refine gstep rfl ?_
                        exact ow_add_nat _ _ 3 3 P 1 rfl h1 rfl Try.underlying3 (by omega) ⟨_, rfl, fun vs' h _ => h (fun e => by cases e), trivial, hS⟩
                      | 4, _, rfl =>
                        have h1 : a.eval (.tmp 165) = .int .i64 (nq2 : Int) := hdep 1 (by omega) (by kernel_rfl) (fun k _ h => by cases h)
                        have h2 : a.eval (.tmp 167) = .int .i64 ((P + 1 : Nat) : Int) := hdep 3 (by omega) (by kernel_rfl) (fun k _ h => by cases h)
                        refine gstep rfl ?_
                        exact ow_geq_nat _ _ 3 3 nq2 (P + 1) rfl h1 h2 Try.underlying3 (by omega) ⟨_, rfl, fun vs' h _ => h (fun e => by cases e), trivial, hS⟩
                      | 5, _, rfl =>
                        have h1 : a.eval (.tmp 168) = .bool true := hdep 4 (by omega) (by kernel_rfl) (fun k _ h => by cases h)
                        refine gstep rfl ?_
                        exact ow_move _ rfl h1 ⟨_, rfl, fun vs' h _ => h (fun e => by cases e), trivial, hS⟩
                      | 6, _, rfl =>
                        refine gstep (wanted_ok rfl rfl (hdep 5 (by omega) (by kernel_rfl) (fun k _ h => by cases h) : a.eval (.tmp 169) = .bool true)) ?_
                        exact ow_move _ rfl (hag 22 rfl) ⟨_, rfl, fun vs' h _ => h (fun e => by cases e), trivial, hS⟩
                      | 7, _, rfl =>
                        refine gstep (wanted_ok rfl rfl (hdep 5 (by omega) (by kernel_rfl) (fun k _ h => by cases h) : a.eval (.tmp 169) = .bool true)) ?_
                        exact ow_move _ rfl (hag 20 rfl) ⟨_, rfl, fun vs' h _ => h (fun e => by cases e), trivial, hS⟩
                      | 8, _, rfl =>
                        have h1 : a.eval (.tmp 170) = .slice (some ⟨bq, oq, none⟩) nq2 cq := hdep 6 (by omega) (by kernel_rfl) (fun k _ h => by cases h)
                        have h2 : a.eval (.tmp 171) = .int .i64 (P : Int) := hdep 7 (by omega) (by kernel_rfl) (fun k _ h => by cases h)
                        refine gstep (wanted_ok rfl rfl (hdep 5 (by omega) (by kernel_rfl) (fun k _ h => by cases h) : a.eval (.tmp 169) = .bool true)) ?_
                        exact ow_slice_to _ _ 25 22 rfl bq oq nq2 cq P h1 h2 Try.underlying22 (by omega) (by kernel_rfl) ⟨_, rfl, fun vs' h _ => h (fun e => by cases e), trivial, hS⟩
                      | 9, _, rfl =>
                        refine gstep (wanted_ok rfl rfl (hdep 5 (by omega) (by kernel_rfl) (fun k _ h => by cases h) : a.eval (.tmp 169) = .bool true)) ?_
                        exact ow_move _ rfl (hag 0 rfl) ⟨_, rfl, fun vs' h _ => h (fun e => by cases e), trivial, hS⟩
                      | 10, _, rfl =>
                        refine gstep (wanted_ok rfl rfl (hdep 5 (by omega) (by kernel_rfl) (fun k _ h => by cases h) : a.eval (.tmp 169) = .bool true)) ?_
                        exact ow_move _ rfl (hag 20 rfl) ⟨_, rfl, fun vs' h _ => h (fun e => by cases e), trivial, hS⟩
                      | 11, _, rfl =>
                        have h1 : a.eval (.tmp 173) = .slice (some ⟨bl, ol, none⟩) L.length c := hdep 9 (by omega) (by kernel_rfl) (fun k _ h => by cases h)
                        have h2 : a.eval (.tmp 174) = .int .i64 (P : Int) := hdep 10 (by omega) (by kernel_rfl) (fun k _ h => by cases h)
                        refine gstep (wanted_ok rfl rfl (hdep 5 (by omega) (by kernel_rfl) (fun k _ h => by cases h) : a.eval (.tmp 169) = .bool true)) ?_
                        exact ow_slice_to _ _ 25 22 rfl bl ol L.length c P h1 h2 Try.underlying22 (by omega) (by kernel_rfl) ⟨_, rfl, fun vs' h _ => h (fun e => by cases e), trivial, hS⟩
                      | 12, _, rfl =>
                        have h1 : a.eval (.tmp 172) = .slice (some ⟨bq, oq, none⟩) P cq := hdep 8 (by omega) (by kernel_rfl) (fun k _ h => by cases h)
                        have h2 : a.eval (.tmp 175) = .slice (some ⟨bl, ol, none⟩) P c := hdep 11 (by omega) (by kernel_rfl) (fun k _ h => by cases h)
                        refine gstep (wanted_ok rfl rfl (hdep 5 (by omega) (by kernel_rfl) (fun k _ h => by cases h) : a.eval (.tmp 169) = .bool true)) ?_
                        refine ow_call Try.func15 (by kernel_rfl) rfl _ _ rfl (vs := #[.slice (some ⟨bq, oq, none⟩) P cq, .slice (some ⟨bl, ol, none⟩) P c]) (by simp only [List.map_toArray, List.map_cons, List.map_nil, h1, h2]) ?_
                        refine (Same_any _ _ (L.take P) (L.take P) W (HTK.out.below h9W) (HLP.out.below h9W)).mono ?_
                        rintro e w' ⟨rfl, hb⟩
                        exact ⟨_, rfl, _, rfl, fun vs' h _ => (h (fun e => by cases e)).trans (by simp), trivial, hS.trans (hb.mono hS.size)⟩
                      | 13, _, rfl =>
                        have h1 : a.eval (.tmp 169) = .bool true := hdep 5 (by omega) (by kernel_rfl) (fun k _ h => by cases h)
                        have h2 : a.eval (.tmp 176) = .bool true := hdep 12 (by omega) (by kernel_rfl) (fun k _ h => by cases h)
                        refine gstep rfl ?_
                        exact ow_pick _ _ _ rfl true h1 (by rw [if_pos rfl]; exact h2) ⟨_, rfl, fun vs' h _ => h (fun e => by cases e), trivial, hS⟩
                      | 14, _, rfl =>
                        have h1 : a.eval (.tmp 177) = .bool true := hdep 13 (by omega) (by kernel_rfl) (fun k _ h => by cases h)
                        refine gstep rfl ?_
                        exact ow_move _ rfl h1 ⟨_, rfl, fun vs' h _ => h (fun e => by cases e), trivial, hS⟩
                      | 15, _, rfl =>
                        refine gstep (wanted_ok rfl rfl (hdep 14 (by omega) (by kernel_rfl) (fun k _ h => by cases h) : a.eval (.tmp 178) = .bool true)) ?_
                        exact ow_move _ rfl (hag 22 rfl) ⟨_, rfl, fun vs' h _ => h (fun e => by cases e), trivial, hS⟩
                      | 16, _, rfl =>
                        refine gstep (wanted_ok rfl rfl (hdep 14 (by omega) (by kernel_rfl) (fun k _ h => by cases h) : a.eval (.tmp 178) = .bool true)) ?_
                        exact ow_move _ rfl (hag 20 rfl) ⟨_, rfl, fun vs' h _ => h (fun e => by cases e), trivial, hS⟩
                      | 17, _, rfl =>
                        have h1 : a.eval (.tmp 179) = .slice (some ⟨bq, oq, none⟩) nq2 cq := hdep 15 (by omega) (by kernel_rfl) (fun k _ h => by cases h)
                        have h2 : a.eval (.tmp 180) = .int .i64 (P : Int) := hdep 16 (by omega) (by kernel_rfl) (fun k _ h => by cases h)
                        refine gstep (wanted_ok rfl rfl (hdep 14 (by omega) (by kernel_rfl) (fun k _ h => by cases h) : a.eval (.tmp 178) = .bool true)) ?_
                        exact ow_index _ _ 25 22 rfl bq oq nq2 cq P h1 h2 (by omega) Try.underlying22 (by kernel_rfl) ⟨_, rfl, fun vs' h _ => h (fun e => by cases e), trivial, hS⟩
                      | 18, _, rfl =>
                        have h1 : a.eval (.tmp 181) = .pointer (some ⟨bq, oq + P, none⟩) := hdep 17 (by omega) (by kernel_rfl) (fun k _ h => by cases h)
                        refine gstep (wanted_ok rfl rfl (hdep 14 (by omega) (by kernel_rfl) (fun k _ h => by cases h) : a.eval (.tmp 178) = .bool true)) ?_
                        exact ow_load_slice' _ 5 25 rfl bq (oq + P) h1 A5 pI.length c5 (cell_below h9W HC5.out) Try.underlying25 ⟨_, rfl, fun vs' h _ => h (fun e => by cases e), trivial, hS⟩
                      | 19, _, rfl =>
                        have h1 : a.eval (.tmp 182) = .slice A5 pI.length c5 := hdep 18 (by omega) (by kernel_rfl) (fun k _ h => by cases h)
                        refine gstep (wanted_ok rfl rfl (hdep 14 (by omega) (by kernel_rfl) (fun k _ h => by cases h) : a.eval (.tmp 178) = .bool true)) ?_
                        exact ow_str _ rfl h1 (HS5.out.below h9W) ⟨_, rfl, fun vs' h _ => h (fun e => by cases e), trivial, hS⟩
                      | 20, _, rfl =>
                        refine gstep (wanted_ok rfl rfl (hdep 14 (by omega) (by kernel_rfl) (fun k _ h => by cases h) : a.eval (.tmp 178) = .bool true)) ?_
                        exact ow_move _ rfl (hag 0 rfl) ⟨_, rfl, fun vs' h _ => h (fun e => by cases e), trivial, hS⟩
                      | 21, _, rfl =>
                        refine gstep (wanted_ok rfl rfl (hdep 14 (by omega) (by kernel_rfl) (fun k _ h => by cases h) : a.eval (.tmp 178) = .bool true)) ?_
                        exact ow_move _ rfl (hag 19 rfl) ⟨_, rfl, fun vs' h _ => h (fun e => by cases e), trivial, hS⟩
                      | 22, _, rfl =>
                        have h1 : a.eval (.tmp 184) = .slice (some ⟨bl, ol, none⟩) L.length c := hdep 20 (by omega) (by kernel_rfl) (fun k _ h => by cases h)
                        have h2 : a.eval (.tmp 185) = .int .i64 (I : Int) := hdep 21 (by omega) (by kernel_rfl) (fun k _ h => by cases h)
                        refine gstep (wanted_ok rfl rfl (hdep 14 (by omega) (by kernel_rfl) (fun k _ h => by cases h) : a.eval (.tmp 178) = .bool true)) ?_
                        exact ow_index _ _ 25 22 rfl bl ol L.length c I h1 h2 hIL Try.underlying22 (by kernel_rfl) ⟨_, rfl, fun vs' h _ => h (fun e => by cases e), trivial, hS⟩
                      | 23, _, rfl =>
                        have h1 : a.eval (.tmp 186) = .pointer (some ⟨bl, ol + I, none⟩) := hdep 22 (by omega) (by kernel_rfl) (fun k _ h => by cases h)
                        refine gstep (wanted_ok rfl rfl (hdep 14 (by omega) (by kernel_rfl) (fun k _ h => by cases h) : a.eval (.tmp 178) = .bool true)) ?_
                        exact ow_load_slice' _ 5 25 rfl bl (ol + I) h1 A6 pI.length c6 (cell_below h9W HC6.out) Try.underlying25 ⟨_, rfl, fun vs' h _ => h (fun e => by cases e), trivial, hS⟩
                      | 24, _, rfl =>
                        have h1 : a.eval (.tmp 187) = .slice A6 pI.length c6 := hdep 23 (by omega) (by kernel_rfl) (fun k _ h => by cases h)
                        refine gstep (wanted_ok rfl rfl (hdep 14 (by omega) (by kernel_rfl) (fun k _ h => by cases h) : a.eval (.tmp 178) = .bool true)) ?_
                        exact ow_str _ rfl h1 (HS6.out.below h9W) ⟨_, rfl, fun vs' h _ => h (fun e => by cases e), trivial, hS⟩
                      | 25, _, rfl =>
                        have h1 : a.eval (.tmp 183) = .string ⟨pI.toArray⟩ := hdep 19 (by omega) (by kernel_rfl) (fun k _ h => by cases h)
                        have h2 : a.eval (.tmp 188) = .string ⟨pI.toArray⟩ := hdep 24 (by omega) (by kernel_rfl) (fun k _ h => by cases h)
                        refine gstep (wanted_ok rfl rfl (hdep 14 (by omega) (by kernel_rfl) (fun k _ h => by cases h) : a.eval (.tmp 178) = .bool true)) ?_
                        exact ow_eql_str _ _ rfl _ h1 h2 ⟨_, rfl, fun vs' h _ => h (fun e => by cases e), trivial, hS⟩
                      | 26, _, rfl =>
                        have h1 : a.eval (.tmp 178) = .bool true := hdep 14 (by omega) (by kernel_rfl) (fun k _ h => by cases h)
                        have h2 : a.eval (.tmp 189) = .bool true := hdep 25 (by omega) (by kernel_rfl) (fun k _ h => by cases h)
                        refine gstep rfl ?_
                        exact ow_pick _ _ _ rfl true h1 (by rw [if_pos rfl]; exact h2) ⟨_, rfl, fun vs' h _ => h (fun e => by cases e), trivial, hS⟩
                      | 27, _, rfl =>
                        have h1 : a.eval (.tmp 190) = .bool true := hdep 26 (by omega) (by kernel_rfl) (fun k _ h => by cases h)
                        refine gstep rfl ?_
                        exact ow_move _ rfl h1 ⟨_, rfl, fun vs' h _ => h (fun e => by cases e), trivial, hS⟩
                      | n + 28, hi, _ => exact absurd hi (by omega)
                    case fin3 =>
                      intro vs W hS hF
                      have e27 : vs 27 = .bool true := hF 27 (by omega) (fun _ _ => rfl)
                      clear hF
                      change wpList Try.prog _ _ _ ((((((((((((((((((((((((((((Act.put _ (some 164) (vs 0)).put (some 165) (vs 1)).put (some 166) (vs 2)).put (some 167) (vs 3)).put (some 168) (vs 4)).put (some 169) (vs 5)).put (some 170) (vs 6)).put (some 171) (vs 7)).put (some 172) (vs 8)).put (some 173) (vs 9)).put (some 174) (vs 10)).put (some 175) (vs 11)).put (some 176) (vs 12)).put (some 177) (vs 13)).put (some 178) (vs 14)).put (some 179) (vs 15)).put (some 180) (vs 16)).put (some 181) (vs 17)).put (some 182) (vs 18)).put (some 183) (vs 19)).put (some 184) (vs 20)).put (some 185) (vs 21)).put (some 186) (vs 22)).put (some 187) (vs 23)).put (some 188) (vs 24)).put (some 189) (vs 25)).put (some 190) (vs 26)).put (some 191) (vs 27)) W
                      rw [e27]
                      clear e27
                      generalize vs 0 = y0
                      generalize vs 1 = y1
                      generalize vs 2 = y2
                      generalize vs 3 = y3
                      generalize vs 4 = y4
                      generalize vs 5 = y5
                      generalize vs 6 = y6
                      generalize vs 7 = y7
                      generalize vs 8 = y8
                      generalize vs 9 = y9
                      generalize vs 10 = y10
                      generalize vs 11 = y11
                      generalize vs 12 = y12
                      generalize vs 13 = y13
                      generalize vs 14 = y14
                      generalize vs 15 = y15
                      generalize vs 16 = y16
                      generalize vs 17 = y17
                      generalize vs 18 = y18
                      generalize vs 19 = y19
                      generalize vs 20 = y20
                      generalize vs 21 = y21
                      generalize vs 22 = y22
                      generalize vs 23 = y23
                      generalize vs 24 = y24
                      generalize vs 25 = y25
                      generalize vs 26 = y26
                      simp only [putAll, List.drop_succ_cons, List.drop_zero, Act.put, List.setIfInBounds_toArray, List.set_cons_zero, List.set_cons_succ]
                      clear vs
                      have HSS2 := Lib.hid hS
                      clear hS
                      go_wp2_with fail
                      refine (awake_any _).mono ?_
                      rintro e wy ⟨rfl, hby⟩
                      have hbw : Below w.heap.size w W := HW9.out.trans ((HDR.out.trans (HSS2.out.mono HDR.out.size)).mono HW9.out.size)
                      have HBY := Lib.hid (hbw.trans (hby.mono hbw.size))
                      clear hby hbw
                      go_wp2
                      go_ret
                      exact ⟨rfl, HBY.out⟩
                  · have hne : ((SP : Int) != (SI : Int)) = true := by rw [bne_iff_ne]; omega
                    have hrec : recs b2.length 0 b2 = L.take P := by
                      rw [HB2'.out, HSI.out]
                      exact recs_in_other L HSM.out I P hIL (by rw [← HSI.out, ← HSP.out]; exact hSS) r2
                    clear hSS
                    have hsm := (HOUT8.out.move (W := w9) (fun j cs t _ _ h => blk_below h HB9.out)).sbb (by rw [hrec]; simp; omega) (fun q hq => by rw [hrec] at hq; have := HSM.out q (List.mem_of_mem_take hq); omega)
                    rw [hrec] at hsm
                    obtain ⟨Aq, cq, rfl, hsm, -⟩ := hsm.shape
                    have hlt : (L.take P).length = P := by simp; omega
                    rw [hlt] at hsm ⊢
                    have HSMM := Lib.hid hsm
                    have hPc : P ≤ c := by have := HV.out.cap; omega
                    clear hrec hsm
                    go_quiet (fail)
                    obtain ⟨wq, hwq⟩ : ∃ wq, wq = w9.drewN nq := ⟨_, rfl⟩
                    rw [← hwq]
                    have hdr : Below w9.heap.size w9 wq := by rw [hwq]; exact below_drewN (Below.refl _ _) _
                    have HDR := Lib.hid hdr
                    clear hdr hwq t1 t2 hne
                    go_wp2_with fail
                    have hwq : Below w.heap.size w wq := HW8.out.trans ((HB9.out.trans (HDR.out.mono HB9.out.size)).mono HW8.out.size)
                    refine (Same_any _ _ (L.take P) (L.take P) wq (HSMM.out.below HDR.out) ((HV.out.below hwq).take P hPL)).mono ?_
                    rintro e wx ⟨rfl, hbx⟩
                    rw [show decide (L.take P = L.take P) = true from by simp]
                    have HBX := Lib.hid (hwq.trans (hbx.mono hwq.size))
                    clear hbx hwq
                    go_wp2_with fail
                    refine (awake_any _).mono ?_
                    rintro e wy ⟨rfl, hby⟩
                    have HBY := Lib.hid (HBX.out.trans (hby.mono HBX.out.size))
                    clear hby
                    go_wp2
                    go_ret
                    exact ⟨rfl, HBY.out⟩
end Go.Proofs.Ytlhdnloimgckgaa
