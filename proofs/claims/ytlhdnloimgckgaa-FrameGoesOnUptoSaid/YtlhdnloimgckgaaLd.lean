/-
  FrameGoesOn, walked.
-/
import Derived.Test.YtlhdnloimgckgaaLc
import Derived.Test.YtlhdnloimgckgaaWq
import Derived.Test.YtlhdnloimgckgaaReg2
import Derived.BigQuiet
namespace Go.Proofs.Ytlhdnloimgckgaa
open Go.RowKit Go.Shelf

/-- the payloads that are told: those of the row, and of the others those that are not too long -/
def accOf (L M : List (List UInt8)) (k : Nat) : List (List UInt8) := L ++ (M.take k).filter fun p => decide (p.length ≤ 16384)
theorem accOf_ok {L M : List (List UInt8)} {k : Nat} (h : k < M.length) (hp : (M[k]).length ≤ 16384) : accOf L M (k + 1) = accOf L M k ++ [M[k]] := by
  unfold accOf
  rw [take_snoc M k h, List.filter_append, List.append_assoc]
  simp [hp]
theorem accOf_long {L M : List (List UInt8)} {k : Nat} (h : k < M.length) (hp : 16384 < (M[k]).length) : accOf L M (k + 1) = accOf L M k := by
  unfold accOf
  rw [take_snoc M k h, List.filter_append]
  simp [hp]
theorem filter_flat_le (q : List UInt8 → Bool) (L : List (List UInt8)) : (L.filter q).flatten.length ≤ L.flatten.length := by
  induction L with
  | nil => simp
  | cons p ps ih =>
    rw [List.filter_cons]
    split <;> simp only [List.flatten_cons, List.length_append] <;> omega
theorem accOf_le (L M : List (List UInt8)) (k : Nat) : (accOf L M k).length ≤ L.length + M.length ∧ (accOf L M k).flatten.length ≤ L.flatten.length + M.flatten.length := by
  have h1 := filter_flat_le (fun p => decide (p.length ≤ 16384)) (M.take k)
  have h2 := flat_len_le M k
  have h3 := List.length_filter_le (fun p : List UInt8 => decide (p.length ≤ 16384)) (M.take k)
  have h4 : (M.take k).length ≤ M.length := by simp; omega
  unfold accOf
  rw [List.flatten_append, List.length_append, List.length_append]
  omega

/-- FrameGoesOn, between two rounds -/
structure GoAt (w : World) (T : Nat) (acc : List (List UInt8)) (b al : Value) (W : World) : Prop where
  tail : W.heap[T]? = some (.cells (tvs (tailOf acc)) 30 (0, 0))
  below : Below w.heap.size w W
  out : W.ownsRow w.heap.size 5 1 b (rowF 0 acc).length (bytesV (rowF 0 acc))
  all : AllIn w w.heap.size W al acc
  small : ∀ p ∈ acc, p.length ≤ 16384

set_option maxHeartbeats 2000000 in
set_option maxRecDepth 4000 in
theorem FrameGoesOn_any (v : Value) (L : List (List UInt8)) (v2 : Value) (M : List (List UInt8)) (y : Nat) (hy : y < 4294967296) (w : World) (hv : SBB w v L) (hv2 : SBB w v2 M) :
    Calls Try.prog 5 #[v, v2, .int .u32 (y : Int)] w fun e w' => e = .returned (.bool true) ∧ Below w.heap.size w w' := by
  obtain ⟨A, c, rfl, hv, -⟩ := hv.shape
  obtain ⟨A2, c2, rfl, hv2, -⟩ := hv2.shape
  have HV := Lib.hid hv
  have HV2 := Lib.hid hv2
  clear hv hv2
  by_cases hlong : 60000 < tot L
  · go_enter Try.func5, Try.ntmps5
    go_wp2_with fail
    refine (long_any _ L w HV.out).mono ?_
    rintro e w1 ⟨rfl, rfl⟩
    rw [show decide (60000 < tot L) = true from by simp [hlong]]
    clear hlong
    go_wp2_with fail
    refine (awake_any w).mono ?_
    rintro e w2 ⟨rfl, hb⟩
    have HB := Lib.hid hb
    clear hb
    go_wp2
    go_ret
    exact ⟨rfl, HB.out⟩
  · have htot := tot_eq L
    have HTOT : Hid (L.length + L.flatten.length ≤ 60000) := Lib.hid (by omega)
    have hd1 : decide (60000 < tot L) = false := by simp; omega
    clear htot hlong
    go_enter Try.func5, Try.ntmps5
    go_wp2_with fail
    refine (long_any _ L w HV.out).mono ?_
    rintro e w1 ⟨rfl, rfl⟩
    rw [hd1]
    clear hd1
    go_wp2_with fail
    refine (long_any _ M w HV2.out).mono ?_
    rintro e w1 ⟨rfl, rfl⟩
    by_cases hlong : 60000 < tot M
    · rw [show decide (60000 < tot M) = true from by simp [hlong]]
      clear hlong
      go_wp2_with fail
      refine (awake_any w).mono ?_
      rintro e w2 ⟨rfl, hb⟩
      have HB := Lib.hid hb
      clear hb
      go_wp2
      go_ret
      exact ⟨rfl, HB.out⟩
    · have htot := tot_eq M
      have HTOM : Hid (M.length + M.flatten.length ≤ 60000) := Lib.hid (by omega)
      rw [show decide (60000 < tot M) = false from by simp; omega]
      clear htot hlong
      go_wp2_with fail
      refine (Row_any _ L w HV.out (by have := HTOT.out; omega)).mono ?_
      rintro e w1 ⟨h, hb1⟩
      have HB1 := Lib.hid hb1
      clear hb1
      rcases h with ⟨hall, u, rfl, hown⟩ | ⟨_, rfl⟩
      · obtain ⟨⟨tc, ts, tx⟩, hT⟩ : ∃ t, tailOf L = t := ⟨_, rfl⟩
        rw [hT]
        have HO := Lib.hid hown
        have HALL := Lib.hid hall
        have HT := Lib.hid hT
        obtain ⟨i0, hi0, hz0, hz1, hz2⟩ := info_parts info25
        obtain ⟨vs, hvl, hvn, hvc, hve, hv1⟩ := HV.out.vals
        have hmade : ((w1.alloc (Obj.cells #[Value.int IntKind.i64 ↑tc, Value.int IntKind.i64 ↑ts, Value.int IntKind.u32 ↑tx] 30)).alloc (.cells #[] 25)).ownsRow w.heap.size 25 1 (.slice (some ⟨w1.heap.size + 1, 0, none⟩) 0 0) 0 [] := by
          have h := World.ownsRow_made (e := 25) (size := 1) (w1.alloc (Obj.cells #[Value.int IntKind.i64 ↑tc, Value.int IntKind.i64 ↑ts, Value.int IntKind.u32 ↑tx] 30)) #[] 0 (Nat.le_refl _) (by unfold maxLen; omega) (by simp)
          rw [World.size_alloc] at h
          exact h.base_le (by have := HB1.out.size; omega)
        have hb2 : Below w1.heap.size w1 ((w1.alloc (Obj.cells #[Value.int IntKind.i64 ↑tc, Value.int IntKind.i64 ↑ts, Value.int IntKind.u32 ↑tx] 30)).alloc (.cells #[] 25)) := ((Below.refl _ _).alloc (Nat.le_refl _) _).alloc (by simp) _
        have hn2 : ((w1.alloc (Obj.cells #[Value.int IntKind.i64 ↑tc, Value.int IntKind.i64 ↑ts, Value.int IntKind.u32 ↑tx] 30)).alloc (.cells #[] 25)).heap[w1.heap.size]? = some (.cells #[Value.int IntKind.i64 ↑tc, Value.int IntKind.i64 ↑ts, Value.int IntKind.u32 ↑tx] 30 (0, 0)) := blk_alloc (World.alloc_heap_new w1 _) _
        have hcs : ∀ ad, A = some ad → ∀ (j : Nat) u, vs[j]? = some u → ((w1.alloc (Obj.cells #[Value.int IntKind.i64 ↑tc, Value.int IntKind.i64 ↑ts, Value.int IntKind.u32 ↑tx] 30)).alloc (.cells #[] 25)).cell? (ad.add j) = some u := fun ad e j u h => cell_below hb2 (cell_below HB1.out (hvc ad e j u h))
        have HMADE := Lib.hid hmade
        have HB2 := Lib.hid hb2
        have HN2 := Lib.hid hn2
        have HCS := Lib.hid hcs
        have HVL := Lib.hid hvl
        have HVN := Lib.hid hvn
        have HVE := Lib.hid hve
        have HV1 := Lib.hid hv1
        have HI := Lib.hid hi0
        have HZ0 := Lib.hid hz0
        have HZ1 := Lib.hid hz1
        have HZ2 := Lib.hid hz2
        have hLs : L.length ≤ 60000 := by have := HTOT.out; omega
        simp only [tvs]
        clear hT hown hall hmade hb2 hn2 hcs hvl hvn hve hvc hv1 hi0 hz0 hz1 hz2
        go_wp2_with (first | (at_builtin; refine wpList_append_src _ rfl (.tmp 46) (.tmp 47) 22 rfl w.heap.size 25 i0 (.slice none 0 0) 24 Try.underlying22 HI.out HZ0.out HZ1.out HZ2.out rfl _ _ _ rfl HMADE.out A L.length c vs rfl HVL.out HVN.out HCS.out HV1.out (by unfold maxLen; omega) (by omega) (by have := HB2.out.size; have := HB1.out.size; omega) ?_; intro v3 w3 hown3 hg3 hat3))
        have hgoat : GoAt w w1.heap.size (accOf L M 0) u v3 w3 := by
          have hacc : accOf L M 0 = L := by simp [accOf]
          have hg3 : ((w1.alloc (Obj.cells #[Value.int IntKind.i64 ↑tc, Value.int IntKind.i64 ↑ts, Value.int IntKind.u32 ↑tx] 30)).alloc (.cells #[] 25)).grownBy w3 (some (w1.heap.size + 1)) := hg3
          rw [hacc]
          have hsz2 : ((w1.alloc (Obj.cells #[Value.int IntKind.i64 ↑tc, Value.int IntKind.i64 ↑ts, Value.int IntKind.u32 ↑tx] 30)).alloc (.cells #[] 25)).heap.size = w1.heap.size + 2 := by simp
          have hk : ∀ (j : Nat) (o : Obj), w1.heap[j]? = some o → w3.heap[j]? = some o := fun j o h => blk_grown (blk_below h HB2.out) hg3 (fun e => by injection e with e; have := blk_lt h; omega)
          refine ⟨?_, ?_, own_move HO.out (fun j cs _ h => hk j _ h), ?_, HALL.out⟩
          · rw [HT.out]
            exact blk_grown HN2.out hg3 (fun e => by injection e with e; omega)
          · exact (HB1.out.trans (HB2.out.mono HB1.out.size)).grown hg3 (by have := HB1.out.size; omega) (fun j e => by injection e with e; have := HB1.out.size; omega)
          · refine ⟨vs, HVL.out, ?_, HVE.out⟩
            have h := hown3
            rw [Nat.zero_add, List.nil_append] at h
            exact h
        have HGO := Lib.hid hgoat
        have hT1 : w.heap.size ≤ w1.heap.size := HB1.out.size
        clear hgoat hown3 hg3 hat3
        generalize w1.heap.size = T at *
        go_loopw [7, 10, 11] (fun b al i wr => ∃ k : Nat, k ≤ M.length ∧ i = .int .i64 (k : Int) ∧ GoAt w T (accOf L M k) b al wr) (fun _ _ i _ => M.length - (intOf i).toNat)
        case atStart => exact ⟨0, by omega, rfl, HGO.out⟩
        case round =>
          obtain ⟨k, hk, rfl, hr⟩ := hrel
          have HR := Lib.hid hr
          have hMl : M.length ≤ 60000 := by have := HTOM.out; omega
          by_cases hlt : k < M.length
          · obtain ⟨b, o, A3, c3, rfl, hcell, hsb, hl3⟩ := HV2.out.at_ k hlt
            have hcell2 := cell_below hr.below hcell
            have HS := Lib.hid (hsb.below hr.below)
            have HSW := Lib.hid hsb
            have hblt := cell_lt hcell
            have HBLT := Lib.hid hblt
            clear hblt
            have HOK : Hid (∀ h : (M[k]).length ≤ 16384, accOf L M (k + 1) = accOf L M k ++ [M[k]]) := Lib.hid (fun h => accOf_ok hlt h)
            have HLG : Hid (∀ h : 16384 < (M[k]).length, accOf L M (k + 1) = accOf L M k) := Lib.hid (fun h => accOf_long hlt h)
            have hacc := accOf_le L M k
            have hpl : (M[k]).length ≤ 60000 := by have := HTOM.out; have := len_le_flat (List.getElem_mem hlt); omega
            have HLE : Hid ((accOf L M k).length ≤ 120000 ∧ (accOf L M k).flatten.length ≤ 120000 ∧ k < M.length) := Lib.hid (by have := HTOT.out; have := HTOM.out; omega)
            obtain ⟨acc, hac⟩ : ∃ acc, acc = accOf L M k := ⟨_, rfl⟩
            obtain ⟨p, hp⟩ : ∃ p, p = M[k] := ⟨_, rfl⟩
            rw [← hac] at HLE HOK HLG HR
            rw [← hp] at HS HSW HOK HLG hcell2 hpl
            clear hcell hsb hl3 hr hacc hac hp
            obtain ⟨⟨tc, ts, tx⟩, hT⟩ : ∃ t, tailOf acc = t := ⟨_, rfl⟩
            have hT2 := tailOf_eq acc
            rw [hT] at hT2
            injection hT2 with h1 hT2
            injection hT2 with h2 h3
            have htc : tc ≤ 120000 := by have := HLE.out; omega
            have hts : ts ≤ 1200000 := by have := HLE.out; omega
            have htx : tx < 4294967296 := by rw [h3]; exact lastS_lt (by omega) _
            have htail := HR.out.tail
            rw [hT] at htail
            have HTL := Lib.hid htail
            have HT := Lib.hid hT
            have HLS := Lib.hid h3
            clear htail hT h1 h2 h3
            go_wp2_with fail
            refine region_f 13 (fun i vs W => match i with
                | 0 => vs 0 = .agg (tvs (tc, ts, tx))
                | 1 => vs 1 = .slice (some ⟨b, o, none⟩) M.length c2
                | 2 => vs 2 = .int .i64 (k : Int)
                | 3 => vs 3 = .pointer (some ⟨b, o + k, none⟩)
                | 4 => vs 4 = .slice A3 p.length c3
                | 5 => ∃ u t n, vs 5 = .tuple #[u, .agg t, .int .i64 n] ∧ PutRes wr.heap.size tc ts tx p W u t n
                | 6 => ∃ u t n, vs 6 = .tuple #[u, .agg t, .int .i64 n] ∧ PutRes wr.heap.size tc ts tx p W u t n
                | 7 => ∃ t n, PutRes wr.heap.size tc ts tx p W (vs 7) t n
                | 8 => vs 8 = .agg (tP tc ts tx p)
                | 9 => vs 9 = .int .i64 (nP p)
                | 10 => ∃ g, vs 10 = .pointer (some ⟨g, 0, none⟩) ∧ wr.heap.size ≤ g ∧ ∃ cs, cs.size = 3 ∧ W.heap[g]? = some (.cells cs 30 (0, 0))
                | 11 => ∃ t n, PutRes wr.heap.size tc ts tx p W (vs 11) t n
                | 12 => ∃ g, vs 10 = .pointer (some ⟨g, 0, none⟩) ∧ wr.heap.size ≤ g ∧ W.heap[g]? = some (.cells (tP tc ts tx p) 30 (0, 0))
                | _ => True) (fun k W W' => (k ≠ 12 → Below W.heap.size W W') ∧ G30 wr.heap.size W W') (fun W => Below wr.heap.size wr W) (by kernel_rfl) (by kernel_rfl) ?hst ?h0 ?step ?fin
            case hst =>
              intro i j vs W W' hji hnd h hG
              match i, h with
              | 0, h => exact h
              | 1, h => exact h
              | 2, h => exact h
              | 3, h => exact h
              | 4, h => exact h
              | 5, ⟨u, t, n, h1, h2⟩ => exact ⟨u, t, n, h1, h2.g30 hG.2⟩
              | 6, ⟨u, t, n, h1, h2⟩ => exact ⟨u, t, n, h1, h2.g30 hG.2⟩
              | 7, ⟨t, n, h2⟩ => exact ⟨t, n, h2.g30 hG.2⟩
              | 8, h => exact h
              | 9, h => exact h
              | 10, ⟨g, h1, h2, cs, h3, h4⟩ =>
                obtain ⟨cs', h5, h6⟩ := hG.2.2 g cs h2 h4
                exact ⟨g, h1, h2, cs', h5.trans h3, h6⟩
              | 11, ⟨t, n, h2⟩ => exact ⟨t, n, h2.g30 hG.2⟩
              | 12, ⟨g, h1, h2, h3⟩ => exact ⟨g, h1, h2, blk_below h3 (hG.1 hji)⟩
              | n + 13, _ => trivial
            case h0 => exact (Below.refl _ _).drew
            case step =>
              intro i op hi ho a W hS hag hdep
              have hbr : Below W.heap.size W W := Below.refl _ _
              have hG0 : ∀ k : Nat, (k ≠ 12 → Below W.heap.size W W) ∧ G30 wr.heap.size W W := fun _ => ⟨fun _ => hbr, G30.of_below hbr⟩
              match i, hi, ho with
              | 0, _, rfl => exact ow_load_row 30 _ rfl T (hag 8 rfl) 30 _ (0, 0) _ (blk_below HTL.out hS) Try.underlying30 rfl (by kernel_rfl) ⟨_, rfl, fun vs' h _ => h (fun e => by cases e), hG0 0, hS⟩
              | 1, _, rfl => exact ow_move _ rfl (hag 1 rfl) ⟨_, rfl, fun vs' h _ => h (fun e => by cases e), hG0 1, hS⟩
              | 2, _, rfl => exact ow_move _ rfl (hag 11 rfl) ⟨_, rfl, fun vs' h _ => h (fun e => by cases e), hG0 2, hS⟩
              | 3, _, rfl =>
                have h1 : a.eval (.tmp 57) = .slice (some ⟨b, o, none⟩) M.length c2 := hdep 1 (by omega) (by kernel_rfl)
                have h2 : a.eval (.tmp 58) = .int .i64 (k : Int) := hdep 2 (by omega) (by kernel_rfl)
                exact ow_index _ _ 25 22 rfl b o M.length c2 k h1 h2 HLE.out.2.2 Try.underlying22 (by kernel_rfl) ⟨_, rfl, fun vs' h _ => h (fun e => by cases e), hG0 3, hS⟩
              | 4, _, rfl =>
                have h1 : a.eval (.tmp 59) = .pointer (some ⟨b, o + k, none⟩) := hdep 3 (by omega) (by kernel_rfl)
                exact ow_load_slice' _ 5 25 rfl b (o + k) h1 A3 p.length c3 (cell_below hS hcell2) Try.underlying25 ⟨_, rfl, fun vs' h _ => h (fun e => by cases e), hG0 4, hS⟩
              | 5, _, rfl =>
                have h1 : a.eval (.tmp 56) = .agg (tvs (tc, ts, tx)) := hdep 0 (by omega) (by kernel_rfl)
                have h2 : a.eval (.tmp 60) = .slice A3 p.length c3 := hdep 4 (by omega) (by kernel_rfl)
                refine ow_call Try.func18 (by kernel_rfl) rfl _ _ rfl (vs := #[.agg (tvs (tc, ts, tx)), .slice A3 p.length c3]) (by simp only [List.map_toArray, List.map_cons, List.map_nil, h1, h2]) ?_
                refine (Put_any tc ts tx htx (by omega) (by omega) _ p W (HS.out.below hS)).mono ?_
                rintro e w' ⟨⟨u, t, n, rfl, hres⟩, hb⟩
                exact ⟨_, rfl, _, rfl, fun vs' h _ => ⟨u, t, n, h (fun e => by cases e), hres.base_le hS.size⟩, ⟨fun _ => hb, G30.of_below hb⟩, hS.trans (hb.mono hS.size)⟩
              | 6, _, rfl =>
                obtain ⟨u, t, n, h1, h2⟩ : ∃ u t n, a.eval (.tmp 61) = .tuple #[u, .agg t, .int .i64 n] ∧ PutRes wr.heap.size tc ts tx p W u t n := hdep 5 (by omega) (by kernel_rfl)
                exact ow_move _ rfl h1 ⟨_, rfl, fun vs' h _ => ⟨u, t, n, h (fun e => by cases e), h2⟩, hG0 6, hS⟩
              | 7, _, rfl =>
                obtain ⟨u, t, n, h1, h2⟩ : ∃ u t n, a.eval (.tmp 55) = .tuple #[u, .agg t, .int .i64 n] ∧ PutRes wr.heap.size tc ts tx p W u t n := hdep 6 (by omega) (by kernel_rfl)
                exact ow_extract _ 0 rfl h1 rfl ⟨_, rfl, fun vs' h _ => ⟨t, n, by rw [h (fun e => by cases e)]; exact h2⟩, hG0 7, hS⟩
              | 8, _, rfl =>
                obtain ⟨u, t, n, h1, h2⟩ : ∃ u t n, a.eval (.tmp 55) = .tuple #[u, .agg t, .int .i64 n] ∧ PutRes wr.heap.size tc ts tx p W u t n := hdep 6 (by omega) (by kernel_rfl)
                exact ow_extract _ 1 rfl h1 rfl ⟨_, rfl, fun vs' h _ => (h (fun e => by cases e)).trans (by rw [h2.eq.1]; rfl), hG0 8, hS⟩
              | 9, _, rfl =>
                obtain ⟨u, t, n, h1, h2⟩ : ∃ u t n, a.eval (.tmp 55) = .tuple #[u, .agg t, .int .i64 n] ∧ PutRes wr.heap.size tc ts tx p W u t n := hdep 6 (by omega) (by kernel_rfl)
                exact ow_extract _ 2 rfl h1 rfl ⟨_, rfl, fun vs' h _ => (h (fun e => by cases e)).trans (by rw [h2.eq.2]; rfl), hG0 9, hS⟩
              | 10, _, rfl =>
                refine ow_alloc_row 30 rfl _ (zeroTail W) (fun w' hn hb => ⟨_, rfl, fun vs' h _ => ⟨_, h (fun e => by cases e), hS.size, _, rfl, hn⟩, ⟨fun _ => hb, G30.of_below hb⟩, hS.trans (hb.mono hS.size)⟩)
              | 11, _, rfl =>
                obtain ⟨t, n, h2⟩ : ∃ t n, PutRes wr.heap.size tc ts tx p W (a.eval (.tmp 62)) t n := hdep 7 (by omega) (by kernel_rfl)
                exact ow_assign _ rfl rfl ⟨_, rfl, fun vs' h _ => ⟨t, n, by rw [h (fun e => by cases e)]; exact h2⟩, hG0 11, hS⟩
              | 12, _, rfl =>
                have h1 : a.eval (.tmp 63) = .agg (tP tc ts tx p) := hdep 8 (by omega) (by kernel_rfl)
                obtain ⟨g, h2, h3, cs, h4, h5⟩ := hdep 10 (by omega) (by kernel_rfl)
                have h2 : a.eval (.tmp 13) = .pointer (some ⟨g, 0, none⟩) := h2
                refine wp_store_row 30 _ _ rfl g h2 30 cs _ h1 h5 (by rw [tP_size, h4]) (by rw [tP_size]; kernel_rfl) (tP_one _ _ _ _) ?_
                intro w' hT' hS' hG'
                refine ⟨_, rfl, fun vs' _ hv => ⟨g, (hv 10 (by kernel_rfl)).trans h2, h3, hT'⟩, ⟨fun h => absurd rfl h, G30.of_grown hG' h3 h5 hT' (by rw [tP_size, h4])⟩, hS.grown hG' hS.size (fun j e => by injection e with e; omega)⟩
            case fin =>
              intro vs W hS hF
              have e0 : vs 0 = _ := hF 0 (by omega)
              have e1 : vs 1 = _ := hF 1 (by omega)
              have e2 : vs 2 = _ := hF 2 (by omega)
              have e3 : vs 3 = _ := hF 3 (by omega)
              have e4 : vs 4 = _ := hF 4 (by omega)
              have e8 : vs 8 = _ := hF 8 (by omega)
              have e9 : vs 9 = _ := hF 9 (by omega)
              obtain ⟨g, e10, hg, hcell⟩ := hF 12 (by omega)
              obtain ⟨t11, n11, hres⟩ := hF 11 (by omega)
              clear hF
              change wpList Try.prog _ _ _ (((((((((((((Act.put _ (some 56) (vs 0)).put (some 57) (vs 1)).put (some 58) (vs 2)).put (some 59) (vs 3)).put (some 60) (vs 4)).put (some 61) (vs 5)).put (some 55) (vs 6)).put (some 62) (vs 7)).put (some 63) (vs 8)).put (some 64) (vs 9)).put (some 13) (vs 10)).put (some 12) (vs 11)).put none (vs 12)) W
              rw [e0, e1, e2, e3, e4, e8, e9, e10]
              clear e0 e1 e2 e3 e4 e8 e9 e10
              generalize vs 5 = x5
              generalize vs 6 = x6
              generalize vs 7 = x7
              generalize vs 11 = cu at hres ⊢
              generalize vs 12 = x12
              simp only [putAll, List.drop_succ_cons, List.drop_zero]
              clear vs
              have HSS := Lib.hid hS
              have HC := Lib.hid hcell
              have HRES := Lib.hid hres
              have HG := Lib.hid hg
              clear hS hcell hres hg
              by_cases hpp : p.length ≤ 16384
              · have hn : nP p = 0 := if_pos hpp
                have ht : tP tc ts tx p = tvs (tc + 1, ts + (8 + p.length), rsum tx p) := if_pos hpp
                rw [hn, ht]
                have HCC : Hid (W.heap[g]? = some (.cells (tvs (tc + 1, ts + (8 + p.length), rsum tx p)) 30 (0, 0))) := Lib.hid (ht ▸ HC.out)
                have HOW : Hid (W.ownsRow wr.heap.size 5 1 cu (rec_ tx p).length (bytesV (rec_ tx p))) := Lib.hid (by rcases HRES.out with ⟨_, _, _, h⟩ | ⟨h, _⟩; exact h; omega)
                have hcellW := cell_below HSS.out hcell2
                clear hn ht HRES HC
                go_wp2_with fail
                refine (Put_ok 0 0 y hy (by omega) (by omega) _ p W (HS.out.below HSS.out) hpp).mono ?_
                rintro e w2 ⟨od, rfl, hod, hb2⟩
                have HOD := Lib.hid hod
                have HB2 := Lib.hid hb2
                clear hod hb2
                go_wp2_with fail
                obtain ⟨W3, hW3⟩ : ∃ W3, W3 = w2.alloc (Obj.cells #[Value.int IntKind.i64 1, Value.int IntKind.i64 (8 + ↑p.length), Value.int IntKind.u32 ↑(rsum y p)] 30) := ⟨_, rfl⟩
                rw [← hW3]
                have hb3 : Below w2.heap.size w2 W3 := by rw [hW3]; exact below_alloc1 _ _
                clear hW3
                have hbW3 : Below W.heap.size W W3 := HB2.out.trans (hb3.mono HB2.out.size)
                have hTW := blk_below (blk_below HTL.out HSS.out) hbW3
                have hGW := blk_below HCC.out hbW3
                have hrl : ∀ x : Nat, (rec_ x p).length ≤ 100000 := fun x => by rw [rec_length]; omega
                have hOD := own_move HOD.out (fun _ _ _ h => blk_below h hb3)
                have hOW := own_move HOW.out (fun _ _ _ h => blk_below h hbW3)
                obtain ⟨Ao, co, rfl, hso, -⟩ := (SB_of_own hOD (by have := hrl y; omega)).shape
                obtain ⟨Ac, cc, rfl, hsc, -⟩ := (SB_of_own hOW (by have := hrl tx; omega)).shape
                have c0 : W3.cell? ⟨T, 0, none⟩ = some (.int .i64 (tc : Int)) := cell_of_row W3 _ _ _ _ _ hTW
                have c1 : W3.cell? ⟨T, 1, none⟩ = some (.int .i64 (ts : Int)) := cell_of_row W3 _ _ _ _ _ hTW
                have c2' : W3.cell? ⟨T, 2, none⟩ = some (.int .u32 (tx : Int)) := cell_of_row W3 _ _ _ _ _ hTW
                have g0 : W3.cell? ⟨g, 0, none⟩ = some (.int .i64 ((tc : Int) + 1)) := cell_of_row W3 _ _ _ _ _ hGW
                have g1 : W3.cell? ⟨g, 1, none⟩ = some (.int .i64 ((ts : Int) + (8 + (p.length : Int)))) := cell_of_row W3 _ _ _ _ _ hGW
                have hc3 := cell_below hbW3 hcellW
                have HB3 := Lib.hid hbW3
                have HOC := Lib.hid hOW
                have HIFF := Lib.hid (rec_inj hy htx p)
                have HRL := Lib.hid (hrl tx)
                clear hb3 hbW3 hTW hGW hOD hOW hcellW hcell2 hrl
                have hkm := HLE.out.2.2
                obtain ⟨O, hO⟩ : ∃ O, O = rec_ y p := ⟨_, rfl⟩
                obtain ⟨C, hC⟩ : ∃ C, C = rec_ tx p := ⟨_, rfl⟩
                rw [← hO] at hso ⊢
                rw [← hC] at hsc HOC HRL ⊢
                rw [← hO, ← hC] at HIFF
                have HCR := Lib.hid hC
                clear HOD HOW hO hC
                have k3 := fun n => conv_str (W3.drewN n) _ O (hso.drewN n)
                have k4 := fun n => conv_str (W3.drewN n) _ C (hsc.drewN n)
                have HSC := Lib.hid hsc
                clear hso hsc
                obtain ⟨B, hB⟩ : ∃ B, B = decide (y = tx) := ⟨_, rfl⟩
                have hne : ((y : Int) == (tx : Int)) = B := by rw [hB, Bool.eq_iff_iff, beq_iff_eq, decide_eq_true_iff]; omega
                have hoc : (O == C) = B := by rw [hB, Bool.eq_iff_iff, beq_iff_eq, decide_eq_true_iff]; exact HIFF.out
                clear hB HIFF
                go_quiet ((go_at_call 19; refine Calls.quiet_of_same ((Size_any A3 p.length c3 (by omega) _).mono (fun _ _ h => ⟨h.1, h.2.symm⟩))))
                have hdr : Below W3.heap.size W3 (W3.drewN nq) := below_drewN (Below.refl _ _) _
                obtain ⟨W4, hW4⟩ : ∃ W4, W4 = W3.drewN nq := ⟨_, rfl⟩
                rw [← hW4] at hdr ⊢
                clear hW4 k3 k4 hne hoc
                have hc4 := cell_below hdr hc3
                have hbW4 : Below W.heap.size W W4 := HB3.out.trans (hdr.mono HB3.out.size)
                have hbr4 : Below wr.heap.size wr W4 := HSS.out.trans (hbW4.mono HSS.out.size)
                have HCW : Hid (SB W4 (.slice Ac C.length cc) C) := Lib.hid (HSC.out.below hdr)
                have hOut4 := own_move HR.out.out (fun _ _ _ h => blk_below h hbr4)
                have hAll4 := HR.out.all.below hbr4
                have hTW := blk_below HTL.out hbr4
                have hGW := blk_below HCC.out hbW4
                have HOUT4 := Lib.hid hOut4
                have HALL4 := Lib.hid hAll4
                have HTW := Lib.hid hTW
                have HGW := Lib.hid hGW
                have HBR4 := Lib.hid hbr4
                clear hdr hbW4 hbr4 hOut4 hAll4 hTW hGW c0 c1 c2' g0 g1 hc3 HB3 HSC
                obtain ⟨i0, hi0, hz0, hz1, hz2⟩ := info_parts info5
                have HI := Lib.hid hi0
                have HZ0 := Lib.hid hz0
                have HZ1 := Lib.hid hz1
                have HZ2 := Lib.hid hz2
                obtain ⟨i1, hj0, hy0, hy1, hy2⟩ := info_parts info25
                have HJ := Lib.hid hj0
                have HY0 := Lib.hid hy0
                have HY1 := Lib.hid hy1
                have HY2 := Lib.hid hy2
                clear hi0 hz0 hz1 hz2 hj0 hy0 hy1 hy2
                have HRF : Hid ((rowF 0 acc).length ≤ 1080000) := Lib.hid (by rw [rowF_length]; have := HLE.out; omega)
                obtain ⟨vs, hvl, hvo, hve⟩ := HALL4.out
                have HVL := Lib.hid hvl
                have HVO := Lib.hid hvo
                have HVE := Lib.hid hve
                clear hvl hvo hve
                go_wp2_with (first
                  | (at_builtin; refine wpList_append_src _ rfl (.tmp 124) (.tmp 125) 25 rfl w.heap.size 5 i0 (.int .u8 0) 1 Try.underlying25 HI.out HZ0.out HZ1.out HZ2.out rfl _ _ _ rfl HOUT4.out Ac C.length cc (bytesV C) rfl (bytesV_length _) HCW.out.isNil HCW.out.cells (bytesV_one _) (by have := HRF.out; have := HRL.out; unfold maxLen; omega) (by have := HRF.out; have := HRL.out; omega) (by have := HR.out.below.size; have := HBR4.out.size; omega) ?_; intro v5 w5 hown5 hg5 hat5; have hc5 := cell_grown_lo HOUT4.out hg5 hc4 HBLT.out)
                  | (refine wpList_build1 rfl (.tmp 131) rfl rfl rfl ?_; intro w6 hb6 hbel6)
                  | (at_builtin; refine wpList_append_src _ rfl (.tmp 127) (.tmp 132) 22 rfl w.heap.size 25 i1 (.slice none 0 0) 24 Try.underlying22 HJ.out HY0.out HY1.out HY2.out rfl _ acc.length vs rfl (own_move HVO.out (fun j cs _ h => blk_below (blk_grown_ty HOUT4.out hg5 h (by decide)) hbel6)) (some ⟨w5.heap.size, 0, none⟩) 1 1 [.slice A3 p.length c3] rfl rfl (by simp) (cells_one hb6) (fun x hx => by rw [List.mem_singleton.1 hx]; rfl) (by have := HLE.out; unfold maxLen; omega) (by have := HLE.out; omega) (by have h1 := hg5.size; have h2 := hbel6.size; have h3 := HR.out.below.size; have h4 := HBR4.out.size; omega) ?_; intro v7 w7 hown7 hg7 hat7)
                  | (refine wpList_load_row rfl 30 _ rfl g rfl 30 _ (0, 0) _ (blk_grown_ty (own_move HVO.out (fun j cs _ h => blk_below (blk_grown_ty HOUT4.out hg5 h (by decide)) hbel6)) hg7 (blk_below (blk_grown_ty HOUT4.out hg5 HGW.out (by decide)) hbel6) (by decide)) Try.underlying30 rfl (by kernel_rfl) ?_)
                  | (refine wpList_store_row rfl 30 _ _ rfl T rfl 30 _ _ rfl (blk_grown_ty (own_move HVO.out (fun j cs _ h => blk_below (blk_grown_ty HOUT4.out hg5 h (by decide)) hbel6)) hg7 (blk_below (blk_grown_ty HOUT4.out hg5 HTW.out (by decide)) hbel6) (by decide)) rfl (by kernel_rfl) (by simp [tvs, Value.oneCell']) ?_; intro w8 hT8 hS8 hG8))
                go_roundw
                case rel =>
                  refine ⟨k + 1, by have := HLE.out.2.2; omega, by go_num, ?_⟩
                  have ho6 := own_move HVO.out (fun j cs _ h => blk_below (blk_grown_ty HOUT4.out hg5 h (by decide)) hbel6)
                  have hT7 := blk_grown_ty ho6 hg7 (blk_below (blk_grown_ty HOUT4.out hg5 HTW.out (by decide)) hbel6) (by decide)
                  have hbw4 : Below w.heap.size w W4 := HR.out.below.trans (HBR4.out.mono HR.out.below.size)
                  have hbw5 := below_grown_own hbw4 HOUT4.out (Nat.le_refl _) hg5
                  have hbw6 := hbw5.trans (hbel6.mono hbw5.size)
                  have hbw7 := below_grown_own hbw6 ho6 (Nat.le_refl _) hg7
                  have hacc : accOf L M (k + 1) = acc ++ [p] := HOK.out hpp
                  rw [hacc]
                  have hCr : C = rec_ tx p := HCR.out
                  have hrow : rowF 0 (acc ++ [p]) = rowF 0 acc ++ C := by rw [rowF_snoc, hCr, HLS.out]
                  refine ⟨?_, hbw7.grown hG8 hbw7.size (fun j e => by injection e with e; have := hT1; omega), ?_, ?_, ?_⟩
                  · rw [tailOf_snoc, HT.out]; exact hT8
                  · rw [hrow, List.length_append, bytesV_append]
                    exact own_move hown5 (fun j cs _ h => blk_grown_tail hT7 hG8 (blk_grown_ty ho6 hg7 (blk_below h hbel6) (by decide)) (by decide))
                  · refine ⟨vs ++ [.slice A3 p.length c3], by rw [List.length_append, List.length_append, HVL.out]; rfl, ?_, ?_⟩
                    · rw [List.length_append]
                      exact own_move hown7 (fun j cs _ h => blk_grown_tail hT7 hG8 h (by decide))
                    · intro i u q hi hq
                      rcases Nat.lt_or_ge i acc.length with h | h
                      · rw [List.getElem?_append_left (by rw [HVL.out]; exact h)] at hi
                        rw [List.getElem?_append_left h] at hq
                        exact HVE.out i u q hi hq
                      · rw [List.getElem?_append_right (by rw [HVL.out]; exact h)] at hi
                        rw [List.getElem?_append_right h] at hq
                        rw [HVL.out] at hi
                        obtain ⟨hlt1, rfl⟩ := List.getElem?_eq_some_iff.1 hi
                        obtain ⟨hlt2, rfl⟩ := List.getElem?_eq_some_iff.1 hq
                        simpa using HSW.out
                  · intro q hq
                    rcases List.mem_append.1 hq with h | h
                    · exact HR.out.small q h
                    · rw [List.mem_singleton.1 h]; exact hpp
                case measure => simp [intOf]; have := HLE.out.2.2; omega
              · have hn : nP p = 6 := if_neg hpp
                have ht : tP tc ts tx p = zeroT := if_neg hpp
                rw [hn, ht]
                obtain rfl : cu = .slice none 0 0 := by rcases HRES.out with ⟨h, _⟩ | ⟨_, _, _, h⟩; exact absurd h hpp; exact h
                have hcellW := cell_below HSS.out hcell2
                have hlt16 : ¬ ((p.length : Int) ≤ 16384) := by omega
                clear hn ht HRES HC
                go_wp2_with fail
                go_roundw
                case rel =>
                  refine ⟨k + 1, by have := HLE.out.2.2; omega, by go_num, ?_⟩
                  rw [HLG.out (by omega)]
                  exact ⟨blk_below HR.out.tail HSS.out, HR.out.below.trans (HSS.out.mono HR.out.below.size), own_move HR.out.out (fun _ _ _ h => blk_below h HSS.out), HR.out.all.below HSS.out, HR.out.small⟩
                case measure => simp [intOf]; have := HLE.out.2.2; omega
          · have hacc := accOf_le L M k
            have HLE : Hid ((accOf L M k).length ≤ 120000 ∧ (accOf L M k).flatten.length ≤ 120000) := Lib.hid (by have := HTOT.out; have := HTOM.out; omega)
            generalize accOf L M k = acc at *
            have HLR : Hid ((rowF 0 acc).length ≤ 1080000) := Lib.hid (by rw [rowF_length]; have := HLE.out; omega)
            obtain ⟨R, hRdef⟩ : ∃ R, R = rowF 0 acc := ⟨_, rfl⟩
            have hout := hr.out
            rw [← hRdef] at hout HLR
            obtain ⟨Ab, cb, rfl, hsb, -⟩ := (SB_of_own hout (by have := HLR.out; omega)).shape
            have HSB := Lib.hid hsb
            have HRD := Lib.hid hRdef
            clear hacc hr hout hsb hRdef
            go_wp2_with fail
            refine (All_any _ R wr HSB.out (by have := HLR.out; omega)).mono ?_
            rintro e w2 ⟨l, rfl, hout, hb2⟩
            have hrec : recs R.length 0 R = acc := by rw [HRD.out]; exact recs_row acc HR.out.small
            rw [hrec] at hout ⊢
            obtain ⟨⟨tc, ts, tx⟩, hT⟩ : ∃ t, tailOf acc = t := ⟨_, rfl⟩
            have hT2 := tailOf_eq acc
            rw [hT] at hT2
            injection hT2 with h1 hT2
            injection hT2 with h2 h3
            have hsz : (R.length : Int) = (ts : Int) := by rw [HRD.out, rowF_length]; omega
            have htail := HR.out.tail
            rw [hT] at htail ⊢
            have hls : SBB w2 l acc := hout.sbb (by have := HLE.out; omega) (fun q hq => by have := len_le_flat hq; have := HLE.out; omega)
            have hal : SBB wr u10 acc := HR.out.all.sbb HR.out.below (by have := HLE.out; omega)
            obtain ⟨Al, cl, rfl, hls, -⟩ := hls.shape
            obtain ⟨Aa, ca, rfl, hal, -⟩ := hal.shape
            have htl2 := blk_below htail hb2
            have HLS := Lib.hid hls
            have HAL := Lib.hid (hal.below hb2)
            have HB2 := Lib.hid hb2
            have HTL2 := Lib.hid htl2
            have HSZ := Lib.hid hsz
            simp only [tv, tailV]
            clear hout hb2 hrec hT h1 h2 h3 htail hls hal htl2 hsz
            go_wp2_with fail
            obtain ⟨W3, hW3⟩ : ∃ W3, W3 = w2.alloc (Obj.cells #[Value.int IntKind.i64 ↑tc, Value.int IntKind.i64 ↑ts, Value.int IntKind.u32 ↑tx] 30) := ⟨_, rfl⟩
            rw [← hW3]
            have hb3 : Below w2.heap.size w2 W3 := by rw [hW3]; exact below_alloc1 _ _
            have hn3 : W3.heap[w2.heap.size]? = some (.cells #[Value.int IntKind.i64 ↑tc, Value.int IntKind.i64 ↑ts, Value.int IntKind.u32 ↑tx] 30 (0, 0)) := by rw [hW3]; exact World.alloc_heap_new _ _
            clear hW3
            refine (Same_any _ _ acc acc W3 (HLS.out.below hb3) (HAL.out.below hb3)).mono ?_
            rintro e w4 ⟨rfl, hb4⟩
            rw [show decide (acc = acc) = true from by simp]
            have hb24 := hb3.trans (hb4.mono hb3.size)
            have hn4 := blk_below hn3 hb4
            have ht4 := blk_below HTL2.out hb24
            have c0 : w4.cell? ⟨T, 0, none⟩ = some (.int .i64 (tc : Int)) := cell_of_row w4 _ _ _ _ _ ht4
            have c1 : w4.cell? ⟨T, 1, none⟩ = some (.int .i64 (ts : Int)) := cell_of_row w4 _ _ _ _ _ ht4
            have c2' : w4.cell? ⟨T, 2, none⟩ = some (.int .u32 (tx : Int)) := cell_of_row w4 _ _ _ _ _ ht4
            have n0 : w4.cell? ⟨w2.heap.size, 0, none⟩ = some (.int .i64 (tc : Int)) := cell_of_row w4 _ _ _ _ _ hn4
            have n1 : w4.cell? ⟨w2.heap.size, 1, none⟩ = some (.int .i64 (ts : Int)) := cell_of_row w4 _ _ _ _ _ hn4
            have n2 : w4.cell? ⟨w2.heap.size, 2, none⟩ = some (.int .u32 (tx : Int)) := cell_of_row w4 _ _ _ _ _ hn4
            have HB4 : Hid (Below w.heap.size w w4) := Lib.hid ((HR.out.below.trans (HB2.out.mono HR.out.below.size)).trans (hb24.mono (by have h1 := HR.out.below.size; have h2 := HB2.out.size; omega)))
            have hsz : ((R.length : Int) == (ts : Int)) = true := by rw [beq_iff_eq]; exact HSZ.out
            clear hb3 hn3 hb4 hb24 hn4 ht4
            go_wp2_with fail
            refine (awake_any _).mono ?_
            rintro e w5 ⟨rfl, hb5⟩
            have HB5 := Lib.hid (HB4.out.trans (hb5.mono HB4.out.size))
            clear hb5
            go_wp2
            go_ret
            exact ⟨rfl, HB5.out⟩
      · go_wp2_with fail
        refine (awake_any _).mono ?_
        rintro e w2 ⟨rfl, hb2⟩
        have HB2 : Hid (Below w.heap.size w w2) := Lib.hid (HB1.out.trans (((below_alloc1 w1 _).trans (hb2.mono (by simp))).mono HB1.out.size))
        clear hb2
        go_wp2
        go_ret
        exact ⟨rfl, HB2.out⟩
end Go.Proofs.Ytlhdnloimgckgaa
