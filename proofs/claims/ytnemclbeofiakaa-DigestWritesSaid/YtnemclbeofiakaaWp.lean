/-
  digest.Of.
-/
import Derived.Test.YtnemclbeofiakaaWo
namespace Go.Proofs.Ytnemclbeofiakaa
open Go.RowKit Bl

/-- what is written in two parts -/
theorem writeL_append : ∀ (m : Nat) (h : List Nat) (n : Nat) (r b : List UInt8), r.length ≤ m →
    writeL ((writeL r.length h n r).2.2 ++ b).length (writeL r.length h n r).1 (writeL r.length h n r).2.1 ((writeL r.length h n r).2.2 ++ b) = writeL (r ++ b).length h n (r ++ b) := by
  intro m
  induction m with
  | zero =>
    intro h n r b hr
    rw [writeL_stop _ _ _ r (by omega)]
  | succ m ih =>
    intro h n r b hr
    by_cases h64 : r.length ≤ 64
    · rw [writeL_stop _ _ _ r h64]
    · rw [writeL_step h n r (by omega), writeL_step h n (r ++ b) (by simp; omega)]
      have e1 : (r ++ b).take 64 = r.take 64 := List.take_append_of_le_length (by omega)
      have e2 : (r ++ b).drop 64 = r.drop 64 ++ b := List.drop_append_of_le_length (by omega)
      rw [e1, e2]
      exact ih _ _ _ _ (by simp; omega)
theorem wds_begin {s : Nat} (hs : s ≤ 32) : Wds 8 (beginF s) := by
  refine ⟨rfl, fun x hx => ?_⟩
  unfold beginF at hx
  rcases List.mem_cons.1 hx with rfl | hx
  · exact xor_lt (by decide) (xor_lt (by decide) (by unfold M; omega))
  · exact wds_iv.2 x (List.mem_of_mem_drop hx)
/-- the sum of bytes -/
def ofF (s : Nat) (bs : List UInt8) : List UInt8 := outF (lastF (writeL bs.length (beginF s) 0 bs).1 (writeL bs.length (beginF s) 0 bs).2.1 (writeL bs.length (beginF s) 0 bs).2.2) s

theorem results_tt {P : Program} {fn : Func} {p q : Tmp} (h : fn.results = #[.tmp p, .tmp q]) (tmps : Array Value) (w : World) : (results fn tmps).run P w = .ok (.tuple #[tmps.getD p undef, tmps.getD q undef]) w := by
  simp [results, h]
theorem Of_no (s : Int) (hs : ¬ (1 ≤ s ∧ s ≤ 32)) (v : Value) (w : World) :
    Calls Try.prog 17 #[.int .i64 s, v] w fun e w' => e = .returned (.tuple #[nilS, .int .i64 1]) ∧ Below w.heap.size w w' := by
  go_enter Try.func17, Try.ntmps17
  go_wp2_with fail
  refine (Begin_no s hs w).mono ?_
  rintro e w1 ⟨rfl, hb1⟩
  have HB := Lib.hid hb1
  clear hb1
  go_wp2_with (first
    | (refine wpList_alloc_row rfl 33 rfl _ (zero33 _) ?_; intro w2 hT hS hG; have HT := Lib.hid hT; have HG := Lib.hid (below_of_grown hG); clear hT hG hS)
    | (refine wpList_store_row rfl 33 _ _ rfl w1.heap.size rfl 33 _ _ rfl HT.out rfl (by kernel_rfl) (dgV_one _ _ rfl) ?_; intro w3 hT3 hS3 hG3; have HG3 := Lib.hid hG3; clear hT3 hS3 hG3))
  refine bodyPost_ret (v := .tuple #[nilS, .int .i64 1]) (results_tt (P := Try.prog) (p := 4) (q := 5) rfl _ _) rfl ?_
  exact ⟨rfl, (HB.out.trans (HG.out.mono HB.out.size)).grown HG3.out (by have := HB.out.size; have := HG.out.size; omega) (fun k e => by injection e with e; have := HB.out.size; omega)⟩

/-- Of, in its loop -/
structure OfAt (N g : Nat) (w : World) (s : Nat) (F : List UInt8) (W : World) : Prop where
  dg : ∃ A c, W.heap[g]? = some (.cells (dgV (writeL F.length (beginF s) 0 F).1 (.slice A (writeL F.length (beginF s) 0 F).2.2.length c) (writeL F.length (beginF s) 0 F).2.1 (s : Int)) 33 (0, 0)) ∧ SB W (.slice A (writeL F.length (beginF s) 0 F).2.2.length c) (writeL F.length (beginF s) 0 F).2.2
  below : Below N w W
  lt : N ≤ g

set_option maxHeartbeats 1000000 in
theorem Of_any (s : Nat) (hs1 : 1 ≤ s) (hs32 : s ≤ 32) (v : Value) (L : List (List UInt8)) (w : World) (hv : SBB w v L) (hb : L.flatten.length ≤ 140737488355328) :
    Calls Try.prog 17 #[.int .i64 (s : Int), v] w fun e w' => ∃ v', e = .returned (.tuple #[v', .int .i64 0]) ∧ w'.ownsRow w.heap.size 5 1 v' s (bytesV (ofF s L.flatten)) ∧ Below w.heap.size w w' := by
  obtain ⟨A, c, rfl, hv, hL⟩ := hv.shape
  have HV := Lib.hid hv
  have HLB := Lib.hid hb
  clear hv hb
  go_enter Try.func17, Try.ntmps17
  go_wp2_with fail
  refine (Begin_yes s hs1 hs32 w).mono ?_
  rintro e w1 ⟨rfl, hb1⟩
  have HB := Lib.hid hb1
  have HBW := Lib.hid (wds_begin hs32)
  clear hb1
  obtain ⟨g, hg⟩ : ∃ g, g = w1.heap.size := ⟨_, rfl⟩
  have HGE := Lib.hid hg
  clear hg
  obtain ⟨B0, hB0⟩ : ∃ B0, B0 = beginF s := ⟨_, rfl⟩
  rw [← hB0] at HBW ⊢
  have HB0 := Lib.hid hB0
  clear hB0
  go_wp2_with (first
    | (refine wpList_alloc_row rfl 33 rfl _ (zero33 _) ?_; rw [← HGE.out]; intro w2 hT hS hG; have HT := Lib.hid hT; have HG := Lib.hid (below_of_grown hG); clear hT hG hS)
    | (refine wpList_store_row rfl 33 _ _ rfl g rfl 33 _ _ rfl HT.out (by rw [dgV_size HBW.out.1]; rfl) (by rw [dgV_size HBW.out.1]; kernel_rfl) (dgV_one _ _ rfl) ?_; intro w3 hT3 hS3 hG3; have HT3 := Lib.hid hT3; have HG3 := Lib.hid hG3; clear hT3 hS3 hG3))
  have hat : OfAt w.heap.size g w s [] w3 := by
    have hge := HB.out.size
    have hgg := HGE.out
    have hgs := HG.out.size
    refine ⟨⟨none, 0, ?_, SB_nil _⟩, (HB.out.trans (HG.out.mono hge)).grown HG3.out (by omega) (fun k e => by injection e with e; omega), by omega⟩
    rw [← HB0.out]; exact HT3.out
  have HAT := Lib.hid hat
  have hsz1 : g < w3.heap.size := blk_lt HT3.out
  clear hat HT HG HT3 HG3 HB HGE hsz1
  go_loopw [20] (fun i wr => ∃ k : Nat, k ≤ L.length ∧ i = .int .i64 (k : Int) ∧ OfAt w.heap.size g w s (L.take k).flatten wr) (fun i _ => L.length - (intOf i).toNat)
  case atStart => exact ⟨0, by omega, rfl, by simpa using HAT.out⟩
  case round =>
    clear HAT
    obtain ⟨k, hk, rfl, hat⟩ := hrel
    obtain ⟨⟨A1, c1, hrow, hsb⟩, hbel, hng⟩ := hat
    have hw0 : 0 < 18446744073709551616 := by decide
    have hwd := writeL_wds (L.take k).flatten.length (beginF s) 0 (L.take k).flatten (wds_begin hs32) hw0
    have HWD := Lib.hid hwd
    have HROW := Lib.hid hrow
    have HSB := Lib.hid hsb
    have HBEL := Lib.hid hbel
    clear hwd hrow hsb hbel
    rcases (show k = L.length ∨ k < L.length by omega) with rfl | hlt
    · rw [List.take_length] at HWD HROW HSB
      obtain ⟨F, hF⟩ : ∃ F, F = L.flatten := ⟨_, rfl⟩
      rw [← hF] at HWD HROW HSB
      obtain ⟨h1, hh1⟩ : ∃ x, x = (writeL F.length (beginF s) 0 F).1 := ⟨_, rfl⟩
      obtain ⟨n1, hn1⟩ : ∃ x, x = (writeL F.length (beginF s) 0 F).2.1 := ⟨_, rfl⟩
      obtain ⟨r1, hr1⟩ : ∃ x, x = (writeL F.length (beginF s) 0 F).2.2 := ⟨_, rfl⟩
      rw [← hh1, ← hn1, ← hr1] at HROW HWD
      rw [← hr1] at HSB
      have HF := Lib.hid hF
      have HE1 := Lib.hid hh1
      have HE2 := Lib.hid hn1
      have HE3 := Lib.hid hr1
      have hr64 : r1.length ≤ 64 := by rw [hr1]; exact writeL_rest _ _ _ _ (Nat.le_refl _)
      clear hF hh1 hn1 hr1
      go_wp2_with (refine wpList_load_row rfl 33 _ rfl g rfl 33 _ (0, 0) _ HROW.out Try.underlying33 rfl (by rw [dgV_size HWD.out.1.1]; kernel_rfl) ?_)
      refine (Sum_any h1 HWD.out.1 n1 HWD.out.2.1 (s : Int) _ r1 wr HSB.out s rfl hs1 hs32).mono ?_
      rintro e w5 ⟨v', rfl, hown, hb5⟩
      rw [writeL_stop _ _ _ _ hr64] at hown
      have HO := Lib.hid hown
      have HB5 := Lib.hid hb5
      clear hown hb5
      go_wp2_with fail
      refine bodyPost_ret (v := .tuple #[v', .int .i64 0]) (results_tt (P := Try.prog) (p := 4) (q := 5) rfl _ _) rfl ⟨v', rfl, ?_, ?_⟩
      · have := HO.out.base_le (B' := w.heap.size) HBEL.out.size
        unfold ofF
        rw [← HF.out, ← HE1.out, ← HE2.out, ← HE3.out]
        exact this
      · exact HBEL.out.trans (HB5.out.mono HBEL.out.size)
    · obtain ⟨b, o, A2, c2, rfl, hcell, hsb2, hl2⟩ := HV.out.at_ k hlt
      have hcell2 := cell_below HBEL.out hcell
      have HS2 := Lib.hid (hsb2.below HBEL.out)
      have HT := Lib.hid (take_flat_succ L k hlt)
      have HLE := Lib.hid (flat_len_le L (k + 1))
      clear hcell hsb2
      obtain ⟨bs, hbs⟩ : ∃ bs : List UInt8, bs = L[k] := ⟨_, rfl⟩
      rw [← hbs] at hcell2 HS2 HT hl2
      clear hbs
      obtain ⟨F, hF⟩ : ∃ F, F = (L.take k).flatten := ⟨_, rfl⟩
      rw [← hF] at HWD HROW HSB HT
      obtain ⟨h1, hh1⟩ : ∃ x, x = (writeL F.length (beginF s) 0 F).1 := ⟨_, rfl⟩
      obtain ⟨n1, hn1⟩ : ∃ x, x = (writeL F.length (beginF s) 0 F).2.1 := ⟨_, rfl⟩
      obtain ⟨r1, hr1⟩ : ∃ x, x = (writeL F.length (beginF s) 0 F).2.2 := ⟨_, rfl⟩
      have happ := writeL_append F.length (beginF s) 0 F bs (Nat.le_refl _)
      rw [← hh1, ← hn1, ← hr1] at HROW HWD happ
      rw [← hr1] at HSB
      have HAPP := Lib.hid happ
      have hr64 : r1.length ≤ 64 := by rw [hr1]; exact writeL_rest _ _ _ _ (Nat.le_refl _)
      have hbl : (r1 ++ bs).length ≤ 140737488355328 := by
        have h1 := HWD.out.2.2
        have h2 := HLE.out
        have h3 := HLB.out
        rw [HT.out] at h2
        simp only [List.length_append] at h2 ⊢
        omega
      have HBL := Lib.hid hbl
      clear hF hh1 hn1 hr1 happ hbl
      go_wp2_with (refine wpList_load_row rfl 33 _ rfl g rfl 33 _ (0, 0) _ HROW.out Try.underlying33 rfl (by rw [dgV_size HWD.out.1.1]; kernel_rfl) ?_)
      refine (Write_any h1 HWD.out.1 n1 HWD.out.2.1 (s : Int) _ _ r1 bs wr HSB.out HS2.out HBL.out).mono ?_
      rintro e w5 ⟨sl', rfl, hown, hb5⟩
      rw [HAPP.out] at hown ⊢
      have hwd5 := writeL_wds (F ++ bs).length (beginF s) 0 (F ++ bs) (wds_begin hs32) hw0
      have hr5 := writeL_rest (F ++ bs).length (beginF s) 0 (F ++ bs) (Nat.le_refl _)
      obtain ⟨A3, c3, rfl, hs3, -⟩ := (SB_of_own hown (by omega)).shape
      have HS3 := Lib.hid hs3
      have HWD5 := Lib.hid hwd5
      have HROW5 := Lib.hid (blk_below HROW.out hb5)
      have HBEL5 := Lib.hid (HBEL.out.trans (hb5.mono HBEL.out.size))
      clear hs3 hwd5 hown hb5 hr5 HROW HSB HBEL HAPP
      obtain ⟨st, hst⟩ : ∃ st, st = writeL (F ++ bs).length (beginF s) 0 (F ++ bs) := ⟨_, rfl⟩
      rw [← hst] at HS3 HWD5 ⊢
      have HST := Lib.hid hst
      clear hst
      go_wp2_with (refine wpList_store_row rfl 33 _ _ rfl g rfl 33 _ _ rfl HROW5.out (by rw [dgV_size HWD.out.1.1, dgV_size HWD5.out.1.1]) (by rw [dgV_size HWD5.out.1.1]; kernel_rfl) (dgV_one _ _ rfl) ?_; intro w6 hT6 hS6 hG6; have HT6 := Lib.hid hT6; have HG6 := Lib.hid hG6; clear hT6 hS6 hG6)
      go_roundw
      case rel =>
        refine ⟨k + 1, by omega, rfl, ⟨A3, c3, ?_, ?_⟩, HBEL5.out.grown HG6.out (by have := blk_lt HROW5.out; omega) (fun k e => by injection e with e; omega), hng⟩
        · rw [HT.out, ← HST.out]; exact HT6.out
        · rw [HT.out, ← HST.out]; exact HS3.out.grown33 HROW5.out (dgV_nobyte _ _) HG6.out
      case measure => simp [intOf]; omega
end Go.Proofs.Ytnemclbeofiakaa
