/-
  DigestMixes' walk.
-/
import Derived.Test.YtnemclbeofiakaaWy
namespace Go.Proofs.Ytnemclbeofiakaa
open Go.RowKit Bl

section
variable {Q : Exit → Act → World → Prop} {o : Oper} {a : Act} {w : World} {K : Act → World → Prop} {ops : Array Oper} {rest : List Oper}
theorem wpList_want (hw : Region.wanted o (yielded ops a.tmps) = true) (h : o.wp Try.prog a w (wpList Try.prog ops Q rest) Q) : wpList Try.prog ops Q (o :: rest) a w := by
  unfold wpList
  rw [if_pos hw]
  exact .inl h
theorem ow_eql_nums (x y : Operand) (t ty : TypeId) (ho : o.op = .binOp .eql t x y ty) (k : IntKind) (i j : Int) (hx : a.eval x = .int k i) (hy : a.eval y = .int k j) (h : K (a.put o.dst (.bool (i == j))) w) : o.wp Try.prog a w K Q := by
  refine ow_value (v := .bool (i == j)) ?_ h
  unfold execOp
  simp only [ho, hx, hy]
  simp [go_sem]
theorem ow_eql_words (x y : Operand) (t : TypeId) (ho : o.op = .binOp .eql 23 x y t) {l m : List Nat} (hl : l.length = 8) (hm : m.length = 8) (hx : a.eval x = .agg (wordsV l).toArray) (hy : a.eval y = .agg (wordsV m).toArray)
    (h : K (a.put o.dst (.bool (decide (l = m)))) w) : o.wp Try.prog a w K Q := by
  refine ow_value (v := .bool (decide (l = m))) ?_ h
  unfold execOp
  simp only [ho, hx, hy]
  have := eq_words l m hl hm w
  simp [go_sem, this]
theorem ow_build23_0 (ho : o.op = .build 23 #[]) (h : K (a.put o.dst (.agg (wordsV (List.replicate 8 0)).toArray)) w) : o.wp Try.prog a w K Q := by
  refine ow_value ?_ h
  unfold execOp
  simp only [ho, List.map_toArray, List.map_nil, Sem.run_bind, build23_0, Result.andThen_ok]
  rfl
/-- the document's Mix, called -/
theorem ow_mixR (x y z u : Operand) (ts : Array TypeId) (ho : o.op = .call { callee := .value (.func 10), args := #[x, y, z, u], argTypes := ts }) (h : List Nat) (hh : Wds 8 h) (v : Value) (bs : List UInt8) (n : Nat) (hn : n < 18446744073709551616) (last : Bool)
    (hx : a.eval x = .agg (wordsV h).toArray) (hy : a.eval y = v) (hz : a.eval z = .int .u64 (n : Int)) (hu : a.eval u = .bool last) (hv : SB w v bs) (h64 : bs.length = 64)
    (hK : ∀ w', Below w.heap.size w w' → K (a.put o.dst (.agg (wordsV (mixF h (wordsF bs) n last)).toArray)) w') : o.wp Try.prog a w K Q := by
  refine ow_call Try.func10 (by kernel_rfl) rfl _ _ ho (vs := #[.agg (wordsV h).toArray, v, .int .u64 (n : Int), .bool last]) (by simp only [List.map_toArray, List.map_cons, List.map_nil, hx, hy, hz, hu]) ?_
  refine (MixR_any h hh v bs n hn last w hv h64).mono ?_
  rintro e w' ⟨rfl, hbb⟩
  exact ⟨_, rfl, hK w' hbb⟩
end

set_option maxHeartbeats 1000000 in
set_option maxRecDepth 4000 in
theorem DigestMixes_any (h : List Nat) (hh : Wds 8 h) (A : Option Addr) (n c : Nat) (N : Nat) (hN : N < 18446744073709551616) (last : Int) (w : World) (hs : n ≤ 1000 → ∃ bs, n = bs.length ∧ SB w (.slice A n c) bs) :
    Calls Try.prog 3 #[.agg (wordsV h).toArray, .slice A n c, .int .u64 (N : Int), .int .i64 last] w fun e w' => e = .returned (.bool true) ∧ Below w.heap.size w w' := by
  have HSB := Lib.hid hs
  have HH := Lib.hid hh
  clear hs hh
  obtain ⟨g4, hg4⟩ : ∃ g, g = w.heap.size := ⟨_, rfl⟩
  have HG4 := Lib.hid hg4
  have h0 := World.alloc_heap_new w (.cells (wordsV h).toArray 23)
  have hb0 := below_alloc1 w (.cells (wordsV h).toArray 23)
  clear hg4
  go_enter Try.func3, Try.ntmps3
  go_upto_region 1 with fail
  rw [← HG4.out] at h0 ⊢
  obtain ⟨w1, hw1⟩ : ∃ w1, w1 = w.alloc (.cells (wordsV h).toArray 23) := ⟨_, rfl⟩
  rw [← hw1] at h0 hb0 ⊢
  have HR1 := Lib.hid h0
  have HB1 := Lib.hid hb0
  clear h0 hb0 hw1
  by_cases hlong : 1000 < n
  · have hd : decide ((1000 : Int) < (n : Int)) = true := by simp; omega
    go_wp2_with fail
    refine (awake_any w1).mono ?_
    rintro e w7 ⟨rfl, hb7⟩
    go_wp2_with fail
    go_ret
    exact ⟨rfl, HB1.out.trans (hb7.mono HB1.out.size)⟩
  have hd : decide ((1000 : Int) < (n : Int)) = false := by simp; omega
  obtain ⟨bs, rfl, hsb⟩ := HSB.out (by omega)
  have HS := Lib.hid hsb
  clear hsb HSB
  by_cases hyes : bs.length = 64 ∧ (last = 0 ∨ last = 1)
  · obtain ⟨h64, hl⟩ := hyes
    have H64 := Lib.hid h64
    clear h64
    go_wp2_with (refine wpList_load_row rfl 23 _ rfl g4 rfl 23 _ (0, 0) _ HR1.out Try.underlying23 rfl (by rw [wordsV_size, HH.out.1]; kernel_rfl) ?_)
    refine (Mix_yes h HH.out _ bs N hN last w1 (HS.out.below HB1.out) H64.out hl).mono ?_
    rintro e w2 ⟨rfl, hb2⟩
    have HR2 := Lib.hid (blk_below HR1.out hb2)
    have HB2 := Lib.hid (HB1.out.trans (hb2.mono HB1.out.size))
    clear hb2
    obtain ⟨z, hz⟩ : ∃ z, z = mixF h (wordsF bs) N (last == 1) := ⟨_, rfl⟩
    rw [← hz]
    have HZ := Lib.hid hz
    have HZW := Lib.hid (show Wds 8 z by rw [hz]; exact HH.out.mixF _ _ _)
    clear hz
    obtain ⟨g9, hg9⟩ : ∃ g, g = w2.heap.size := ⟨_, rfl⟩
    have HG9 := Lib.hid hg9
    clear hg9
    go_upto_region 4 with (first
      | (refine wpList_alloc_row rfl 23 rfl _ (zero23 _) ?_; rw [← HG9.out]; intro w3 hT hS hG; have HT3 := Lib.hid hT; have HG3 := Lib.hid (below_of_grown hG); clear hT hG hS)
      | (refine wpList_store_row rfl 23 _ _ rfl g9 rfl 23 _ _ rfl HT3.out (by rw [wordsV_size, HZW.out.1]; rfl) (by rw [wordsV_size, HZW.out.1]; kernel_rfl) (wordsV_one _) ?_; intro w4 hT3 hS3 hG3; have HT4 := Lib.hid hT3; have HGR4 := Lib.hid hG3; clear hT3 hS3 hG3))
    have hlt49 : g4 < g9 := by have := blk_lt HR2.out; have := HG9.out; omega
    have HR4 := Lib.hid (blk_grown (blk_below HR2.out HG3.out) HGR4.out (fun e => by injection e with e; omega))
    have HB4 := Lib.hid ((HB2.out.trans (HG3.out.mono HB2.out.size)).grown HGR4.out (by have := HB2.out.size; have := HG3.out.size; omega) (fun k e => by injection e with e; have := HG9.out; have := HB2.out.size; omega))
    have HS4 := Lib.hid (HS.out.below HB4.out)
    clear HR2 HB2 HG3 HT3 HGR4 HR1 HB1 HS HG9
    have hb64 : ((bs.length : Int) != 64) = false := by simp [H64.out]
    have hl0 : decide (last < 0) = false := by simp; omega
    have hl1 : decide (1 < last) = false := by simp; omega
    have HL := Lib.hid hl
    clear hl
    go_upto_region 6 with fail
    clear hb64 hl0 hl1
    refine region_g 15 (fun _ _ => false) (fun i vs W => match i with
        | 0 => vs 0 = .int .i64 0
        | 1 => vs 1 = .bool true
        | 2 => vs 2 = .bool true
        | 3 => vs 3 = .agg (wordsV z).toArray
        | 4 => vs 4 = .agg (wordsV h).toArray
        | 5 => vs 5 = .slice A bs.length c
        | 6 => vs 6 = .int .u64 (N : Int)
        | 7 => vs 7 = .int .i64 last
        | 8 => vs 8 = .bool (last == 1)
        | 9 => vs 9 = .agg (wordsV z).toArray
        | 10 => vs 10 = .bool true
        | 11 => vs 11 = .bool true
        | 12 => vs 12 = .bool true
        | 13 => vs 13 = .bool true
        | 14 => vs 14 = .bool true
        | _ => True) (fun _ W W' => Below W.heap.size W W') (fun W => Below w4.heap.size w4 W) (by kernel_rfl) (by kernel_rfl) ?hst6 ?h06 ?step6 ?fin6
    case hst6 =>
      intro i k vs W W' _ _ _ h hG
      match i, h with
      | 0, h => exact h
      | 1, h => exact h
      | 2, h => exact h
      | 3, h => exact h
      | 4, h => exact h
      | 5, h => exact h
      | 6, h => exact h
      | 7, h => exact h
      | 8, h => exact h
      | 9, h => exact h
      | 10, h => exact h
      | 11, h => exact h
      | 12, h => exact h
      | 13, h => exact h
      | 14, h => exact h
      | n + 15, _ => trivial
    case h06 => exact (Below.refl _ _).drew
    case step6 =>
      intro i op hi ho ac W hS hag hdep
      have hbr : Below W.heap.size W W := Below.refl _ _
      match i, hi, ho with
      | 0, _, rfl =>
        refine gstep rfl ?_
        exact ow_move _ rfl (hag 10 rfl) ⟨_, rfl, fun vs' h _ => h (fun e => by cases e), hbr, hS⟩
      | 1, _, rfl =>
        have h1 : ac.eval (.tmp 44) = .int .i64 0 := hdep 0 (by omega) (by kernel_rfl) (fun k _ h => by cases h)
        refine gstep rfl ?_
        exact ow_eql_int _ _ 27 27 rfl .i64 0 h1 rfl ⟨_, rfl, fun vs' h _ => h (fun e => by cases e), hbr, hS⟩
      | 2, _, rfl =>
        have h1 : ac.eval (.tmp 45) = .bool true := hdep 1 (by omega) (by kernel_rfl) (fun k _ h => by cases h)
        refine gstep rfl ?_
        exact ow_move _ rfl h1 ⟨_, rfl, fun vs' h _ => h (fun e => by cases e), hbr, hS⟩
      | 3, _, rfl =>
        refine gstep (wanted_ok rfl rfl (hdep 2 (by omega) (by kernel_rfl) (fun k _ h => by cases h) : ac.eval (.tmp 46) = .bool true)) ?_
        exact ow_load_row 23 _ rfl g9 (hag 9 rfl) 23 _ (0, 0) _ (blk_below HT4.out hS) Try.underlying23 rfl (by rw [wordsV_size, HZW.out.1]; kernel_rfl) ⟨_, rfl, fun vs' h _ => h (fun e => by cases e), hbr, hS⟩
      | 4, _, rfl =>
        refine gstep (wanted_ok rfl rfl (hdep 2 (by omega) (by kernel_rfl) (fun k _ h => by cases h) : ac.eval (.tmp 46) = .bool true)) ?_
        exact ow_load_row 23 _ rfl g4 (hag 4 rfl) 23 _ (0, 0) _ (blk_below HR4.out hS) Try.underlying23 rfl (by rw [wordsV_size, HH.out.1]; kernel_rfl) ⟨_, rfl, fun vs' h _ => h (fun e => by cases e), hbr, hS⟩
      | 5, _, rfl =>
        refine gstep (wanted_ok rfl rfl (hdep 2 (by omega) (by kernel_rfl) (fun k _ h => by cases h) : ac.eval (.tmp 46) = .bool true)) ?_
        exact ow_move _ rfl (hag 1 rfl) ⟨_, rfl, fun vs' h _ => h (fun e => by cases e), hbr, hS⟩
      | 6, _, rfl =>
        refine gstep (wanted_ok rfl rfl (hdep 2 (by omega) (by kernel_rfl) (fun k _ h => by cases h) : ac.eval (.tmp 46) = .bool true)) ?_
        exact ow_move _ rfl (hag 2 rfl) ⟨_, rfl, fun vs' h _ => h (fun e => by cases e), hbr, hS⟩
      | 7, _, rfl =>
        refine gstep (wanted_ok rfl rfl (hdep 2 (by omega) (by kernel_rfl) (fun k _ h => by cases h) : ac.eval (.tmp 46) = .bool true)) ?_
        exact ow_move _ rfl (hag 3 rfl) ⟨_, rfl, fun vs' h _ => h (fun e => by cases e), hbr, hS⟩
      | 8, _, rfl =>
        have h1 : ac.eval (.tmp 51) = .int .i64 last := hdep 7 (by omega) (by kernel_rfl) (fun k _ h => by cases h)
        refine gstep (wanted_ok rfl rfl (hdep 2 (by omega) (by kernel_rfl) (fun k _ h => by cases h) : ac.eval (.tmp 46) = .bool true)) ?_
        exact ow_eql_nums _ _ 3 3 rfl .i64 last 1 h1 rfl ⟨_, rfl, fun vs' h _ => h (fun e => by cases e), hbr, hS⟩
      | 9, _, rfl =>
        have h1 : ac.eval (.tmp 48) = .agg (wordsV h).toArray := hdep 4 (by omega) (by kernel_rfl) (fun k _ h => by cases h)
        have h2 : ac.eval (.tmp 49) = .slice A bs.length c := hdep 5 (by omega) (by kernel_rfl) (fun k _ h => by cases h)
        have h3 : ac.eval (.tmp 50) = .int .u64 (N : Int) := hdep 6 (by omega) (by kernel_rfl) (fun k _ h => by cases h)
        have h4 : ac.eval (.tmp 52) = .bool (last == 1) := hdep 8 (by omega) (by kernel_rfl) (fun k _ h => by cases h)
        refine gstep (wanted_ok rfl rfl (hdep 2 (by omega) (by kernel_rfl) (fun k _ h => by cases h) : ac.eval (.tmp 46) = .bool true)) ?_
        exact ow_mixR _ _ _ _ _ rfl h HH.out _ bs N hN (last == 1) h1 h2 h3 h4 (HS4.out.below hS) H64.out (fun w' hbb => ⟨_, rfl, fun vs' h _ => (h (fun e => by cases e)).trans (by rw [HZ.out]), hbb, hS.trans (hbb.mono hS.size)⟩)
      | 10, _, rfl =>
        have h1 : ac.eval (.tmp 47) = .agg (wordsV z).toArray := hdep 3 (by omega) (by kernel_rfl) (fun k _ h => by cases h)
        have h2 : ac.eval (.tmp 53) = .agg (wordsV z).toArray := hdep 9 (by omega) (by kernel_rfl) (fun k _ h => by cases h)
        refine gstep (wanted_ok rfl rfl (hdep 2 (by omega) (by kernel_rfl) (fun k _ h => by cases h) : ac.eval (.tmp 46) = .bool true)) ?_
        refine ow_eql_words _ _ 23 rfl HZW.out.1 HZW.out.1 h1 h2 ?_
        rw [decide_eq_true rfl]
        exact ⟨_, rfl, fun vs' h _ => h (fun e => by cases e), hbr, hS⟩
      | 11, _, rfl =>
        have h1 : ac.eval (.tmp 46) = .bool true := hdep 2 (by omega) (by kernel_rfl) (fun k _ h => by cases h)
        have h2 : ac.eval (.tmp 54) = .bool true := hdep 10 (by omega) (by kernel_rfl) (fun k _ h => by cases h)
        refine gstep rfl ?_
        exact ow_pick _ _ _ rfl true h1 (by rw [if_pos rfl]; exact h2) ⟨_, rfl, fun vs' h _ => h (fun e => by cases e), hbr, hS⟩
      | 12, _, rfl =>
        have h1 : ac.eval (.tmp 55) = .bool true := hdep 11 (by omega) (by kernel_rfl) (fun k _ h => by cases h)
        refine gstep rfl ?_
        exact ow_move _ rfl h1 ⟨_, rfl, fun vs' h _ => h (fun e => by cases e), hbr, hS⟩
      | 13, _, rfl =>
        refine gstep (wanted_ok rfl rfl (hdep 12 (by omega) (by kernel_rfl) (fun k _ h => by cases h) : ac.eval (.tmp 56) = .bool true)) ?_
        refine ow_call Try.func8 (by kernel_rfl) rfl _ _ rfl (vs := #[]) (by simp) ?_
        refine (awake_any W).mono ?_
        rintro e w' ⟨rfl, hbb⟩
        exact ⟨_, rfl, _, rfl, fun vs' h _ => h (fun e => by cases e), hbb, hS.trans (hbb.mono hS.size)⟩
      | 14, _, rfl =>
        have h1 : ac.eval (.tmp 56) = .bool true := hdep 12 (by omega) (by kernel_rfl) (fun k _ h => by cases h)
        have h2 : ac.eval (.tmp 57) = .bool true := hdep 13 (by omega) (by kernel_rfl) (fun k _ h => by cases h)
        refine gstep rfl ?_
        exact ow_pick _ _ _ rfl true h1 (by rw [if_pos rfl]; exact h2) ⟨_, rfl, fun vs' h _ => h (fun e => by cases e), hbr, hS⟩
      | n + 15, hi, _ => exact absurd hi (by omega)
    case fin6 =>
      intro vs W hS hF
      have e14 : vs 14 = .bool true := hF 14 (by omega) (fun _ _ => rfl)
      clear hF
      change wpList _ _ _ _ (Act.put (Act.put (Act.put (Act.put (Act.put (Act.put (Act.put (Act.put (Act.put (Act.put (Act.put (Act.put (Act.put (Act.put (Act.put _ (some 44) (vs 0)) (some 45) (vs 1)) (some 46) (vs 2)) (some 47) (vs 3)) (some 48) (vs 4)) (some 49) (vs 5)) (some 50) (vs 6)) (some 51) (vs 7)) (some 52) (vs 8)) (some 53) (vs 9)) (some 54) (vs 10)) (some 55) (vs 11)) (some 56) (vs 12)) (some 57) (vs 13)) (some 58) (vs 14)) W
      rw [e14]
      clear e14
      generalize vs 0 = z0
      generalize vs 1 = z1
      generalize vs 2 = z2
      generalize vs 3 = z3
      generalize vs 4 = z4
      generalize vs 5 = z5
      generalize vs 6 = z6
      generalize vs 7 = z7
      generalize vs 8 = z8
      generalize vs 9 = z9
      generalize vs 10 = z10
      generalize vs 11 = z11
      generalize vs 12 = z12
      generalize vs 13 = z13
      simp only [putAll, List.drop_succ_cons, List.drop_zero, Act.put, List.setIfInBounds_toArray, List.set_cons_zero, List.set_cons_succ]
      clear vs
      have HBZ := Lib.hid (HB4.out.trans (hS.mono HB4.out.size))
      clear hS
      go_wp2_with fail
      go_ret
      exact ⟨rfl, HBZ.out⟩
  · have hno : bs.length ≠ 64 ∨ (last ≠ 0 ∧ last ≠ 1) := by omega
    clear hyes
    go_wp2_with (refine wpList_load_row rfl 23 _ rfl g4 rfl 23 _ (0, 0) _ HR1.out Try.underlying23 rfl (by rw [wordsV_size, HH.out.1]; kernel_rfl) ?_)
    refine (Mix_no h _ bs N last w1 (HS.out.below HB1.out) hno).mono ?_
    rintro e w2 ⟨rfl, hb2⟩
    have HB2 := Lib.hid (HB1.out.trans (hb2.mono HB1.out.size))
    clear hb2
    have hz8 : (List.replicate 8 (0 : Nat)).length = 8 := by simp
    obtain ⟨z, hz⟩ : ∃ z : List Nat, z = List.replicate 8 0 := ⟨_, rfl⟩
    rw [← hz] at hz8 ⊢
    have HZ := Lib.hid hz
    have HZ8 := Lib.hid hz8
    clear hz hz8
    obtain ⟨g9, hg9⟩ : ∃ g, g = w2.heap.size := ⟨_, rfl⟩
    have HG9 := Lib.hid hg9
    clear hg9
    go_upto_region 4 with (first
      | (refine wpList_alloc_row rfl 23 rfl _ (zero23 _) ?_; rw [← HG9.out]; intro w3 hT hS hG; have HT3 := Lib.hid hT; have HG3 := Lib.hid (below_of_grown hG); clear hT hG hS)
      | (refine wpList_store_row rfl 23 _ _ rfl g9 rfl 23 _ _ rfl HT3.out (by rw [wordsV_size, HZ8.out]; rfl) (by rw [wordsV_size, HZ8.out]; kernel_rfl) (wordsV_one _) ?_; intro w4 hT3 hS3 hG3; have HT4 := Lib.hid hT3; have HGR4 := Lib.hid hG3; clear hT3 hS3 hG3))
    have HB4 := Lib.hid ((HB2.out.trans (HG3.out.mono HB2.out.size)).grown HGR4.out (by have := HB2.out.size; have := HG3.out.size; omega) (fun k e => by injection e with e; have := HG9.out; have := HB2.out.size; omega))
    clear HB2 HG3 HT3 HGR4 HR1 HB1 HS HG9
    go_cut [33] from 34 (fun b wc => b = .bool true ∧ wc = w4)
    case first =>
      by_cases h64 : bs.length = 64
      · have hb64 : ((bs.length : Int) != 64) = false := by simp [h64]
        have hor : last < 0 ∨ 1 < last := by omega
        clear h64 hno
        by_cases hl0 : last < 0
        · have hl0' : decide (last < 0) = true := decide_eq_true hl0
          clear hor
          go_wp2_with fail
          go_meet
          case rel => exact ⟨rfl, rfl⟩
        · have hl0' : decide (last < 0) = false := decide_eq_false hl0
          have hl1 : decide (1 < last) = true := by simp; omega
          clear hor
          go_wp2_with fail
          go_meet
          case rel => exact ⟨rfl, rfl⟩
      · have hb64 : ((bs.length : Int) != 64) = true := by simp; omega
        clear h64 hno
        go_wp2_with fail
        go_meet
        case rel => exact ⟨rfl, rfl⟩
    apply_assumption
    obtain ⟨rfl, rfl⟩ := hcut
    have hrz : (wordsV (List.replicate 8 0)).toArray = (wordsV z).toArray := by rw [HZ.out]
    go_wp2_with (first
      | (refine wpList_want rfl (ow_load_row 23 _ rfl g9 rfl 23 _ (0, 0) _ HT4.out Try.underlying23 rfl (by rw [wordsV_size, HZ8.out]; kernel_rfl) ?_))
      | (refine wpList_want rfl (ow_build23_0 rfl ?_); rw [hrz])
      | (refine wpList_want rfl (ow_eql_words _ _ _ rfl HZ8.out HZ8.out rfl rfl ?_); rw [decide_eq_true rfl]))
    refine (awake_any _).mono ?_
    rintro e w7 ⟨rfl, hb7⟩
    go_wp2_with fail
    go_ret
    exact ⟨rfl, HB4.out.trans (hb7.mono HB4.out.size)⟩
end Go.Proofs.Ytnemclbeofiakaa
