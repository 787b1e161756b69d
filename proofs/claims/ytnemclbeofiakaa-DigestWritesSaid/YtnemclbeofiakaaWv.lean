/-
  The document's stir.
-/
import Derived.Test.YtnemclbeofiakaaWu
namespace Go.Proofs.Ytnemclbeofiakaa
open Go.RowKit Bl

/-- a row of words, made by make -/
def RowS (w : World) (g : Nat) (v : List Nat) : Prop := w.heap[g]? = some (.cells (wordsV v).toArray 22 (0, 0))
theorem RowS.below {w w' : World} {g : Nat} {v : List Nat} (h : RowS w g v) (hb : Below w.heap.size w w') : RowS w' g v := blk_below h hb
theorem RowS.set {w : World} {g : Nat} {v : List Nat} (h : RowS w g v) (i x : Nat) : RowS (w.setCell ⟨g, i, none⟩ (.int .u32 (x : Int))) g (v.set i x) := by
  have := blk_setCell (i := i) h (.int .u32 (x : Int))
  rwa [wordsV_set] at this

set_option maxHeartbeats 1000000 in
set_option maxRecDepth 4000 in
theorem stirR_any (g a b c d x y : Nat) (v0 : List Nat) (hv : Wds 16 v0) (ha : a < 16) (hb : b < 16) (hc : c < 16) (hd : d < 16) (w0 : World) (hg : RowS w0 g v0) :
    Calls Try.prog 21 #[.slice (some ⟨g, 0, none⟩) 16 16, .int .i64 (a : Int), .int .i64 (b : Int), .int .i64 (c : Int), .int .i64 (d : Int), .int .u32 (x : Int), .int .u32 (y : Int)] w0
      fun e w' => e = .returned (.tuple #[]) ∧ RowS w' g (stirF v0 a b c d x y) ∧ w0.grownBy w' (some g) := by
  have HV0 := Lib.hid hv
  have HR0 := Lib.hid hg
  have HG0 := Lib.hid (grown_refl w0 (some g))
  clear hv hg
  go_enter Try.func21, Try.ntmps21
  go_upto_region 0 with fail
  refine region_f 13 (fun i vs W => match i with
      | 0 => vs 0 = .slice (some ⟨g, 0, none⟩) 16 16
      | 1 => vs 1 = .int .i64 (a : Int)
      | 2 => vs 2 = .slice (some ⟨g, 0, none⟩) 16 16
      | 3 => vs 3 = .int .i64 (a : Int)
      | 4 => vs 4 = .pointer (some ⟨g, 0 + a, none⟩)
      | 5 => vs 5 = .int .u32 ((v0.getD a 0 : Nat) : Int)
      | 6 => vs 6 = .slice (some ⟨g, 0, none⟩) 16 16
      | 7 => vs 7 = .int .i64 (b : Int)
      | 8 => vs 8 = .pointer (some ⟨g, 0 + b, none⟩)
      | 9 => vs 9 = .int .u32 ((v0.getD b 0 : Nat) : Int)
      | 10 => vs 10 = .int .u32 (((v0.getD a 0 + v0.getD b 0) % M : Nat) : Int)
      | 11 => vs 11 = .int .u32 (x : Int)
      | 12 => vs 12 = .int .u32 ((((v0.getD a 0 + v0.getD b 0) % M + x) % M : Nat) : Int)
      | _ => True) (fun _ W W' => Below W.heap.size W W') (fun W => Below w0.heap.size w0 W) (by kernel_rfl) (by kernel_rfl) ?hst0 ?h00 ?step0 ?fin0
  case hst0 =>
    intro i k vs W W' _ _ h hG
    match i, h with
    | 0, h => exact h
    | 1, h => exact h
    | 2, h => exact h
    | 3, h => exact h
    | 4, h => exact h
    | 5, h => exact h
    | 6, h => exact h
    | 7, h => exact h
    | 8, h => exact h
    | 9, h => exact h
    | 10, h => exact h
    | 11, h => exact h
    | 12, h => exact h
    | n + 13, _ => trivial
  case h00 => exact (Below.refl _ _).drew
  case step0 =>
    intro i op hi ho ac W hS hag hdep
    have hbr : Below W.heap.size W W := Below.refl _ _
    match i, hi, ho with
    | 0, _, rfl =>
      exact ow_move _ rfl (hag 0 rfl) ⟨_, rfl, fun vs' h _ => h (fun e => by cases e), hbr, hS⟩
    | 1, _, rfl =>
      exact ow_move _ rfl (hag 1 rfl) ⟨_, rfl, fun vs' h _ => h (fun e => by cases e), hbr, hS⟩
    | 2, _, rfl =>
      exact ow_move _ rfl (hag 0 rfl) ⟨_, rfl, fun vs' h _ => h (fun e => by cases e), hbr, hS⟩
    | 3, _, rfl =>
      exact ow_move _ rfl (hag 1 rfl) ⟨_, rfl, fun vs' h _ => h (fun e => by cases e), hbr, hS⟩
    | 4, _, rfl =>
      have h1 : ac.eval (.tmp 16) = .slice (some ⟨g, 0, none⟩) 16 16 := hdep 2 (by omega) (by kernel_rfl)
      have h2 : ac.eval (.tmp 17) = .int .i64 (a : Int) := hdep 3 (by omega) (by kernel_rfl)
      exact ow_index _ _ 22 45 rfl g 0 16 16 a h1 h2 ha Try.underlying45 tag22 ⟨_, rfl, fun vs' h _ => h (fun e => by cases e), hbr, hS⟩
    | 5, _, rfl =>
      have h1 : ac.eval (.tmp 18) = .pointer (some ⟨g, 0 + a, none⟩) := hdep 4 (by omega) (by kernel_rfl)
      exact ow_load_int _ 22 .u32 rfl g (0 + a) h1 _ (by rw [Nat.zero_add]; exact words_cell (HR0.out.below hS) a (by rw [HV0.out.1]; exact ha)) Try.underlying22 ⟨_, rfl, fun vs' h _ => h (fun e => by cases e), hbr, hS⟩
    | 6, _, rfl =>
      exact ow_move _ rfl (hag 0 rfl) ⟨_, rfl, fun vs' h _ => h (fun e => by cases e), hbr, hS⟩
    | 7, _, rfl =>
      exact ow_move _ rfl (hag 2 rfl) ⟨_, rfl, fun vs' h _ => h (fun e => by cases e), hbr, hS⟩
    | 8, _, rfl =>
      have h1 : ac.eval (.tmp 20) = .slice (some ⟨g, 0, none⟩) 16 16 := hdep 6 (by omega) (by kernel_rfl)
      have h2 : ac.eval (.tmp 21) = .int .i64 (b : Int) := hdep 7 (by omega) (by kernel_rfl)
      exact ow_index _ _ 22 45 rfl g 0 16 16 b h1 h2 hb Try.underlying45 tag22 ⟨_, rfl, fun vs' h _ => h (fun e => by cases e), hbr, hS⟩
    | 9, _, rfl =>
      have h1 : ac.eval (.tmp 22) = .pointer (some ⟨g, 0 + b, none⟩) := hdep 8 (by omega) (by kernel_rfl)
      exact ow_load_int _ 22 .u32 rfl g (0 + b) h1 _ (by rw [Nat.zero_add]; exact words_cell (HR0.out.below hS) b (by rw [HV0.out.1]; exact hb)) Try.underlying22 ⟨_, rfl, fun vs' h _ => h (fun e => by cases e), hbr, hS⟩
    | 10, _, rfl =>
      have h1 : ac.eval (.tmp 19) = .int .u32 ((v0.getD a 0 : Nat) : Int) := hdep 5 (by omega) (by kernel_rfl)
      have h2 : ac.eval (.tmp 23) = .int .u32 ((v0.getD b 0 : Nat) : Int) := hdep 9 (by omega) (by kernel_rfl)
      exact ow_add32 _ _ 22 22 _ _ rfl h1 h2 Try.underlying22 ⟨_, rfl, fun vs' h _ => h (fun e => by cases e), hbr, hS⟩
    | 11, _, rfl =>
      exact ow_move _ rfl (hag 5 rfl) ⟨_, rfl, fun vs' h _ => h (fun e => by cases e), hbr, hS⟩
    | 12, _, rfl =>
      have h1 : ac.eval (.tmp 24) = .int .u32 (((v0.getD a 0 + v0.getD b 0) % M : Nat) : Int) := hdep 10 (by omega) (by kernel_rfl)
      have h2 : ac.eval (.tmp 25) = .int .u32 (x : Int) := hdep 11 (by omega) (by kernel_rfl)
      exact ow_add32 _ _ 22 22 _ _ rfl h1 h2 Try.underlying22 ⟨_, rfl, fun vs' h _ => h (fun e => by cases e), hbr, hS⟩
    | n + 13, hi, _ => exact absurd hi (by omega)
  case fin0 =>
    intro vs W hS hF
    have e0 : vs 0 = .slice (some ⟨g, 0, none⟩) 16 16 := hF 0 (by omega)
    have e1 : vs 1 = .int .i64 (a : Int) := hF 1 (by omega)
    have e2 : vs 2 = .slice (some ⟨g, 0, none⟩) 16 16 := hF 2 (by omega)
    have e3 : vs 3 = .int .i64 (a : Int) := hF 3 (by omega)
    have e4 : vs 4 = .pointer (some ⟨g, 0 + a, none⟩) := hF 4 (by omega)
    have e5 : vs 5 = .int .u32 ((v0.getD a 0 : Nat) : Int) := hF 5 (by omega)
    have e6 : vs 6 = .slice (some ⟨g, 0, none⟩) 16 16 := hF 6 (by omega)
    have e7 : vs 7 = .int .i64 (b : Int) := hF 7 (by omega)
    have e8 : vs 8 = .pointer (some ⟨g, 0 + b, none⟩) := hF 8 (by omega)
    have e9 : vs 9 = .int .u32 ((v0.getD b 0 : Nat) : Int) := hF 9 (by omega)
    have e10 : vs 10 = .int .u32 (((v0.getD a 0 + v0.getD b 0) % M : Nat) : Int) := hF 10 (by omega)
    have e11 : vs 11 = .int .u32 (x : Int) := hF 11 (by omega)
    have e12 : vs 12 = .int .u32 ((((v0.getD a 0 + v0.getD b 0) % M + x) % M : Nat) : Int) := hF 12 (by omega)
    clear hF
    change wpList _ _ _ _ (Act.put (Act.put (Act.put (Act.put (Act.put (Act.put (Act.put (Act.put (Act.put (Act.put (Act.put (Act.put (Act.put _ (some 14) (vs 0)) (some 15) (vs 1)) (some 16) (vs 2)) (some 17) (vs 3)) (some 18) (vs 4)) (some 19) (vs 5)) (some 20) (vs 6)) (some 21) (vs 7)) (some 22) (vs 8)) (some 23) (vs 9)) (some 24) (vs 10)) (some 25) (vs 11)) (some 26) (vs 12)) W
    rw [e0, e1, e2, e3, e4, e5, e6, e7, e8, e9, e10, e11, e12]
    clear e0 e1 e2 e3 e4 e5 e6 e7 e8 e9 e10 e11 e12
    simp only [putAll, List.drop_succ_cons, List.drop_zero, Act.put, List.setIfInBounds_toArray, List.set_cons_zero, List.set_cons_succ]
    clear vs
    have hcv := words_cell (HR0.out.below hS) a (by rw [HV0.out.1]; exact ha)
    have hfz : W.frozen? ⟨g, a, none⟩ = false := frozen_of_row W g _ _ _ (HR0.out.below hS)
    have HS := Lib.hid hS
    clear hS
    obtain ⟨X, hX⟩ : ∃ X : Nat, X = ((v0.getD a 0 + v0.getD b 0) % M + x) % M := ⟨_, rfl⟩
    rw [← hX]
    have HX := Lib.hid hX
    clear hX
    go_upto_region 1 with fail
    have hgrow : w0.grownBy (W.setCell ⟨g, a, none⟩ (.int .u32 (X : Int))) (some g) := HG0.out.trans (grown_setCell (grown_of_below HS.out (some g)) _ _)
    have hrow : RowS (W.setCell ⟨g, a, none⟩ (.int .u32 (X : Int))) g (halfA v0 a b x) := by
      rw [show halfA v0 a b x = v0.set a X from by rw [HX.out, Nat.mod_add_mod]; rfl]
      exact (HR0.out.below HS.out).set a X
    obtain ⟨w1, hw1⟩ : ∃ w1, w1 = W.setCell ⟨g, a, none⟩ (.int .u32 (X : Int)) := ⟨_, rfl⟩
    rw [← hw1] at hgrow hrow ⊢
    obtain ⟨v1, hv1⟩ : ∃ v1, v1 = halfA v0 a b x := ⟨_, rfl⟩
    rw [← hv1] at hrow
    have HV1 := Lib.hid (show Wds 16 v1 by rw [hv1]; exact HV0.out.halfA a b x)
    have HR1 := Lib.hid hrow
    have HG1 := Lib.hid hgrow
    have HVN1 := Lib.hid hv1
    clear hgrow hrow hv1 hw1 hcv hfz HS HX HR0 HG0
    refine region_f 12 (fun i vs W => match i with
        | 0 => vs 0 = .slice (some ⟨g, 0, none⟩) 16 16
        | 1 => vs 1 = .int .i64 (d : Int)
        | 2 => vs 2 = .slice (some ⟨g, 0, none⟩) 16 16
        | 3 => vs 3 = .int .i64 (d : Int)
        | 4 => vs 4 = .pointer (some ⟨g, 0 + d, none⟩)
        | 5 => vs 5 = .int .u32 ((v1.getD d 0 : Nat) : Int)
        | 6 => vs 6 = .slice (some ⟨g, 0, none⟩) 16 16
        | 7 => vs 7 = .int .i64 (a : Int)
        | 8 => vs 8 = .pointer (some ⟨g, 0 + a, none⟩)
        | 9 => vs 9 = .int .u32 ((v1.getD a 0 : Nat) : Int)
        | 10 => vs 10 = .int .u32 ((v1.getD d 0 ^^^ v1.getD a 0 : Nat) : Int)
        | 11 => vs 11 = .int .u32 ((ror (v1.getD d 0 ^^^ v1.getD a 0) 16 : Nat) : Int)
        | _ => True) (fun _ W W' => Below W.heap.size W W') (fun W => Below w1.heap.size w1 W) (by kernel_rfl) (by kernel_rfl) ?hst1 ?h01 ?step1 ?fin1
    case hst1 =>
      intro i k vs W W' _ _ h hG
      match i, h with
      | 0, h => exact h
      | 1, h => exact h
      | 2, h => exact h
      | 3, h => exact h
      | 4, h => exact h
      | 5, h => exact h
      | 6, h => exact h
      | 7, h => exact h
      | 8, h => exact h
      | 9, h => exact h
      | 10, h => exact h
      | 11, h => exact h
      | n + 12, _ => trivial
    case h01 => exact (Below.refl _ _).drew
    case step1 =>
      intro i op hi ho ac W hS hag hdep
      have hbr : Below W.heap.size W W := Below.refl _ _
      match i, hi, ho with
      | 0, _, rfl =>
        exact ow_move _ rfl (hag 0 rfl) ⟨_, rfl, fun vs' h _ => h (fun e => by cases e), hbr, hS⟩
      | 1, _, rfl =>
        exact ow_move _ rfl (hag 4 rfl) ⟨_, rfl, fun vs' h _ => h (fun e => by cases e), hbr, hS⟩
      | 2, _, rfl =>
        exact ow_move _ rfl (hag 0 rfl) ⟨_, rfl, fun vs' h _ => h (fun e => by cases e), hbr, hS⟩
      | 3, _, rfl =>
        exact ow_move _ rfl (hag 4 rfl) ⟨_, rfl, fun vs' h _ => h (fun e => by cases e), hbr, hS⟩
      | 4, _, rfl =>
        have h1 : ac.eval (.tmp 30) = .slice (some ⟨g, 0, none⟩) 16 16 := hdep 2 (by omega) (by kernel_rfl)
        have h2 : ac.eval (.tmp 31) = .int .i64 (d : Int) := hdep 3 (by omega) (by kernel_rfl)
        exact ow_index _ _ 22 45 rfl g 0 16 16 d h1 h2 hd Try.underlying45 tag22 ⟨_, rfl, fun vs' h _ => h (fun e => by cases e), hbr, hS⟩
      | 5, _, rfl =>
        have h1 : ac.eval (.tmp 32) = .pointer (some ⟨g, 0 + d, none⟩) := hdep 4 (by omega) (by kernel_rfl)
        exact ow_load_int _ 22 .u32 rfl g (0 + d) h1 _ (by rw [Nat.zero_add]; exact words_cell (HR1.out.below hS) d (by rw [HV1.out.1]; exact hd)) Try.underlying22 ⟨_, rfl, fun vs' h _ => h (fun e => by cases e), hbr, hS⟩
      | 6, _, rfl =>
        exact ow_move _ rfl (hag 0 rfl) ⟨_, rfl, fun vs' h _ => h (fun e => by cases e), hbr, hS⟩
      | 7, _, rfl =>
        exact ow_move _ rfl (hag 1 rfl) ⟨_, rfl, fun vs' h _ => h (fun e => by cases e), hbr, hS⟩
      | 8, _, rfl =>
        have h1 : ac.eval (.tmp 34) = .slice (some ⟨g, 0, none⟩) 16 16 := hdep 6 (by omega) (by kernel_rfl)
        have h2 : ac.eval (.tmp 35) = .int .i64 (a : Int) := hdep 7 (by omega) (by kernel_rfl)
        exact ow_index _ _ 22 45 rfl g 0 16 16 a h1 h2 ha Try.underlying45 tag22 ⟨_, rfl, fun vs' h _ => h (fun e => by cases e), hbr, hS⟩
      | 9, _, rfl =>
        have h1 : ac.eval (.tmp 36) = .pointer (some ⟨g, 0 + a, none⟩) := hdep 8 (by omega) (by kernel_rfl)
        exact ow_load_int _ 22 .u32 rfl g (0 + a) h1 _ (by rw [Nat.zero_add]; exact words_cell (HR1.out.below hS) a (by rw [HV1.out.1]; exact ha)) Try.underlying22 ⟨_, rfl, fun vs' h _ => h (fun e => by cases e), hbr, hS⟩
      | 10, _, rfl =>
        have h1 : ac.eval (.tmp 33) = .int .u32 ((v1.getD d 0 : Nat) : Int) := hdep 5 (by omega) (by kernel_rfl)
        have h2 : ac.eval (.tmp 37) = .int .u32 ((v1.getD a 0 : Nat) : Int) := hdep 9 (by omega) (by kernel_rfl)
        exact ow_xor32 _ _ 22 22 _ _ rfl h1 h2 (getD_lt HV1.out d) (getD_lt HV1.out a) Try.underlying22 ⟨_, rfl, fun vs' h _ => h (fun e => by cases e), hbr, hS⟩
      | 11, _, rfl =>
        have h1 : ac.eval (.tmp 38) = .int .u32 ((v1.getD d 0 ^^^ v1.getD a 0 : Nat) : Int) := hdep 10 (by omega) (by kernel_rfl)
        refine ow_call Try.func31 (by kernel_rfl) rfl _ _ rfl (vs := #[.int .u32 ((v1.getD d 0 ^^^ v1.getD a 0 : Nat) : Int), .int .i64 ((16 : Nat) : Int)]) (by simp only [List.map_toArray, List.map_cons, List.map_nil, h1]; rfl) ?_
        refine (ror_any (by unfold Rot; simp : Rot 16) (v1.getD d 0 ^^^ v1.getD a 0) (xor_lt (getD_lt HV1.out d) (getD_lt HV1.out a)) W).mono ?_
        rintro e w' ⟨rfl, n, rfl⟩
        have hbb : Below W.heap.size W (W.drewN n) := ⟨rfl, rfl, rfl, Nat.le_refl _, fun _ _ => rfl⟩
        exact ⟨_, rfl, _, rfl, fun vs' h _ => h (fun e => by cases e), hbb, hS.trans (hbb.mono hS.size)⟩
      | n + 12, hi, _ => exact absurd hi (by omega)
    case fin1 =>
      intro vs W hS hF
      have e0 : vs 0 = .slice (some ⟨g, 0, none⟩) 16 16 := hF 0 (by omega)
      have e1 : vs 1 = .int .i64 (d : Int) := hF 1 (by omega)
      have e2 : vs 2 = .slice (some ⟨g, 0, none⟩) 16 16 := hF 2 (by omega)
      have e3 : vs 3 = .int .i64 (d : Int) := hF 3 (by omega)
      have e4 : vs 4 = .pointer (some ⟨g, 0 + d, none⟩) := hF 4 (by omega)
      have e5 : vs 5 = .int .u32 ((v1.getD d 0 : Nat) : Int) := hF 5 (by omega)
      have e6 : vs 6 = .slice (some ⟨g, 0, none⟩) 16 16 := hF 6 (by omega)
      have e7 : vs 7 = .int .i64 (a : Int) := hF 7 (by omega)
      have e8 : vs 8 = .pointer (some ⟨g, 0 + a, none⟩) := hF 8 (by omega)
      have e9 : vs 9 = .int .u32 ((v1.getD a 0 : Nat) : Int) := hF 9 (by omega)
      have e10 : vs 10 = .int .u32 ((v1.getD d 0 ^^^ v1.getD a 0 : Nat) : Int) := hF 10 (by omega)
      have e11 : vs 11 = .int .u32 ((ror (v1.getD d 0 ^^^ v1.getD a 0) 16 : Nat) : Int) := hF 11 (by omega)
      clear hF
      change wpList _ _ _ _ (Act.put (Act.put (Act.put (Act.put (Act.put (Act.put (Act.put (Act.put (Act.put (Act.put (Act.put (Act.put _ (some 28) (vs 0)) (some 29) (vs 1)) (some 30) (vs 2)) (some 31) (vs 3)) (some 32) (vs 4)) (some 33) (vs 5)) (some 34) (vs 6)) (some 35) (vs 7)) (some 36) (vs 8)) (some 37) (vs 9)) (some 38) (vs 10)) (some 39) (vs 11)) W
      rw [e0, e1, e2, e3, e4, e5, e6, e7, e8, e9, e10, e11]
      clear e0 e1 e2 e3 e4 e5 e6 e7 e8 e9 e10 e11
      simp only [putAll, List.drop_succ_cons, List.drop_zero, Act.put, List.setIfInBounds_toArray, List.set_cons_zero, List.set_cons_succ]
      clear vs
      have hcv := words_cell (HR1.out.below hS) d (by rw [HV1.out.1]; exact hd)
      have hfz : W.frozen? ⟨g, d, none⟩ = false := frozen_of_row W g _ _ _ (HR1.out.below hS)
      have HS := Lib.hid hS
      clear hS
      obtain ⟨X, hX⟩ : ∃ X : Nat, X = ror (v1.getD d 0 ^^^ v1.getD a 0) 16 := ⟨_, rfl⟩
      rw [← hX]
      have HX := Lib.hid hX
      clear hX
      go_upto_region 2 with fail
      have hgrow : w0.grownBy (W.setCell ⟨g, d, none⟩ (.int .u32 (X : Int))) (some g) := HG1.out.trans (grown_setCell (grown_of_below HS.out (some g)) _ _)
      have hrow : RowS (W.setCell ⟨g, d, none⟩ (.int .u32 (X : Int))) g (halfX v1 d a 16) := by
        rw [show halfX v1 d a 16 = v1.set d X from by rw [HX.out]; rfl]
        exact (HR1.out.below HS.out).set d X
      obtain ⟨w2, hw2⟩ : ∃ w2, w2 = W.setCell ⟨g, d, none⟩ (.int .u32 (X : Int)) := ⟨_, rfl⟩
      rw [← hw2] at hgrow hrow ⊢
      obtain ⟨v2, hv2⟩ : ∃ v2, v2 = halfX v1 d a 16 := ⟨_, rfl⟩
      rw [← hv2] at hrow
      have HV2 := Lib.hid (show Wds 16 v2 by rw [hv2]; exact HV1.out.halfX d a 16 (by decide))
      have HR2 := Lib.hid hrow
      have HG2 := Lib.hid hgrow
      have HVN2 := Lib.hid hv2
      clear hgrow hrow hv2 hw2 hcv hfz HS HX HR1 HG1
      refine region_f 11 (fun i vs W => match i with
          | 0 => vs 0 = .slice (some ⟨g, 0, none⟩) 16 16
          | 1 => vs 1 = .int .i64 (c : Int)
          | 2 => vs 2 = .slice (some ⟨g, 0, none⟩) 16 16
          | 3 => vs 3 = .int .i64 (c : Int)
          | 4 => vs 4 = .pointer (some ⟨g, 0 + c, none⟩)
          | 5 => vs 5 = .int .u32 ((v2.getD c 0 : Nat) : Int)
          | 6 => vs 6 = .slice (some ⟨g, 0, none⟩) 16 16
          | 7 => vs 7 = .int .i64 (d : Int)
          | 8 => vs 8 = .pointer (some ⟨g, 0 + d, none⟩)
          | 9 => vs 9 = .int .u32 ((v2.getD d 0 : Nat) : Int)
          | 10 => vs 10 = .int .u32 (((v2.getD c 0 + v2.getD d 0) % M : Nat) : Int)
          | _ => True) (fun _ W W' => Below W.heap.size W W') (fun W => Below w2.heap.size w2 W) (by kernel_rfl) (by kernel_rfl) ?hst2 ?h02 ?step2 ?fin2
      case hst2 =>
        intro i k vs W W' _ _ h hG
        match i, h with
        | 0, h => exact h
        | 1, h => exact h
        | 2, h => exact h
        | 3, h => exact h
        | 4, h => exact h
        | 5, h => exact h
        | 6, h => exact h
        | 7, h => exact h
        | 8, h => exact h
        | 9, h => exact h
        | 10, h => exact h
        | n + 11, _ => trivial
      case h02 => exact (Below.refl _ _).drew
      case step2 =>
        intro i op hi ho ac W hS hag hdep
        have hbr : Below W.heap.size W W := Below.refl _ _
        match i, hi, ho with
        | 0, _, rfl =>
          exact ow_move _ rfl (hag 0 rfl) ⟨_, rfl, fun vs' h _ => h (fun e => by cases e), hbr, hS⟩
        | 1, _, rfl =>
          exact ow_move _ rfl (hag 3 rfl) ⟨_, rfl, fun vs' h _ => h (fun e => by cases e), hbr, hS⟩
        | 2, _, rfl =>
          exact ow_move _ rfl (hag 0 rfl) ⟨_, rfl, fun vs' h _ => h (fun e => by cases e), hbr, hS⟩
        | 3, _, rfl =>
          exact ow_move _ rfl (hag 3 rfl) ⟨_, rfl, fun vs' h _ => h (fun e => by cases e), hbr, hS⟩
        | 4, _, rfl =>
          have h1 : ac.eval (.tmp 43) = .slice (some ⟨g, 0, none⟩) 16 16 := hdep 2 (by omega) (by kernel_rfl)
          have h2 : ac.eval (.tmp 44) = .int .i64 (c : Int) := hdep 3 (by omega) (by kernel_rfl)
          exact ow_index _ _ 22 45 rfl g 0 16 16 c h1 h2 hc Try.underlying45 tag22 ⟨_, rfl, fun vs' h _ => h (fun e => by cases e), hbr, hS⟩
        | 5, _, rfl =>
          have h1 : ac.eval (.tmp 45) = .pointer (some ⟨g, 0 + c, none⟩) := hdep 4 (by omega) (by kernel_rfl)
          exact ow_load_int _ 22 .u32 rfl g (0 + c) h1 _ (by rw [Nat.zero_add]; exact words_cell (HR2.out.below hS) c (by rw [HV2.out.1]; exact hc)) Try.underlying22 ⟨_, rfl, fun vs' h _ => h (fun e => by cases e), hbr, hS⟩
        | 6, _, rfl =>
          exact ow_move _ rfl (hag 0 rfl) ⟨_, rfl, fun vs' h _ => h (fun e => by cases e), hbr, hS⟩
        | 7, _, rfl =>
          exact ow_move _ rfl (hag 4 rfl) ⟨_, rfl, fun vs' h _ => h (fun e => by cases e), hbr, hS⟩
        | 8, _, rfl =>
          have h1 : ac.eval (.tmp 47) = .slice (some ⟨g, 0, none⟩) 16 16 := hdep 6 (by omega) (by kernel_rfl)
          have h2 : ac.eval (.tmp 48) = .int .i64 (d : Int) := hdep 7 (by omega) (by kernel_rfl)
          exact ow_index _ _ 22 45 rfl g 0 16 16 d h1 h2 hd Try.underlying45 tag22 ⟨_, rfl, fun vs' h _ => h (fun e => by cases e), hbr, hS⟩
        | 9, _, rfl =>
          have h1 : ac.eval (.tmp 49) = .pointer (some ⟨g, 0 + d, none⟩) := hdep 8 (by omega) (by kernel_rfl)
          exact ow_load_int _ 22 .u32 rfl g (0 + d) h1 _ (by rw [Nat.zero_add]; exact words_cell (HR2.out.below hS) d (by rw [HV2.out.1]; exact hd)) Try.underlying22 ⟨_, rfl, fun vs' h _ => h (fun e => by cases e), hbr, hS⟩
        | 10, _, rfl =>
          have h1 : ac.eval (.tmp 46) = .int .u32 ((v2.getD c 0 : Nat) : Int) := hdep 5 (by omega) (by kernel_rfl)
          have h2 : ac.eval (.tmp 50) = .int .u32 ((v2.getD d 0 : Nat) : Int) := hdep 9 (by omega) (by kernel_rfl)
          exact ow_add32 _ _ 22 22 _ _ rfl h1 h2 Try.underlying22 ⟨_, rfl, fun vs' h _ => h (fun e => by cases e), hbr, hS⟩
        | n + 11, hi, _ => exact absurd hi (by omega)
      case fin2 =>
        intro vs W hS hF
        have e0 : vs 0 = .slice (some ⟨g, 0, none⟩) 16 16 := hF 0 (by omega)
        have e1 : vs 1 = .int .i64 (c : Int) := hF 1 (by omega)
        have e2 : vs 2 = .slice (some ⟨g, 0, none⟩) 16 16 := hF 2 (by omega)
        have e3 : vs 3 = .int .i64 (c : Int) := hF 3 (by omega)
        have e4 : vs 4 = .pointer (some ⟨g, 0 + c, none⟩) := hF 4 (by omega)
        have e5 : vs 5 = .int .u32 ((v2.getD c 0 : Nat) : Int) := hF 5 (by omega)
        have e6 : vs 6 = .slice (some ⟨g, 0, none⟩) 16 16 := hF 6 (by omega)
        have e7 : vs 7 = .int .i64 (d : Int) := hF 7 (by omega)
        have e8 : vs 8 = .pointer (some ⟨g, 0 + d, none⟩) := hF 8 (by omega)
        have e9 : vs 9 = .int .u32 ((v2.getD d 0 : Nat) : Int) := hF 9 (by omega)
        have e10 : vs 10 = .int .u32 (((v2.getD c 0 + v2.getD d 0) % M : Nat) : Int) := hF 10 (by omega)
        clear hF
        change wpList _ _ _ _ (Act.put (Act.put (Act.put (Act.put (Act.put (Act.put (Act.put (Act.put (Act.put (Act.put (Act.put _ (some 41) (vs 0)) (some 42) (vs 1)) (some 43) (vs 2)) (some 44) (vs 3)) (some 45) (vs 4)) (some 46) (vs 5)) (some 47) (vs 6)) (some 48) (vs 7)) (some 49) (vs 8)) (some 50) (vs 9)) (some 51) (vs 10)) W
        rw [e0, e1, e2, e3, e4, e5, e6, e7, e8, e9, e10]
        clear e0 e1 e2 e3 e4 e5 e6 e7 e8 e9 e10
        simp only [putAll, List.drop_succ_cons, List.drop_zero, Act.put, List.setIfInBounds_toArray, List.set_cons_zero, List.set_cons_succ]
        clear vs
        have hcv := words_cell (HR2.out.below hS) c (by rw [HV2.out.1]; exact hc)
        have hfz : W.frozen? ⟨g, c, none⟩ = false := frozen_of_row W g _ _ _ (HR2.out.below hS)
        have HS := Lib.hid hS
        clear hS
        obtain ⟨X, hX⟩ : ∃ X : Nat, X = (v2.getD c 0 + v2.getD d 0) % M := ⟨_, rfl⟩
        rw [← hX]
        have HX := Lib.hid hX
        clear hX
        go_upto_region 3 with fail
        have hgrow : w0.grownBy (W.setCell ⟨g, c, none⟩ (.int .u32 (X : Int))) (some g) := HG2.out.trans (grown_setCell (grown_of_below HS.out (some g)) _ _)
        have hrow : RowS (W.setCell ⟨g, c, none⟩ (.int .u32 (X : Int))) g (halfC v2 c d) := by
          rw [show halfC v2 c d = v2.set c X from by rw [HX.out]; rfl]
          exact (HR2.out.below HS.out).set c X
        obtain ⟨w3, hw3⟩ : ∃ w3, w3 = W.setCell ⟨g, c, none⟩ (.int .u32 (X : Int)) := ⟨_, rfl⟩
        rw [← hw3] at hgrow hrow ⊢
        obtain ⟨v3, hv3⟩ : ∃ v3, v3 = halfC v2 c d := ⟨_, rfl⟩
        rw [← hv3] at hrow
        have HV3 := Lib.hid (show Wds 16 v3 by rw [hv3]; exact HV2.out.halfC c d)
        have HR3 := Lib.hid hrow
        have HG3 := Lib.hid hgrow
        have HVN3 := Lib.hid hv3
        clear hgrow hrow hv3 hw3 hcv hfz HS HX HR2 HG2
        refine region_f 12 (fun i vs W => match i with
            | 0 => vs 0 = .slice (some ⟨g, 0, none⟩) 16 16
            | 1 => vs 1 = .int .i64 (b : Int)
            | 2 => vs 2 = .slice (some ⟨g, 0, none⟩) 16 16
            | 3 => vs 3 = .int .i64 (b : Int)
            | 4 => vs 4 = .pointer (some ⟨g, 0 + b, none⟩)
            | 5 => vs 5 = .int .u32 ((v3.getD b 0 : Nat) : Int)
            | 6 => vs 6 = .slice (some ⟨g, 0, none⟩) 16 16
            | 7 => vs 7 = .int .i64 (c : Int)
            | 8 => vs 8 = .pointer (some ⟨g, 0 + c, none⟩)
            | 9 => vs 9 = .int .u32 ((v3.getD c 0 : Nat) : Int)
            | 10 => vs 10 = .int .u32 ((v3.getD b 0 ^^^ v3.getD c 0 : Nat) : Int)
            | 11 => vs 11 = .int .u32 ((ror (v3.getD b 0 ^^^ v3.getD c 0) 12 : Nat) : Int)
            | _ => True) (fun _ W W' => Below W.heap.size W W') (fun W => Below w3.heap.size w3 W) (by kernel_rfl) (by kernel_rfl) ?hst3 ?h03 ?step3 ?fin3
        case hst3 =>
          intro i k vs W W' _ _ h hG
          match i, h with
          | 0, h => exact h
          | 1, h => exact h
          | 2, h => exact h
          | 3, h => exact h
          | 4, h => exact h
          | 5, h => exact h
          | 6, h => exact h
          | 7, h => exact h
          | 8, h => exact h
          | 9, h => exact h
          | 10, h => exact h
          | 11, h => exact h
          | n + 12, _ => trivial
        case h03 => exact (Below.refl _ _).drew
        case step3 =>
          intro i op hi ho ac W hS hag hdep
          have hbr : Below W.heap.size W W := Below.refl _ _
          match i, hi, ho with
          | 0, _, rfl =>
            exact ow_move _ rfl (hag 0 rfl) ⟨_, rfl, fun vs' h _ => h (fun e => by cases e), hbr, hS⟩
          | 1, _, rfl =>
            exact ow_move _ rfl (hag 2 rfl) ⟨_, rfl, fun vs' h _ => h (fun e => by cases e), hbr, hS⟩
          | 2, _, rfl =>
            exact ow_move _ rfl (hag 0 rfl) ⟨_, rfl, fun vs' h _ => h (fun e => by cases e), hbr, hS⟩
          | 3, _, rfl =>
            exact ow_move _ rfl (hag 2 rfl) ⟨_, rfl, fun vs' h _ => h (fun e => by cases e), hbr, hS⟩
          | 4, _, rfl =>
            have h1 : ac.eval (.tmp 55) = .slice (some ⟨g, 0, none⟩) 16 16 := hdep 2 (by omega) (by kernel_rfl)
            have h2 : ac.eval (.tmp 56) = .int .i64 (b : Int) := hdep 3 (by omega) (by kernel_rfl)
            exact ow_index _ _ 22 45 rfl g 0 16 16 b h1 h2 hb Try.underlying45 tag22 ⟨_, rfl, fun vs' h _ => h (fun e => by cases e), hbr, hS⟩
          | 5, _, rfl =>
            have h1 : ac.eval (.tmp 57) = .pointer (some ⟨g, 0 + b, none⟩) := hdep 4 (by omega) (by kernel_rfl)
            exact ow_load_int _ 22 .u32 rfl g (0 + b) h1 _ (by rw [Nat.zero_add]; exact words_cell (HR3.out.below hS) b (by rw [HV3.out.1]; exact hb)) Try.underlying22 ⟨_, rfl, fun vs' h _ => h (fun e => by cases e), hbr, hS⟩
          | 6, _, rfl =>
            exact ow_move _ rfl (hag 0 rfl) ⟨_, rfl, fun vs' h _ => h (fun e => by cases e), hbr, hS⟩
          | 7, _, rfl =>
            exact ow_move _ rfl (hag 3 rfl) ⟨_, rfl, fun vs' h _ => h (fun e => by cases e), hbr, hS⟩
          | 8, _, rfl =>
            have h1 : ac.eval (.tmp 59) = .slice (some ⟨g, 0, none⟩) 16 16 := hdep 6 (by omega) (by kernel_rfl)
            have h2 : ac.eval (.tmp 60) = .int .i64 (c : Int) := hdep 7 (by omega) (by kernel_rfl)
            exact ow_index _ _ 22 45 rfl g 0 16 16 c h1 h2 hc Try.underlying45 tag22 ⟨_, rfl, fun vs' h _ => h (fun e => by cases e), hbr, hS⟩
          | 9, _, rfl =>
            have h1 : ac.eval (.tmp 61) = .pointer (some ⟨g, 0 + c, none⟩) := hdep 8 (by omega) (by kernel_rfl)
            exact ow_load_int _ 22 .u32 rfl g (0 + c) h1 _ (by rw [Nat.zero_add]; exact words_cell (HR3.out.below hS) c (by rw [HV3.out.1]; exact hc)) Try.underlying22 ⟨_, rfl, fun vs' h _ => h (fun e => by cases e), hbr, hS⟩
          | 10, _, rfl =>
            have h1 : ac.eval (.tmp 58) = .int .u32 ((v3.getD b 0 : Nat) : Int) := hdep 5 (by omega) (by kernel_rfl)
            have h2 : ac.eval (.tmp 62) = .int .u32 ((v3.getD c 0 : Nat) : Int) := hdep 9 (by omega) (by kernel_rfl)
            exact ow_xor32 _ _ 22 22 _ _ rfl h1 h2 (getD_lt HV3.out b) (getD_lt HV3.out c) Try.underlying22 ⟨_, rfl, fun vs' h _ => h (fun e => by cases e), hbr, hS⟩
          | 11, _, rfl =>
            have h1 : ac.eval (.tmp 63) = .int .u32 ((v3.getD b 0 ^^^ v3.getD c 0 : Nat) : Int) := hdep 10 (by omega) (by kernel_rfl)
            refine ow_call Try.func31 (by kernel_rfl) rfl _ _ rfl (vs := #[.int .u32 ((v3.getD b 0 ^^^ v3.getD c 0 : Nat) : Int), .int .i64 ((12 : Nat) : Int)]) (by simp only [List.map_toArray, List.map_cons, List.map_nil, h1]; rfl) ?_
            refine (ror_any (by unfold Rot; simp : Rot 12) (v3.getD b 0 ^^^ v3.getD c 0) (xor_lt (getD_lt HV3.out b) (getD_lt HV3.out c)) W).mono ?_
            rintro e w' ⟨rfl, n, rfl⟩
            have hbb : Below W.heap.size W (W.drewN n) := ⟨rfl, rfl, rfl, Nat.le_refl _, fun _ _ => rfl⟩
            exact ⟨_, rfl, _, rfl, fun vs' h _ => h (fun e => by cases e), hbb, hS.trans (hbb.mono hS.size)⟩
          | n + 12, hi, _ => exact absurd hi (by omega)
        case fin3 =>
          intro vs W hS hF
          have e0 : vs 0 = .slice (some ⟨g, 0, none⟩) 16 16 := hF 0 (by omega)
          have e1 : vs 1 = .int .i64 (b : Int) := hF 1 (by omega)
          have e2 : vs 2 = .slice (some ⟨g, 0, none⟩) 16 16 := hF 2 (by omega)
          have e3 : vs 3 = .int .i64 (b : Int) := hF 3 (by omega)
          have e4 : vs 4 = .pointer (some ⟨g, 0 + b, none⟩) := hF 4 (by omega)
          have e5 : vs 5 = .int .u32 ((v3.getD b 0 : Nat) : Int) := hF 5 (by omega)
          have e6 : vs 6 = .slice (some ⟨g, 0, none⟩) 16 16 := hF 6 (by omega)
          have e7 : vs 7 = .int .i64 (c : Int) := hF 7 (by omega)
          have e8 : vs 8 = .pointer (some ⟨g, 0 + c, none⟩) := hF 8 (by omega)
          have e9 : vs 9 = .int .u32 ((v3.getD c 0 : Nat) : Int) := hF 9 (by omega)
          have e10 : vs 10 = .int .u32 ((v3.getD b 0 ^^^ v3.getD c 0 : Nat) : Int) := hF 10 (by omega)
          have e11 : vs 11 = .int .u32 ((ror (v3.getD b 0 ^^^ v3.getD c 0) 12 : Nat) : Int) := hF 11 (by omega)
          clear hF
          change wpList _ _ _ _ (Act.put (Act.put (Act.put (Act.put (Act.put (Act.put (Act.put (Act.put (Act.put (Act.put (Act.put (Act.put _ (some 53) (vs 0)) (some 54) (vs 1)) (some 55) (vs 2)) (some 56) (vs 3)) (some 57) (vs 4)) (some 58) (vs 5)) (some 59) (vs 6)) (some 60) (vs 7)) (some 61) (vs 8)) (some 62) (vs 9)) (some 63) (vs 10)) (some 64) (vs 11)) W
          rw [e0, e1, e2, e3, e4, e5, e6, e7, e8, e9, e10, e11]
          clear e0 e1 e2 e3 e4 e5 e6 e7 e8 e9 e10 e11
          simp only [putAll, List.drop_succ_cons, List.drop_zero, Act.put, List.setIfInBounds_toArray, List.set_cons_zero, List.set_cons_succ]
          clear vs
          have hcv := words_cell (HR3.out.below hS) b (by rw [HV3.out.1]; exact hb)
          have hfz : W.frozen? ⟨g, b, none⟩ = false := frozen_of_row W g _ _ _ (HR3.out.below hS)
          have HS := Lib.hid hS
          clear hS
          obtain ⟨X, hX⟩ : ∃ X : Nat, X = ror (v3.getD b 0 ^^^ v3.getD c 0) 12 := ⟨_, rfl⟩
          rw [← hX]
          have HX := Lib.hid hX
          clear hX
          go_upto_region 4 with fail
          have hgrow : w0.grownBy (W.setCell ⟨g, b, none⟩ (.int .u32 (X : Int))) (some g) := HG3.out.trans (grown_setCell (grown_of_below HS.out (some g)) _ _)
          have hrow : RowS (W.setCell ⟨g, b, none⟩ (.int .u32 (X : Int))) g (halfX v3 b c 12) := by
            rw [show halfX v3 b c 12 = v3.set b X from by rw [HX.out]; rfl]
            exact (HR3.out.below HS.out).set b X
          obtain ⟨w4, hw4⟩ : ∃ w4, w4 = W.setCell ⟨g, b, none⟩ (.int .u32 (X : Int)) := ⟨_, rfl⟩
          rw [← hw4] at hgrow hrow ⊢
          obtain ⟨v4, hv4⟩ : ∃ v4, v4 = halfX v3 b c 12 := ⟨_, rfl⟩
          rw [← hv4] at hrow
          have HV4 := Lib.hid (show Wds 16 v4 by rw [hv4]; exact HV3.out.halfX b c 12 (by decide))
          have HR4 := Lib.hid hrow
          have HG4 := Lib.hid hgrow
          have HVN4 := Lib.hid hv4
          clear hgrow hrow hv4 hw4 hcv hfz HS HX HR3 HG3
          refine region_f 13 (fun i vs W => match i with
              | 0 => vs 0 = .slice (some ⟨g, 0, none⟩) 16 16
              | 1 => vs 1 = .int .i64 (a : Int)
              | 2 => vs 2 = .slice (some ⟨g, 0, none⟩) 16 16
              | 3 => vs 3 = .int .i64 (a : Int)
              | 4 => vs 4 = .pointer (some ⟨g, 0 + a, none⟩)
              | 5 => vs 5 = .int .u32 ((v4.getD a 0 : Nat) : Int)
              | 6 => vs 6 = .slice (some ⟨g, 0, none⟩) 16 16
              | 7 => vs 7 = .int .i64 (b : Int)
              | 8 => vs 8 = .pointer (some ⟨g, 0 + b, none⟩)
              | 9 => vs 9 = .int .u32 ((v4.getD b 0 : Nat) : Int)
              | 10 => vs 10 = .int .u32 (((v4.getD a 0 + v4.getD b 0) % M : Nat) : Int)
              | 11 => vs 11 = .int .u32 (y : Int)
              | 12 => vs 12 = .int .u32 ((((v4.getD a 0 + v4.getD b 0) % M + y) % M : Nat) : Int)
              | _ => True) (fun _ W W' => Below W.heap.size W W') (fun W => Below w4.heap.size w4 W) (by kernel_rfl) (by kernel_rfl) ?hst4 ?h04 ?step4 ?fin4
          case hst4 =>
            intro i k vs W W' _ _ h hG
            match i, h with
            | 0, h => exact h
            | 1, h => exact h
            | 2, h => exact h
            | 3, h => exact h
            | 4, h => exact h
            | 5, h => exact h
            | 6, h => exact h
            | 7, h => exact h
            | 8, h => exact h
            | 9, h => exact h
            | 10, h => exact h
            | 11, h => exact h
            | 12, h => exact h
            | n + 13, _ => trivial
          case h04 => exact (Below.refl _ _).drew
          case step4 =>
            intro i op hi ho ac W hS hag hdep
            have hbr : Below W.heap.size W W := Below.refl _ _
            match i, hi, ho with
            | 0, _, rfl =>
              exact ow_move _ rfl (hag 0 rfl) ⟨_, rfl, fun vs' h _ => h (fun e => by cases e), hbr, hS⟩
            | 1, _, rfl =>
              exact ow_move _ rfl (hag 1 rfl) ⟨_, rfl, fun vs' h _ => h (fun e => by cases e), hbr, hS⟩
            | 2, _, rfl =>
              exact ow_move _ rfl (hag 0 rfl) ⟨_, rfl, fun vs' h _ => h (fun e => by cases e), hbr, hS⟩
            | 3, _, rfl =>
              exact ow_move _ rfl (hag 1 rfl) ⟨_, rfl, fun vs' h _ => h (fun e => by cases e), hbr, hS⟩
            | 4, _, rfl =>
              have h1 : ac.eval (.tmp 68) = .slice (some ⟨g, 0, none⟩) 16 16 := hdep 2 (by omega) (by kernel_rfl)
              have h2 : ac.eval (.tmp 69) = .int .i64 (a : Int) := hdep 3 (by omega) (by kernel_rfl)
              exact ow_index _ _ 22 45 rfl g 0 16 16 a h1 h2 ha Try.underlying45 tag22 ⟨_, rfl, fun vs' h _ => h (fun e => by cases e), hbr, hS⟩
            | 5, _, rfl =>
              have h1 : ac.eval (.tmp 70) = .pointer (some ⟨g, 0 + a, none⟩) := hdep 4 (by omega) (by kernel_rfl)
              exact ow_load_int _ 22 .u32 rfl g (0 + a) h1 _ (by rw [Nat.zero_add]; exact words_cell (HR4.out.below hS) a (by rw [HV4.out.1]; exact ha)) Try.underlying22 ⟨_, rfl, fun vs' h _ => h (fun e => by cases e), hbr, hS⟩
            | 6, _, rfl =>
              exact ow_move _ rfl (hag 0 rfl) ⟨_, rfl, fun vs' h _ => h (fun e => by cases e), hbr, hS⟩
            | 7, _, rfl =>
              exact ow_move _ rfl (hag 2 rfl) ⟨_, rfl, fun vs' h _ => h (fun e => by cases e), hbr, hS⟩
            | 8, _, rfl =>
              have h1 : ac.eval (.tmp 72) = .slice (some ⟨g, 0, none⟩) 16 16 := hdep 6 (by omega) (by kernel_rfl)
              have h2 : ac.eval (.tmp 73) = .int .i64 (b : Int) := hdep 7 (by omega) (by kernel_rfl)
              exact ow_index _ _ 22 45 rfl g 0 16 16 b h1 h2 hb Try.underlying45 tag22 ⟨_, rfl, fun vs' h _ => h (fun e => by cases e), hbr, hS⟩
            | 9, _, rfl =>
              have h1 : ac.eval (.tmp 74) = .pointer (some ⟨g, 0 + b, none⟩) := hdep 8 (by omega) (by kernel_rfl)
              exact ow_load_int _ 22 .u32 rfl g (0 + b) h1 _ (by rw [Nat.zero_add]; exact words_cell (HR4.out.below hS) b (by rw [HV4.out.1]; exact hb)) Try.underlying22 ⟨_, rfl, fun vs' h _ => h (fun e => by cases e), hbr, hS⟩
            | 10, _, rfl =>
              have h1 : ac.eval (.tmp 71) = .int .u32 ((v4.getD a 0 : Nat) : Int) := hdep 5 (by omega) (by kernel_rfl)
              have h2 : ac.eval (.tmp 75) = .int .u32 ((v4.getD b 0 : Nat) : Int) := hdep 9 (by omega) (by kernel_rfl)
              exact ow_add32 _ _ 22 22 _ _ rfl h1 h2 Try.underlying22 ⟨_, rfl, fun vs' h _ => h (fun e => by cases e), hbr, hS⟩
            | 11, _, rfl =>
              exact ow_move _ rfl (hag 6 rfl) ⟨_, rfl, fun vs' h _ => h (fun e => by cases e), hbr, hS⟩
            | 12, _, rfl =>
              have h1 : ac.eval (.tmp 76) = .int .u32 (((v4.getD a 0 + v4.getD b 0) % M : Nat) : Int) := hdep 10 (by omega) (by kernel_rfl)
              have h2 : ac.eval (.tmp 77) = .int .u32 (y : Int) := hdep 11 (by omega) (by kernel_rfl)
              exact ow_add32 _ _ 22 22 _ _ rfl h1 h2 Try.underlying22 ⟨_, rfl, fun vs' h _ => h (fun e => by cases e), hbr, hS⟩
            | n + 13, hi, _ => exact absurd hi (by omega)
          case fin4 =>
            intro vs W hS hF
            have e0 : vs 0 = .slice (some ⟨g, 0, none⟩) 16 16 := hF 0 (by omega)
            have e1 : vs 1 = .int .i64 (a : Int) := hF 1 (by omega)
            have e2 : vs 2 = .slice (some ⟨g, 0, none⟩) 16 16 := hF 2 (by omega)
            have e3 : vs 3 = .int .i64 (a : Int) := hF 3 (by omega)
            have e4 : vs 4 = .pointer (some ⟨g, 0 + a, none⟩) := hF 4 (by omega)
            have e5 : vs 5 = .int .u32 ((v4.getD a 0 : Nat) : Int) := hF 5 (by omega)
            have e6 : vs 6 = .slice (some ⟨g, 0, none⟩) 16 16 := hF 6 (by omega)
            have e7 : vs 7 = .int .i64 (b : Int) := hF 7 (by omega)
            have e8 : vs 8 = .pointer (some ⟨g, 0 + b, none⟩) := hF 8 (by omega)
            have e9 : vs 9 = .int .u32 ((v4.getD b 0 : Nat) : Int) := hF 9 (by omega)
            have e10 : vs 10 = .int .u32 (((v4.getD a 0 + v4.getD b 0) % M : Nat) : Int) := hF 10 (by omega)
            have e11 : vs 11 = .int .u32 (y : Int) := hF 11 (by omega)
            have e12 : vs 12 = .int .u32 ((((v4.getD a 0 + v4.getD b 0) % M + y) % M : Nat) : Int) := hF 12 (by omega)
            clear hF
            change wpList _ _ _ _ (Act.put (Act.put (Act.put (Act.put (Act.put (Act.put (Act.put (Act.put (Act.put (Act.put (Act.put (Act.put (Act.put _ (some 66) (vs 0)) (some 67) (vs 1)) (some 68) (vs 2)) (some 69) (vs 3)) (some 70) (vs 4)) (some 71) (vs 5)) (some 72) (vs 6)) (some 73) (vs 7)) (some 74) (vs 8)) (some 75) (vs 9)) (some 76) (vs 10)) (some 77) (vs 11)) (some 78) (vs 12)) W
            rw [e0, e1, e2, e3, e4, e5, e6, e7, e8, e9, e10, e11, e12]
            clear e0 e1 e2 e3 e4 e5 e6 e7 e8 e9 e10 e11 e12
            simp only [putAll, List.drop_succ_cons, List.drop_zero, Act.put, List.setIfInBounds_toArray, List.set_cons_zero, List.set_cons_succ]
            clear vs
            have hcv := words_cell (HR4.out.below hS) a (by rw [HV4.out.1]; exact ha)
            have hfz : W.frozen? ⟨g, a, none⟩ = false := frozen_of_row W g _ _ _ (HR4.out.below hS)
            have HS := Lib.hid hS
            clear hS
            obtain ⟨X, hX⟩ : ∃ X : Nat, X = ((v4.getD a 0 + v4.getD b 0) % M + y) % M := ⟨_, rfl⟩
            rw [← hX]
            have HX := Lib.hid hX
            clear hX
            go_upto_region 5 with fail
            have hgrow : w0.grownBy (W.setCell ⟨g, a, none⟩ (.int .u32 (X : Int))) (some g) := HG4.out.trans (grown_setCell (grown_of_below HS.out (some g)) _ _)
            have hrow : RowS (W.setCell ⟨g, a, none⟩ (.int .u32 (X : Int))) g (halfA v4 a b y) := by
              rw [show halfA v4 a b y = v4.set a X from by rw [HX.out, Nat.mod_add_mod]; rfl]
              exact (HR4.out.below HS.out).set a X
            obtain ⟨w5, hw5⟩ : ∃ w5, w5 = W.setCell ⟨g, a, none⟩ (.int .u32 (X : Int)) := ⟨_, rfl⟩
            rw [← hw5] at hgrow hrow ⊢
            obtain ⟨v5, hv5⟩ : ∃ v5, v5 = halfA v4 a b y := ⟨_, rfl⟩
            rw [← hv5] at hrow
            have HV5 := Lib.hid (show Wds 16 v5 by rw [hv5]; exact HV4.out.halfA a b y)
            have HR5 := Lib.hid hrow
            have HG5 := Lib.hid hgrow
            have HVN5 := Lib.hid hv5
            clear hgrow hrow hv5 hw5 hcv hfz HS HX HR4 HG4
            refine region_f 12 (fun i vs W => match i with
                | 0 => vs 0 = .slice (some ⟨g, 0, none⟩) 16 16
                | 1 => vs 1 = .int .i64 (d : Int)
                | 2 => vs 2 = .slice (some ⟨g, 0, none⟩) 16 16
                | 3 => vs 3 = .int .i64 (d : Int)
                | 4 => vs 4 = .pointer (some ⟨g, 0 + d, none⟩)
                | 5 => vs 5 = .int .u32 ((v5.getD d 0 : Nat) : Int)
                | 6 => vs 6 = .slice (some ⟨g, 0, none⟩) 16 16
                | 7 => vs 7 = .int .i64 (a : Int)
                | 8 => vs 8 = .pointer (some ⟨g, 0 + a, none⟩)
                | 9 => vs 9 = .int .u32 ((v5.getD a 0 : Nat) : Int)
                | 10 => vs 10 = .int .u32 ((v5.getD d 0 ^^^ v5.getD a 0 : Nat) : Int)
                | 11 => vs 11 = .int .u32 ((ror (v5.getD d 0 ^^^ v5.getD a 0) 8 : Nat) : Int)
                | _ => True) (fun _ W W' => Below W.heap.size W W') (fun W => Below w5.heap.size w5 W) (by kernel_rfl) (by kernel_rfl) ?hst5 ?h05 ?step5 ?fin5
            case hst5 =>
              intro i k vs W W' _ _ h hG
              match i, h with
              | 0, h => exact h
              | 1, h => exact h
              | 2, h => exact h
              | 3, h => exact h
              | 4, h => exact h
              | 5, h => exact h
              | 6, h => exact h
              | 7, h => exact h
              | 8, h => exact h
              | 9, h => exact h
              | 10, h => exact h
              | 11, h => exact h
              | n + 12, _ => trivial
            case h05 => exact (Below.refl _ _).drew
            case step5 =>
              intro i op hi ho ac W hS hag hdep
              have hbr : Below W.heap.size W W := Below.refl _ _
              match i, hi, ho with
              | 0, _, rfl =>
                exact ow_move _ rfl (hag 0 rfl) ⟨_, rfl, fun vs' h _ => h (fun e => by cases e), hbr, hS⟩
              | 1, _, rfl =>
                exact ow_move _ rfl (hag 4 rfl) ⟨_, rfl, fun vs' h _ => h (fun e => by cases e), hbr, hS⟩
              | 2, _, rfl =>
                exact ow_move _ rfl (hag 0 rfl) ⟨_, rfl, fun vs' h _ => h (fun e => by cases e), hbr, hS⟩
              | 3, _, rfl =>
                exact ow_move _ rfl (hag 4 rfl) ⟨_, rfl, fun vs' h _ => h (fun e => by cases e), hbr, hS⟩
              | 4, _, rfl =>
                have h1 : ac.eval (.tmp 82) = .slice (some ⟨g, 0, none⟩) 16 16 := hdep 2 (by omega) (by kernel_rfl)
                have h2 : ac.eval (.tmp 83) = .int .i64 (d : Int) := hdep 3 (by omega) (by kernel_rfl)
                exact ow_index _ _ 22 45 rfl g 0 16 16 d h1 h2 hd Try.underlying45 tag22 ⟨_, rfl, fun vs' h _ => h (fun e => by cases e), hbr, hS⟩
              | 5, _, rfl =>
                have h1 : ac.eval (.tmp 84) = .pointer (some ⟨g, 0 + d, none⟩) := hdep 4 (by omega) (by kernel_rfl)
                exact ow_load_int _ 22 .u32 rfl g (0 + d) h1 _ (by rw [Nat.zero_add]; exact words_cell (HR5.out.below hS) d (by rw [HV5.out.1]; exact hd)) Try.underlying22 ⟨_, rfl, fun vs' h _ => h (fun e => by cases e), hbr, hS⟩
              | 6, _, rfl =>
                exact ow_move _ rfl (hag 0 rfl) ⟨_, rfl, fun vs' h _ => h (fun e => by cases e), hbr, hS⟩
              | 7, _, rfl =>
                exact ow_move _ rfl (hag 1 rfl) ⟨_, rfl, fun vs' h _ => h (fun e => by cases e), hbr, hS⟩
              | 8, _, rfl =>
                have h1 : ac.eval (.tmp 86) = .slice (some ⟨g, 0, none⟩) 16 16 := hdep 6 (by omega) (by kernel_rfl)
                have h2 : ac.eval (.tmp 87) = .int .i64 (a : Int) := hdep 7 (by omega) (by kernel_rfl)
                exact ow_index _ _ 22 45 rfl g 0 16 16 a h1 h2 ha Try.underlying45 tag22 ⟨_, rfl, fun vs' h _ => h (fun e => by cases e), hbr, hS⟩
              | 9, _, rfl =>
                have h1 : ac.eval (.tmp 88) = .pointer (some ⟨g, 0 + a, none⟩) := hdep 8 (by omega) (by kernel_rfl)
                exact ow_load_int _ 22 .u32 rfl g (0 + a) h1 _ (by rw [Nat.zero_add]; exact words_cell (HR5.out.below hS) a (by rw [HV5.out.1]; exact ha)) Try.underlying22 ⟨_, rfl, fun vs' h _ => h (fun e => by cases e), hbr, hS⟩
              | 10, _, rfl =>
                have h1 : ac.eval (.tmp 85) = .int .u32 ((v5.getD d 0 : Nat) : Int) := hdep 5 (by omega) (by kernel_rfl)
                have h2 : ac.eval (.tmp 89) = .int .u32 ((v5.getD a 0 : Nat) : Int) := hdep 9 (by omega) (by kernel_rfl)
                exact ow_xor32 _ _ 22 22 _ _ rfl h1 h2 (getD_lt HV5.out d) (getD_lt HV5.out a) Try.underlying22 ⟨_, rfl, fun vs' h _ => h (fun e => by cases e), hbr, hS⟩
              | 11, _, rfl =>
                have h1 : ac.eval (.tmp 90) = .int .u32 ((v5.getD d 0 ^^^ v5.getD a 0 : Nat) : Int) := hdep 10 (by omega) (by kernel_rfl)
                refine ow_call Try.func31 (by kernel_rfl) rfl _ _ rfl (vs := #[.int .u32 ((v5.getD d 0 ^^^ v5.getD a 0 : Nat) : Int), .int .i64 ((8 : Nat) : Int)]) (by simp only [List.map_toArray, List.map_cons, List.map_nil, h1]; rfl) ?_
                refine (ror_any (by unfold Rot; simp : Rot 8) (v5.getD d 0 ^^^ v5.getD a 0) (xor_lt (getD_lt HV5.out d) (getD_lt HV5.out a)) W).mono ?_
                rintro e w' ⟨rfl, n, rfl⟩
                have hbb : Below W.heap.size W (W.drewN n) := ⟨rfl, rfl, rfl, Nat.le_refl _, fun _ _ => rfl⟩
                exact ⟨_, rfl, _, rfl, fun vs' h _ => h (fun e => by cases e), hbb, hS.trans (hbb.mono hS.size)⟩
              | n + 12, hi, _ => exact absurd hi (by omega)
            case fin5 =>
              intro vs W hS hF
              have e0 : vs 0 = .slice (some ⟨g, 0, none⟩) 16 16 := hF 0 (by omega)
              have e1 : vs 1 = .int .i64 (d : Int) := hF 1 (by omega)
              have e2 : vs 2 = .slice (some ⟨g, 0, none⟩) 16 16 := hF 2 (by omega)
              have e3 : vs 3 = .int .i64 (d : Int) := hF 3 (by omega)
              have e4 : vs 4 = .pointer (some ⟨g, 0 + d, none⟩) := hF 4 (by omega)
              have e5 : vs 5 = .int .u32 ((v5.getD d 0 : Nat) : Int) := hF 5 (by omega)
              have e6 : vs 6 = .slice (some ⟨g, 0, none⟩) 16 16 := hF 6 (by omega)
              have e7 : vs 7 = .int .i64 (a : Int) := hF 7 (by omega)
              have e8 : vs 8 = .pointer (some ⟨g, 0 + a, none⟩) := hF 8 (by omega)
              have e9 : vs 9 = .int .u32 ((v5.getD a 0 : Nat) : Int) := hF 9 (by omega)
              have e10 : vs 10 = .int .u32 ((v5.getD d 0 ^^^ v5.getD a 0 : Nat) : Int) := hF 10 (by omega)
              have e11 : vs 11 = .int .u32 ((ror (v5.getD d 0 ^^^ v5.getD a 0) 8 : Nat) : Int) := hF 11 (by omega)
              clear hF
              change wpList _ _ _ _ (Act.put (Act.put (Act.put (Act.put (Act.put (Act.put (Act.put (Act.put (Act.put (Act.put (Act.put (Act.put _ (some 80) (vs 0)) (some 81) (vs 1)) (some 82) (vs 2)) (some 83) (vs 3)) (some 84) (vs 4)) (some 85) (vs 5)) (some 86) (vs 6)) (some 87) (vs 7)) (some 88) (vs 8)) (some 89) (vs 9)) (some 90) (vs 10)) (some 91) (vs 11)) W
              rw [e0, e1, e2, e3, e4, e5, e6, e7, e8, e9, e10, e11]
              clear e0 e1 e2 e3 e4 e5 e6 e7 e8 e9 e10 e11
              simp only [putAll, List.drop_succ_cons, List.drop_zero, Act.put, List.setIfInBounds_toArray, List.set_cons_zero, List.set_cons_succ]
              clear vs
              have hcv := words_cell (HR5.out.below hS) d (by rw [HV5.out.1]; exact hd)
              have hfz : W.frozen? ⟨g, d, none⟩ = false := frozen_of_row W g _ _ _ (HR5.out.below hS)
              have HS := Lib.hid hS
              clear hS
              obtain ⟨X, hX⟩ : ∃ X : Nat, X = ror (v5.getD d 0 ^^^ v5.getD a 0) 8 := ⟨_, rfl⟩
              rw [← hX]
              have HX := Lib.hid hX
              clear hX
              go_upto_region 6 with fail
              have hgrow : w0.grownBy (W.setCell ⟨g, d, none⟩ (.int .u32 (X : Int))) (some g) := HG5.out.trans (grown_setCell (grown_of_below HS.out (some g)) _ _)
              have hrow : RowS (W.setCell ⟨g, d, none⟩ (.int .u32 (X : Int))) g (halfX v5 d a 8) := by
                rw [show halfX v5 d a 8 = v5.set d X from by rw [HX.out]; rfl]
                exact (HR5.out.below HS.out).set d X
              obtain ⟨w6, hw6⟩ : ∃ w6, w6 = W.setCell ⟨g, d, none⟩ (.int .u32 (X : Int)) := ⟨_, rfl⟩
              rw [← hw6] at hgrow hrow ⊢
              obtain ⟨v6, hv6⟩ : ∃ v6, v6 = halfX v5 d a 8 := ⟨_, rfl⟩
              rw [← hv6] at hrow
              have HV6 := Lib.hid (show Wds 16 v6 by rw [hv6]; exact HV5.out.halfX d a 8 (by decide))
              have HR6 := Lib.hid hrow
              have HG6 := Lib.hid hgrow
              have HVN6 := Lib.hid hv6
              clear hgrow hrow hv6 hw6 hcv hfz HS HX HR5 HG5
              refine region_f 11 (fun i vs W => match i with
                  | 0 => vs 0 = .slice (some ⟨g, 0, none⟩) 16 16
                  | 1 => vs 1 = .int .i64 (c : Int)
                  | 2 => vs 2 = .slice (some ⟨g, 0, none⟩) 16 16
                  | 3 => vs 3 = .int .i64 (c : Int)
                  | 4 => vs 4 = .pointer (some ⟨g, 0 + c, none⟩)
                  | 5 => vs 5 = .int .u32 ((v6.getD c 0 : Nat) : Int)
                  | 6 => vs 6 = .slice (some ⟨g, 0, none⟩) 16 16
                  | 7 => vs 7 = .int .i64 (d : Int)
                  | 8 => vs 8 = .pointer (some ⟨g, 0 + d, none⟩)
                  | 9 => vs 9 = .int .u32 ((v6.getD d 0 : Nat) : Int)
                  | 10 => vs 10 = .int .u32 (((v6.getD c 0 + v6.getD d 0) % M : Nat) : Int)
                  | _ => True) (fun _ W W' => Below W.heap.size W W') (fun W => Below w6.heap.size w6 W) (by kernel_rfl) (by kernel_rfl) ?hst6 ?h06 ?step6 ?fin6
              case hst6 =>
                intro i k vs W W' _ _ h hG
                match i, h with
                | 0, h => exact h
                | 1, h => exact h
                | 2, h => exact h
                | 3, h => exact h
                | 4, h => exact h
                | 5, h => exact h
                | 6, h => exact h
                | 7, h => exact h
                | 8, h => exact h
                | 9, h => exact h
                | 10, h => exact h
                | n + 11, _ => trivial
              case h06 => exact (Below.refl _ _).drew
              case step6 =>
                intro i op hi ho ac W hS hag hdep
                have hbr : Below W.heap.size W W := Below.refl _ _
                match i, hi, ho with
                | 0, _, rfl =>
                  exact ow_move _ rfl (hag 0 rfl) ⟨_, rfl, fun vs' h _ => h (fun e => by cases e), hbr, hS⟩
                | 1, _, rfl =>
                  exact ow_move _ rfl (hag 3 rfl) ⟨_, rfl, fun vs' h _ => h (fun e => by cases e), hbr, hS⟩
                | 2, _, rfl =>
                  exact ow_move _ rfl (hag 0 rfl) ⟨_, rfl, fun vs' h _ => h (fun e => by cases e), hbr, hS⟩
                | 3, _, rfl =>
                  exact ow_move _ rfl (hag 3 rfl) ⟨_, rfl, fun vs' h _ => h (fun e => by cases e), hbr, hS⟩
                | 4, _, rfl =>
                  have h1 : ac.eval (.tmp 95) = .slice (some ⟨g, 0, none⟩) 16 16 := hdep 2 (by omega) (by kernel_rfl)
                  have h2 : ac.eval (.tmp 96) = .int .i64 (c : Int) := hdep 3 (by omega) (by kernel_rfl)
                  exact ow_index _ _ 22 45 rfl g 0 16 16 c h1 h2 hc Try.underlying45 tag22 ⟨_, rfl, fun vs' h _ => h (fun e => by cases e), hbr, hS⟩
                | 5, _, rfl =>
                  have h1 : ac.eval (.tmp 97) = .pointer (some ⟨g, 0 + c, none⟩) := hdep 4 (by omega) (by kernel_rfl)
                  exact ow_load_int _ 22 .u32 rfl g (0 + c) h1 _ (by rw [Nat.zero_add]; exact words_cell (HR6.out.below hS) c (by rw [HV6.out.1]; exact hc)) Try.underlying22 ⟨_, rfl, fun vs' h _ => h (fun e => by cases e), hbr, hS⟩
                | 6, _, rfl =>
                  exact ow_move _ rfl (hag 0 rfl) ⟨_, rfl, fun vs' h _ => h (fun e => by cases e), hbr, hS⟩
                | 7, _, rfl =>
                  exact ow_move _ rfl (hag 4 rfl) ⟨_, rfl, fun vs' h _ => h (fun e => by cases e), hbr, hS⟩
                | 8, _, rfl =>
                  have h1 : ac.eval (.tmp 99) = .slice (some ⟨g, 0, none⟩) 16 16 := hdep 6 (by omega) (by kernel_rfl)
                  have h2 : ac.eval (.tmp 100) = .int .i64 (d : Int) := hdep 7 (by omega) (by kernel_rfl)
                  exact ow_index _ _ 22 45 rfl g 0 16 16 d h1 h2 hd Try.underlying45 tag22 ⟨_, rfl, fun vs' h _ => h (fun e => by cases e), hbr, hS⟩
                | 9, _, rfl =>
                  have h1 : ac.eval (.tmp 101) = .pointer (some ⟨g, 0 + d, none⟩) := hdep 8 (by omega) (by kernel_rfl)
                  exact ow_load_int _ 22 .u32 rfl g (0 + d) h1 _ (by rw [Nat.zero_add]; exact words_cell (HR6.out.below hS) d (by rw [HV6.out.1]; exact hd)) Try.underlying22 ⟨_, rfl, fun vs' h _ => h (fun e => by cases e), hbr, hS⟩
                | 10, _, rfl =>
                  have h1 : ac.eval (.tmp 98) = .int .u32 ((v6.getD c 0 : Nat) : Int) := hdep 5 (by omega) (by kernel_rfl)
                  have h2 : ac.eval (.tmp 102) = .int .u32 ((v6.getD d 0 : Nat) : Int) := hdep 9 (by omega) (by kernel_rfl)
                  exact ow_add32 _ _ 22 22 _ _ rfl h1 h2 Try.underlying22 ⟨_, rfl, fun vs' h _ => h (fun e => by cases e), hbr, hS⟩
                | n + 11, hi, _ => exact absurd hi (by omega)
              case fin6 =>
                intro vs W hS hF
                have e0 : vs 0 = .slice (some ⟨g, 0, none⟩) 16 16 := hF 0 (by omega)
                have e1 : vs 1 = .int .i64 (c : Int) := hF 1 (by omega)
                have e2 : vs 2 = .slice (some ⟨g, 0, none⟩) 16 16 := hF 2 (by omega)
                have e3 : vs 3 = .int .i64 (c : Int) := hF 3 (by omega)
                have e4 : vs 4 = .pointer (some ⟨g, 0 + c, none⟩) := hF 4 (by omega)
                have e5 : vs 5 = .int .u32 ((v6.getD c 0 : Nat) : Int) := hF 5 (by omega)
                have e6 : vs 6 = .slice (some ⟨g, 0, none⟩) 16 16 := hF 6 (by omega)
                have e7 : vs 7 = .int .i64 (d : Int) := hF 7 (by omega)
                have e8 : vs 8 = .pointer (some ⟨g, 0 + d, none⟩) := hF 8 (by omega)
                have e9 : vs 9 = .int .u32 ((v6.getD d 0 : Nat) : Int) := hF 9 (by omega)
                have e10 : vs 10 = .int .u32 (((v6.getD c 0 + v6.getD d 0) % M : Nat) : Int) := hF 10 (by omega)
                clear hF
                change wpList _ _ _ _ (Act.put (Act.put (Act.put (Act.put (Act.put (Act.put (Act.put (Act.put (Act.put (Act.put (Act.put _ (some 93) (vs 0)) (some 94) (vs 1)) (some 95) (vs 2)) (some 96) (vs 3)) (some 97) (vs 4)) (some 98) (vs 5)) (some 99) (vs 6)) (some 100) (vs 7)) (some 101) (vs 8)) (some 102) (vs 9)) (some 103) (vs 10)) W
                rw [e0, e1, e2, e3, e4, e5, e6, e7, e8, e9, e10]
                clear e0 e1 e2 e3 e4 e5 e6 e7 e8 e9 e10
                simp only [putAll, List.drop_succ_cons, List.drop_zero, Act.put, List.setIfInBounds_toArray, List.set_cons_zero, List.set_cons_succ]
                clear vs
                have hcv := words_cell (HR6.out.below hS) c (by rw [HV6.out.1]; exact hc)
                have hfz : W.frozen? ⟨g, c, none⟩ = false := frozen_of_row W g _ _ _ (HR6.out.below hS)
                have HS := Lib.hid hS
                clear hS
                obtain ⟨X, hX⟩ : ∃ X : Nat, X = (v6.getD c 0 + v6.getD d 0) % M := ⟨_, rfl⟩
                rw [← hX]
                have HX := Lib.hid hX
                clear hX
                go_upto_region 7 with fail
                have hgrow : w0.grownBy (W.setCell ⟨g, c, none⟩ (.int .u32 (X : Int))) (some g) := HG6.out.trans (grown_setCell (grown_of_below HS.out (some g)) _ _)
                have hrow : RowS (W.setCell ⟨g, c, none⟩ (.int .u32 (X : Int))) g (halfC v6 c d) := by
                  rw [show halfC v6 c d = v6.set c X from by rw [HX.out]; rfl]
                  exact (HR6.out.below HS.out).set c X
                obtain ⟨w7, hw7⟩ : ∃ w7, w7 = W.setCell ⟨g, c, none⟩ (.int .u32 (X : Int)) := ⟨_, rfl⟩
                rw [← hw7] at hgrow hrow ⊢
                obtain ⟨v7, hv7⟩ : ∃ v7, v7 = halfC v6 c d := ⟨_, rfl⟩
                rw [← hv7] at hrow
                have HV7 := Lib.hid (show Wds 16 v7 by rw [hv7]; exact HV6.out.halfC c d)
                have HR7 := Lib.hid hrow
                have HG7 := Lib.hid hgrow
                have HVN7 := Lib.hid hv7
                clear hgrow hrow hv7 hw7 hcv hfz HS HX HR6 HG6
                refine region_f 12 (fun i vs W => match i with
                    | 0 => vs 0 = .slice (some ⟨g, 0, none⟩) 16 16
                    | 1 => vs 1 = .int .i64 (b : Int)
                    | 2 => vs 2 = .slice (some ⟨g, 0, none⟩) 16 16
                    | 3 => vs 3 = .int .i64 (b : Int)
                    | 4 => vs 4 = .pointer (some ⟨g, 0 + b, none⟩)
                    | 5 => vs 5 = .int .u32 ((v7.getD b 0 : Nat) : Int)
                    | 6 => vs 6 = .slice (some ⟨g, 0, none⟩) 16 16
                    | 7 => vs 7 = .int .i64 (c : Int)
                    | 8 => vs 8 = .pointer (some ⟨g, 0 + c, none⟩)
                    | 9 => vs 9 = .int .u32 ((v7.getD c 0 : Nat) : Int)
                    | 10 => vs 10 = .int .u32 ((v7.getD b 0 ^^^ v7.getD c 0 : Nat) : Int)
                    | 11 => vs 11 = .int .u32 ((ror (v7.getD b 0 ^^^ v7.getD c 0) 7 : Nat) : Int)
                    | _ => True) (fun _ W W' => Below W.heap.size W W') (fun W => Below w7.heap.size w7 W) (by kernel_rfl) (by kernel_rfl) ?hst7 ?h07 ?step7 ?fin7
                case hst7 =>
                  intro i k vs W W' _ _ h hG
                  match i, h with
                  | 0, h => exact h
                  | 1, h => exact h
                  | 2, h => exact h
                  | 3, h => exact h
                  | 4, h => exact h
                  | 5, h => exact h
                  | 6, h => exact h
                  | 7, h => exact h
                  | 8, h => exact h
                  | 9, h => exact h
                  | 10, h => exact h
                  | 11, h => exact h
                  | n + 12, _ => trivial
                case h07 => exact (Below.refl _ _).drew
                case step7 =>
                  intro i op hi ho ac W hS hag hdep
                  have hbr : Below W.heap.size W W := Below.refl _ _
                  match i, hi, ho with
                  | 0, _, rfl =>
                    exact ow_move _ rfl (hag 0 rfl) ⟨_, rfl, fun vs' h _ => h (fun e => by cases e), hbr, hS⟩
                  | 1, _, rfl =>
                    exact ow_move _ rfl (hag 2 rfl) ⟨_, rfl, fun vs' h _ => h (fun e => by cases e), hbr, hS⟩
                  | 2, _, rfl =>
                    exact ow_move _ rfl (hag 0 rfl) ⟨_, rfl, fun vs' h _ => h (fun e => by cases e), hbr, hS⟩
                  | 3, _, rfl =>
                    exact ow_move _ rfl (hag 2 rfl) ⟨_, rfl, fun vs' h _ => h (fun e => by cases e), hbr, hS⟩
                  | 4, _, rfl =>
                    have h1 : ac.eval (.tmp 107) = .slice (some ⟨g, 0, none⟩) 16 16 := hdep 2 (by omega) (by kernel_rfl)
                    have h2 : ac.eval (.tmp 108) = .int .i64 (b : Int) := hdep 3 (by omega) (by kernel_rfl)
                    exact ow_index _ _ 22 45 rfl g 0 16 16 b h1 h2 hb Try.underlying45 tag22 ⟨_, rfl, fun vs' h _ => h (fun e => by cases e), hbr, hS⟩
                  | 5, _, rfl =>
                    have h1 : ac.eval (.tmp 109) = .pointer (some ⟨g, 0 + b, none⟩) := hdep 4 (by omega) (by kernel_rfl)
                    exact ow_load_int _ 22 .u32 rfl g (0 + b) h1 _ (by rw [Nat.zero_add]; exact words_cell (HR7.out.below hS) b (by rw [HV7.out.1]; exact hb)) Try.underlying22 ⟨_, rfl, fun vs' h _ => h (fun e => by cases e), hbr, hS⟩
                  | 6, _, rfl =>
                    exact ow_move _ rfl (hag 0 rfl) ⟨_, rfl, fun vs' h _ => h (fun e => by cases e), hbr, hS⟩
                  | 7, _, rfl =>
                    exact ow_move _ rfl (hag 3 rfl) ⟨_, rfl, fun vs' h _ => h (fun e => by cases e), hbr, hS⟩
                  | 8, _, rfl =>
                    have h1 : ac.eval (.tmp 111) = .slice (some ⟨g, 0, none⟩) 16 16 := hdep 6 (by omega) (by kernel_rfl)
                    have h2 : ac.eval (.tmp 112) = .int .i64 (c : Int) := hdep 7 (by omega) (by kernel_rfl)
                    exact ow_index _ _ 22 45 rfl g 0 16 16 c h1 h2 hc Try.underlying45 tag22 ⟨_, rfl, fun vs' h _ => h (fun e => by cases e), hbr, hS⟩
                  | 9, _, rfl =>
                    have h1 : ac.eval (.tmp 113) = .pointer (some ⟨g, 0 + c, none⟩) := hdep 8 (by omega) (by kernel_rfl)
                    exact ow_load_int _ 22 .u32 rfl g (0 + c) h1 _ (by rw [Nat.zero_add]; exact words_cell (HR7.out.below hS) c (by rw [HV7.out.1]; exact hc)) Try.underlying22 ⟨_, rfl, fun vs' h _ => h (fun e => by cases e), hbr, hS⟩
                  | 10, _, rfl =>
                    have h1 : ac.eval (.tmp 110) = .int .u32 ((v7.getD b 0 : Nat) : Int) := hdep 5 (by omega) (by kernel_rfl)
                    have h2 : ac.eval (.tmp 114) = .int .u32 ((v7.getD c 0 : Nat) : Int) := hdep 9 (by omega) (by kernel_rfl)
                    exact ow_xor32 _ _ 22 22 _ _ rfl h1 h2 (getD_lt HV7.out b) (getD_lt HV7.out c) Try.underlying22 ⟨_, rfl, fun vs' h _ => h (fun e => by cases e), hbr, hS⟩
                  | 11, _, rfl =>
                    have h1 : ac.eval (.tmp 115) = .int .u32 ((v7.getD b 0 ^^^ v7.getD c 0 : Nat) : Int) := hdep 10 (by omega) (by kernel_rfl)
                    refine ow_call Try.func31 (by kernel_rfl) rfl _ _ rfl (vs := #[.int .u32 ((v7.getD b 0 ^^^ v7.getD c 0 : Nat) : Int), .int .i64 ((7 : Nat) : Int)]) (by simp only [List.map_toArray, List.map_cons, List.map_nil, h1]; rfl) ?_
                    refine (ror_any (by unfold Rot; simp : Rot 7) (v7.getD b 0 ^^^ v7.getD c 0) (xor_lt (getD_lt HV7.out b) (getD_lt HV7.out c)) W).mono ?_
                    rintro e w' ⟨rfl, n, rfl⟩
                    have hbb : Below W.heap.size W (W.drewN n) := ⟨rfl, rfl, rfl, Nat.le_refl _, fun _ _ => rfl⟩
                    exact ⟨_, rfl, _, rfl, fun vs' h _ => h (fun e => by cases e), hbb, hS.trans (hbb.mono hS.size)⟩
                  | n + 12, hi, _ => exact absurd hi (by omega)
                case fin7 =>
                  intro vs W hS hF
                  have e0 : vs 0 = .slice (some ⟨g, 0, none⟩) 16 16 := hF 0 (by omega)
                  have e1 : vs 1 = .int .i64 (b : Int) := hF 1 (by omega)
                  have e2 : vs 2 = .slice (some ⟨g, 0, none⟩) 16 16 := hF 2 (by omega)
                  have e3 : vs 3 = .int .i64 (b : Int) := hF 3 (by omega)
                  have e4 : vs 4 = .pointer (some ⟨g, 0 + b, none⟩) := hF 4 (by omega)
                  have e5 : vs 5 = .int .u32 ((v7.getD b 0 : Nat) : Int) := hF 5 (by omega)
                  have e6 : vs 6 = .slice (some ⟨g, 0, none⟩) 16 16 := hF 6 (by omega)
                  have e7 : vs 7 = .int .i64 (c : Int) := hF 7 (by omega)
                  have e8 : vs 8 = .pointer (some ⟨g, 0 + c, none⟩) := hF 8 (by omega)
                  have e9 : vs 9 = .int .u32 ((v7.getD c 0 : Nat) : Int) := hF 9 (by omega)
                  have e10 : vs 10 = .int .u32 ((v7.getD b 0 ^^^ v7.getD c 0 : Nat) : Int) := hF 10 (by omega)
                  have e11 : vs 11 = .int .u32 ((ror (v7.getD b 0 ^^^ v7.getD c 0) 7 : Nat) : Int) := hF 11 (by omega)
                  clear hF
                  change wpList _ _ _ _ (Act.put (Act.put (Act.put (Act.put (Act.put (Act.put (Act.put (Act.put (Act.put (Act.put (Act.put (Act.put _ (some 105) (vs 0)) (some 106) (vs 1)) (some 107) (vs 2)) (some 108) (vs 3)) (some 109) (vs 4)) (some 110) (vs 5)) (some 111) (vs 6)) (some 112) (vs 7)) (some 113) (vs 8)) (some 114) (vs 9)) (some 115) (vs 10)) (some 116) (vs 11)) W
                  rw [e0, e1, e2, e3, e4, e5, e6, e7, e8, e9, e10, e11]
                  clear e0 e1 e2 e3 e4 e5 e6 e7 e8 e9 e10 e11
                  simp only [putAll, List.drop_succ_cons, List.drop_zero, Act.put, List.setIfInBounds_toArray, List.set_cons_zero, List.set_cons_succ]
                  clear vs
                  have hcv := words_cell (HR7.out.below hS) b (by rw [HV7.out.1]; exact hb)
                  have hfz : W.frozen? ⟨g, b, none⟩ = false := frozen_of_row W g _ _ _ (HR7.out.below hS)
                  have HS := Lib.hid hS
                  clear hS
                  obtain ⟨X, hX⟩ : ∃ X : Nat, X = ror (v7.getD b 0 ^^^ v7.getD c 0) 7 := ⟨_, rfl⟩
                  rw [← hX]
                  have HX := Lib.hid hX
                  clear hX
                  go_wp2_with fail
                  have hgrow : w0.grownBy (W.setCell ⟨g, b, none⟩ (.int .u32 (X : Int))) (some g) := HG7.out.trans (grown_setCell (grown_of_below HS.out (some g)) _ _)
                  have hrow : RowS (W.setCell ⟨g, b, none⟩ (.int .u32 (X : Int))) g (halfX v7 b c 7) := by
                    rw [show halfX v7 b c 7 = v7.set b X from by rw [HX.out]; rfl]
                    exact (HR7.out.below HS.out).set b X
                  go_end0
                  refine ⟨rfl, ?_, hgrow⟩
                  rw [HVN7.out, HVN6.out, HVN5.out, HVN4.out, HVN3.out, HVN2.out, HVN1.out] at hrow
                  exact hrow
end Go.Proofs.Ytnemclbeofiakaa
