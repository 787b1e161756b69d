/-
  digest.stir's closure.
-/
import Derived.Test.YtnemclbeofiakaaWe
namespace Go.Proofs.Ytnemclbeofiakaa
open Go.RowKit Bl

/-- a variable that holds the address of word i of row g -/
def PtrAt (w : World) (p g i : Nat) : Prop := w.heap[p]? = some (.cells #[.pointer (some ⟨g, i, none⟩)] 73 (0, 0))
theorem PtrAt.cell {w : World} {p g i : Nat} (h : PtrAt w p g i) : w.cell? ⟨p, 0, none⟩ = some (.pointer (some ⟨g, i, none⟩)) := cell_of_row w p 0 _ _ _ h
theorem PtrAt.below {w w' : World} {p g i : Nat} (h : PtrAt w p g i) (hb : Below w.heap.size w w') : PtrAt w' p g i := blk_below h hb
theorem PtrAt.set {w : World} {p g i : Nat} (h : PtrAt w p g i) {b j : Nat} {cs : Array Value} (hb : w.heap[b]? = some (.cells cs 57 (0, 0))) (x : Value) : PtrAt (w.setCell ⟨b, j, none⟩ x) p g i := by
  have hne : p ≠ b := by
    rintro rfl
    rw [h] at hb
    injection hb with hb
    injection hb with _ hb
    cases hb
  exact (Below.heap_setCell w ⟨b, j, none⟩ x p (fun e => hne e)).trans h
/-- a row of sixteen words -/
def RowAt (w : World) (g : Nat) (v : List Nat) : Prop := w.heap[g]? = some (.cells (wordsV v).toArray 57 (0, 0))
theorem RowAt.below {w w' : World} {g : Nat} {v : List Nat} (h : RowAt w g v) (hb : Below w.heap.size w w') : RowAt w' g v := blk_below h hb
theorem RowAt.set {w : World} {g : Nat} {v : List Nat} (h : RowAt w g v) (i x : Nat) : RowAt (w.setCell ⟨g, i, none⟩ (.int .u32 (x : Int))) g (v.set i x) := by
  have := blk_setCell (i := i) h (.int .u32 (x : Int))
  rw [wordsV_set] at this
  exact this
theorem add3 (a b x : Nat) : (a + (b + x) % M) % M = (a + b + x) % M := by unfold M; omega

set_option maxHeartbeats 1000000 in
theorem turn_any (g pa pb pc pd a b c d x r s : Nat) (v : List Nat) (hv : Wds 16 v) (ha : a < 16) (hb : b < 16) (hc : c < 16) (hd : d < 16) (_hx : x < M) (hr : Rot r) (hs : Rot s) (w : World) (hg : RowAt w g v)
    (ha' : PtrAt w pa g a) (hb' : PtrAt w pb g b) (hc' : PtrAt w pc g c) (hd' : PtrAt w pd g d) :
    Calls Try.prog 35 #[.int .u32 (x : Int), .int .i64 (r : Int), .int .i64 (s : Int), .pointer (some ⟨pa, 0, none⟩), .pointer (some ⟨pb, 0, none⟩), .pointer (some ⟨pd, 0, none⟩), .pointer (some ⟨pc, 0, none⟩)] w
      fun e w' => e = .returned (.tuple #[]) ∧ RowAt w' g (half v a b c d x r s) ∧ w.grownBy w' (some g) := by
  have HV := Lib.hid hv
  have HG := Lib.hid hg
  have HA := Lib.hid ha'
  have HB := Lib.hid hb'
  have HC := Lib.hid hc'
  have HD := Lib.hid hd'
  clear hv hg ha' hb' hc' hd'
  go_enter Try.func35, Try.ntmps35
  go_wp2_with fail
  refine region_f 9 (fun i vs W => match i with
      | 0 => vs 0 = .pointer (some ⟨g, a, none⟩)
      | 1 => vs 1 = .pointer (some ⟨g, a, none⟩)
      | 2 => vs 2 = .int .u32 ((v.getD a 0 : Nat) : Int)
      | 3 => vs 3 = .pointer (some ⟨g, b, none⟩)
      | 4 => vs 4 = .pointer (some ⟨g, b, none⟩)
      | 5 => vs 5 = .int .u32 ((v.getD b 0 : Nat) : Int)
      | 6 => vs 6 = .int .u32 (x : Int)
      | 7 => vs 7 = .int .u32 (((v.getD b 0 + x) % M : Nat) : Int)
      | 8 => vs 8 = .int .u32 (((v.getD a 0 + (v.getD b 0 + x) % M) % M : Nat) : Int)
      | _ => True) (fun _ W W' => Below W.heap.size W W') (fun W => Below w.heap.size w W) (by kernel_rfl) (by kernel_rfl) (fun i k vs w w' _ _ h _ => h) ?h0A ?stepA ?finA
  case h0A => exact (Below.refl _ _).drew
  case stepA =>
    intro i op hi ho ac W hS hag hdep
    have hbr : Below W.heap.size W W := Below.refl _ _
    match i, hi, ho with
    | 0, _, rfl =>
      exact ow_load_ptr _ 73 22 rfl pa 0 (hag 3 rfl) _ (HA.out.below hS).cell Try.underlying73 ⟨_, rfl, fun vs' h _ => h (fun e => by cases e), hbr, hS⟩
    | 1, _, rfl =>
      have h1 : ac.eval (.tmp 10) = .pointer (some ⟨g, a, none⟩) := hdep 0 (by omega) (by kernel_rfl)
      exact ow_nilCheck _ rfl _ h1 ⟨_, rfl, fun vs' h _ => h (fun e => by cases e), hbr, hS⟩
    | 2, _, rfl =>
      have h1 : ac.eval (.tmp 11) = .pointer (some ⟨g, a, none⟩) := hdep 1 (by omega) (by kernel_rfl)
      exact ow_load_int _ 22 .u32 rfl g a h1 _ (words_cell (HG.out.below hS) _ (by rw [HV.out.1]; exact ha)) Try.underlying22 ⟨_, rfl, fun vs' h _ => h (fun e => by cases e), hbr, hS⟩
    | 3, _, rfl =>
      exact ow_load_ptr _ 73 22 rfl pb 0 (hag 4 rfl) _ (HB.out.below hS).cell Try.underlying73 ⟨_, rfl, fun vs' h _ => h (fun e => by cases e), hbr, hS⟩
    | 4, _, rfl =>
      have h1 : ac.eval (.tmp 13) = .pointer (some ⟨g, b, none⟩) := hdep 3 (by omega) (by kernel_rfl)
      exact ow_nilCheck _ rfl _ h1 ⟨_, rfl, fun vs' h _ => h (fun e => by cases e), hbr, hS⟩
    | 5, _, rfl =>
      have h1 : ac.eval (.tmp 14) = .pointer (some ⟨g, b, none⟩) := hdep 4 (by omega) (by kernel_rfl)
      exact ow_load_int _ 22 .u32 rfl g b h1 _ (words_cell (HG.out.below hS) _ (by rw [HV.out.1]; exact hb)) Try.underlying22 ⟨_, rfl, fun vs' h _ => h (fun e => by cases e), hbr, hS⟩
    | 6, _, rfl =>
      exact ow_move _ rfl (hag 0 rfl) ⟨_, rfl, fun vs' h _ => h (fun e => by cases e), hbr, hS⟩
    | 7, _, rfl =>
      have h1 : ac.eval (.tmp 15) = .int .u32 ((v.getD b 0 : Nat) : Int) := hdep 5 (by omega) (by kernel_rfl)
      have h2 : ac.eval (.tmp 16) = .int .u32 (x : Int) := hdep 6 (by omega) (by kernel_rfl)
      exact ow_add32 _ _ 22 22 _ _ rfl h1 h2 Try.underlying22 ⟨_, rfl, fun vs' h _ => h (fun e => by cases e), hbr, hS⟩
    | 8, _, rfl =>
      have h1 : ac.eval (.tmp 12) = .int .u32 ((v.getD a 0 : Nat) : Int) := hdep 2 (by omega) (by kernel_rfl)
      have h2 : ac.eval (.tmp 17) = .int .u32 (((v.getD b 0 + x) % M : Nat) : Int) := hdep 7 (by omega) (by kernel_rfl)
      exact ow_add32 _ _ 22 22 _ _ rfl h1 h2 Try.underlying22 ⟨_, rfl, fun vs' h _ => h (fun e => by cases e), hbr, hS⟩
    | n + 9, hi, _ => exact absurd hi (by omega)
  case finA =>
    intro vs W hS hF
    have e0 : vs 0 = .pointer (some ⟨g, a, none⟩) := hF 0 (by omega)
    have e1 : vs 1 = .pointer (some ⟨g, a, none⟩) := hF 1 (by omega)
    have e2 : vs 2 = .int .u32 ((v.getD a 0 : Nat) : Int) := hF 2 (by omega)
    have e3 : vs 3 = .pointer (some ⟨g, b, none⟩) := hF 3 (by omega)
    have e4 : vs 4 = .pointer (some ⟨g, b, none⟩) := hF 4 (by omega)
    have e5 : vs 5 = .int .u32 ((v.getD b 0 : Nat) : Int) := hF 5 (by omega)
    have e6 : vs 6 = .int .u32 (x : Int) := hF 6 (by omega)
    have e7 : vs 7 = .int .u32 (((v.getD b 0 + x) % M : Nat) : Int) := hF 7 (by omega)
    have e8 : vs 8 = .int .u32 (((v.getD a 0 + (v.getD b 0 + x) % M) % M : Nat) : Int) := hF 8 (by omega)
    clear hF
    change wpList _ _ _ _ (Act.put (Act.put (Act.put (Act.put (Act.put (Act.put (Act.put (Act.put (Act.put _ (some 10) (vs 0)) (some 11) (vs 1)) (some 12) (vs 2)) (some 13) (vs 3)) (some 14) (vs 4)) (some 15) (vs 5)) (some 16) (vs 6)) (some 17) (vs 7)) (some 18) (vs 8)) W
    rw [e0, e1, e2, e3, e4, e5, e6, e7, e8]
    clear e0 e1 e2 e3 e4 e5 e6 e7 e8
    simp only [putAll, List.drop_succ_cons, List.drop_zero, Act.put, List.setIfInBounds_toArray, List.set_cons_zero, List.set_cons_succ]
    clear vs
    have hcv := words_cell (HG.out.below hS) a (by rw [HV.out.1]; exact ha)
    have hfz : W.frozen? ⟨g, a, none⟩ = false := frozen_of_row W g _ _ _ (HG.out.below hS)
    have HS := Lib.hid hS
    clear hS
    obtain ⟨X, hX⟩ : ∃ X : Nat, X = (v.getD a 0 + (v.getD b 0 + x) % M) % M := ⟨_, rfl⟩
    rw [← hX]
    have HX := Lib.hid hX
    clear hX
    go_wp2_with fail
    have hgrow : w.grownBy (W.setCell ⟨g, a, none⟩ (.int .u32 (X : Int))) (some g) := grown_setCell (grown_of_below HS.out (some g)) _ _
    have hrow := (HG.out.below HS.out).set a X
    have hpa := (HA.out.below HS.out).set (j := a) (HG.out.below HS.out) (.int .u32 (X : Int))
    have hpb := (HB.out.below HS.out).set (j := a) (HG.out.below HS.out) (.int .u32 (X : Int))
    have hpc := (HC.out.below HS.out).set (j := a) (HG.out.below HS.out) (.int .u32 (X : Int))
    have hpd := (HD.out.below HS.out).set (j := a) (HG.out.below HS.out) (.int .u32 (X : Int))
    obtain ⟨w1, hw⟩ : ∃ w1, w1 = W.setCell ⟨g, a, none⟩ (.int .u32 (X : Int)) := ⟨_, rfl⟩
    rw [← hw] at hgrow hrow hpa hpb hpc hpd ⊢
    clear hw
    have hv1 : v.set a X = halfA v a b x := by unfold halfA; rw [HX.out, add3]
    rw [hv1] at hrow
    have hwd := HV.out.halfA a b x
    obtain ⟨v1, hvn⟩ : ∃ v1, v1 = halfA v a b x := ⟨_, rfl⟩
    rw [← hvn] at hrow hwd
    have HVNv1 := Lib.hid hvn
    clear HV HG HA HB HC HD HS HX hv1 hvn hcv hfz 
    have HV := Lib.hid hwd
    have HG := Lib.hid hrow
    have HA := Lib.hid hpa
    have HB := Lib.hid hpb
    have HC := Lib.hid hpc
    have HD := Lib.hid hpd
    have HGRv1 := Lib.hid hgrow
    clear hwd hrow hpa hpb hpc hpd hgrow
    refine region_f 11 (fun i vs W => match i with
        | 0 => vs 0 = .pointer (some ⟨g, d, none⟩)
        | 1 => vs 1 = .pointer (some ⟨g, d, none⟩)
        | 2 => vs 2 = .pointer (some ⟨g, d, none⟩)
        | 3 => vs 3 = .int .u32 ((v1.getD d 0 : Nat) : Int)
        | 4 => vs 4 = .pointer (some ⟨g, a, none⟩)
        | 5 => vs 5 = .pointer (some ⟨g, a, none⟩)
        | 6 => vs 6 = .int .u32 ((v1.getD a 0 : Nat) : Int)
        | 7 => vs 7 = .int .u32 ((v1.getD d 0 ^^^ v1.getD a 0 : Nat) : Int)
        | 8 => vs 8 = .int .i64 (r : Int)
        | 9 => vs 9 = .int .i64 (-(r : Int))
        | 10 => vs 10 = .int .u32 ((ror (v1.getD d 0 ^^^ v1.getD a 0) r : Nat) : Int)
        | _ => True) (fun _ W W' => Below W.heap.size W W') (fun W => Below w1.heap.size w1 W) (by kernel_rfl) (by kernel_rfl) (fun i k vs w w' _ _ h _ => h) ?h0B ?stepB ?finB
    case h0B => exact (Below.refl _ _).drew
    case stepB =>
      intro i op hi ho ac W hS hag hdep
      have hbr : Below W.heap.size W W := Below.refl _ _
      match i, hi, ho with
      | 0, _, rfl =>
        exact ow_load_ptr _ 73 22 rfl pd 0 (hag 5 rfl) _ (HD.out.below hS).cell Try.underlying73 ⟨_, rfl, fun vs' h _ => h (fun e => by cases e), hbr, hS⟩
      | 1, _, rfl =>
        exact ow_load_ptr _ 73 22 rfl pd 0 (hag 5 rfl) _ (HD.out.below hS).cell Try.underlying73 ⟨_, rfl, fun vs' h _ => h (fun e => by cases e), hbr, hS⟩
      | 2, _, rfl =>
        have h1 : ac.eval (.tmp 21) = .pointer (some ⟨g, d, none⟩) := hdep 1 (by omega) (by kernel_rfl)
        exact ow_nilCheck _ rfl _ h1 ⟨_, rfl, fun vs' h _ => h (fun e => by cases e), hbr, hS⟩
      | 3, _, rfl =>
        have h1 : ac.eval (.tmp 22) = .pointer (some ⟨g, d, none⟩) := hdep 2 (by omega) (by kernel_rfl)
        exact ow_load_int _ 22 .u32 rfl g d h1 _ (words_cell (HG.out.below hS) _ (by rw [HV.out.1]; exact hd)) Try.underlying22 ⟨_, rfl, fun vs' h _ => h (fun e => by cases e), hbr, hS⟩
      | 4, _, rfl =>
        exact ow_load_ptr _ 73 22 rfl pa 0 (hag 3 rfl) _ (HA.out.below hS).cell Try.underlying73 ⟨_, rfl, fun vs' h _ => h (fun e => by cases e), hbr, hS⟩
      | 5, _, rfl =>
        have h1 : ac.eval (.tmp 24) = .pointer (some ⟨g, a, none⟩) := hdep 4 (by omega) (by kernel_rfl)
        exact ow_nilCheck _ rfl _ h1 ⟨_, rfl, fun vs' h _ => h (fun e => by cases e), hbr, hS⟩
      | 6, _, rfl =>
        have h1 : ac.eval (.tmp 25) = .pointer (some ⟨g, a, none⟩) := hdep 5 (by omega) (by kernel_rfl)
        exact ow_load_int _ 22 .u32 rfl g a h1 _ (words_cell (HG.out.below hS) _ (by rw [HV.out.1]; exact ha)) Try.underlying22 ⟨_, rfl, fun vs' h _ => h (fun e => by cases e), hbr, hS⟩
      | 7, _, rfl =>
        have h1 : ac.eval (.tmp 23) = .int .u32 ((v1.getD d 0 : Nat) : Int) := hdep 3 (by omega) (by kernel_rfl)
        have h2 : ac.eval (.tmp 26) = .int .u32 ((v1.getD a 0 : Nat) : Int) := hdep 6 (by omega) (by kernel_rfl)
        exact ow_xor32 _ _ 22 22 _ _ rfl h1 h2 (getD_lt HV.out _) (getD_lt HV.out _) Try.underlying22 ⟨_, rfl, fun vs' h _ => h (fun e => by cases e), hbr, hS⟩
      | 8, _, rfl =>
        exact ow_move _ rfl (hag 1 rfl) ⟨_, rfl, fun vs' h _ => h (fun e => by cases e), hbr, hS⟩
      | 9, _, rfl =>
        have h1 : ac.eval (.tmp 28) = .int .i64 (r : Int) := hdep 8 (by omega) (by kernel_rfl)
        exact ow_neg _ 3 _ rfl h1 hr.bd Try.underlying3 ⟨_, rfl, fun vs' h _ => h (fun e => by cases e), hbr, hS⟩
      | 10, _, rfl =>
        have h1 : ac.eval (.tmp 27) = .int .u32 ((v1.getD d 0 ^^^ v1.getD a 0 : Nat) : Int) := hdep 7 (by omega) (by kernel_rfl)
        have h2 : ac.eval (.tmp 29) = .int .i64 (-(r : Int)) := hdep 9 (by omega) (by kernel_rfl)
        refine ow_call Try.func36 (by kernel_rfl) rfl _ _ rfl (vs := #[.int .u32 ((v1.getD d 0 ^^^ v1.getD a 0 : Nat) : Int), .int .i64 (-(r : Int))]) (by simp only [List.map_toArray, List.map_cons, List.map_nil, h1, h2]) ?_
        refine (rot_any hr _ (xor_lt (getD_lt HV.out _) (getD_lt HV.out _)) W).mono ?_
        rintro e w' ⟨rfl, rfl⟩
        exact ⟨_, rfl, _, rfl, fun vs' h _ => h (fun e => by cases e), hbr, hS⟩
      | n + 11, hi, _ => exact absurd hi (by omega)
    case finB =>
      intro vs W hS hF
      have e0 : vs 0 = .pointer (some ⟨g, d, none⟩) := hF 0 (by omega)
      have e1 : vs 1 = .pointer (some ⟨g, d, none⟩) := hF 1 (by omega)
      have e2 : vs 2 = .pointer (some ⟨g, d, none⟩) := hF 2 (by omega)
      have e3 : vs 3 = .int .u32 ((v1.getD d 0 : Nat) : Int) := hF 3 (by omega)
      have e4 : vs 4 = .pointer (some ⟨g, a, none⟩) := hF 4 (by omega)
      have e5 : vs 5 = .pointer (some ⟨g, a, none⟩) := hF 5 (by omega)
      have e6 : vs 6 = .int .u32 ((v1.getD a 0 : Nat) : Int) := hF 6 (by omega)
      have e7 : vs 7 = .int .u32 ((v1.getD d 0 ^^^ v1.getD a 0 : Nat) : Int) := hF 7 (by omega)
      have e8 : vs 8 = .int .i64 (r : Int) := hF 8 (by omega)
      have e9 : vs 9 = .int .i64 (-(r : Int)) := hF 9 (by omega)
      have e10 : vs 10 = .int .u32 ((ror (v1.getD d 0 ^^^ v1.getD a 0) r : Nat) : Int) := hF 10 (by omega)
      clear hF
      change wpList _ _ _ _ (Act.put (Act.put (Act.put (Act.put (Act.put (Act.put (Act.put (Act.put (Act.put (Act.put (Act.put _ (some 20) (vs 0)) (some 21) (vs 1)) (some 22) (vs 2)) (some 23) (vs 3)) (some 24) (vs 4)) (some 25) (vs 5)) (some 26) (vs 6)) (some 27) (vs 7)) (some 28) (vs 8)) (some 29) (vs 9)) (some 30) (vs 10)) W
      rw [e0, e1, e2, e3, e4, e5, e6, e7, e8, e9, e10]
      clear e0 e1 e2 e3 e4 e5 e6 e7 e8 e9 e10
      simp only [putAll, List.drop_succ_cons, List.drop_zero, Act.put, List.setIfInBounds_toArray, List.set_cons_zero, List.set_cons_succ]
      clear vs
      have hcv := words_cell (HG.out.below hS) d (by rw [HV.out.1]; exact hd)
      have hfz : W.frozen? ⟨g, d, none⟩ = false := frozen_of_row W g _ _ _ (HG.out.below hS)
      have HS := Lib.hid hS
      clear hS
      obtain ⟨X, hX⟩ : ∃ X : Nat, X = ror (v1.getD d 0 ^^^ v1.getD a 0) r := ⟨_, rfl⟩
      rw [← hX]
      have HX := Lib.hid hX
      clear hX
      go_wp2_with fail
      have hgrow : w1.grownBy (W.setCell ⟨g, d, none⟩ (.int .u32 (X : Int))) (some g) := grown_setCell (grown_of_below HS.out (some g)) _ _
      have hrow := (HG.out.below HS.out).set d X
      have hpa := (HA.out.below HS.out).set (j := d) (HG.out.below HS.out) (.int .u32 (X : Int))
      have hpb := (HB.out.below HS.out).set (j := d) (HG.out.below HS.out) (.int .u32 (X : Int))
      have hpc := (HC.out.below HS.out).set (j := d) (HG.out.below HS.out) (.int .u32 (X : Int))
      have hpd := (HD.out.below HS.out).set (j := d) (HG.out.below HS.out) (.int .u32 (X : Int))
      obtain ⟨w2, hw⟩ : ∃ w2, w2 = W.setCell ⟨g, d, none⟩ (.int .u32 (X : Int)) := ⟨_, rfl⟩
      rw [← hw] at hgrow hrow hpa hpb hpc hpd ⊢
      clear hw
      have hv1 : v1.set d X = halfX v1 d a r := by unfold halfX; rw [HX.out]
      rw [hv1] at hrow
      have hwd := HV.out.halfX d a r hr.le
      obtain ⟨v2, hvn⟩ : ∃ v2, v2 = halfX v1 d a r := ⟨_, rfl⟩
      rw [← hvn] at hrow hwd
      have HVNv2 := Lib.hid hvn
      clear HV HG HA HB HC HD HS HX hv1 hvn hcv hfz 
      have HV := Lib.hid hwd
      have HG := Lib.hid hrow
      have HA := Lib.hid hpa
      have HB := Lib.hid hpb
      have HC := Lib.hid hpc
      have HD := Lib.hid hpd
      have HGRv2 := Lib.hid hgrow
      clear hwd hrow hpa hpb hpc hpd hgrow
      refine region_f 7 (fun i vs W => match i with
          | 0 => vs 0 = .pointer (some ⟨g, c, none⟩)
          | 1 => vs 1 = .pointer (some ⟨g, c, none⟩)
          | 2 => vs 2 = .int .u32 ((v2.getD c 0 : Nat) : Int)
          | 3 => vs 3 = .pointer (some ⟨g, d, none⟩)
          | 4 => vs 4 = .pointer (some ⟨g, d, none⟩)
          | 5 => vs 5 = .int .u32 ((v2.getD d 0 : Nat) : Int)
          | 6 => vs 6 = .int .u32 (((v2.getD c 0 + v2.getD d 0) % M : Nat) : Int)
          | _ => True) (fun _ W W' => Below W.heap.size W W') (fun W => Below w2.heap.size w2 W) (by kernel_rfl) (by kernel_rfl) (fun i k vs w w' _ _ h _ => h) ?h0C ?stepC ?finC
      case h0C => exact (Below.refl _ _).drew
      case stepC =>
        intro i op hi ho ac W hS hag hdep
        have hbr : Below W.heap.size W W := Below.refl _ _
        match i, hi, ho with
        | 0, _, rfl =>
          exact ow_load_ptr _ 73 22 rfl pc 0 (hag 6 rfl) _ (HC.out.below hS).cell Try.underlying73 ⟨_, rfl, fun vs' h _ => h (fun e => by cases e), hbr, hS⟩
        | 1, _, rfl =>
          have h1 : ac.eval (.tmp 32) = .pointer (some ⟨g, c, none⟩) := hdep 0 (by omega) (by kernel_rfl)
          exact ow_nilCheck _ rfl _ h1 ⟨_, rfl, fun vs' h _ => h (fun e => by cases e), hbr, hS⟩
        | 2, _, rfl =>
          have h1 : ac.eval (.tmp 33) = .pointer (some ⟨g, c, none⟩) := hdep 1 (by omega) (by kernel_rfl)
          exact ow_load_int _ 22 .u32 rfl g c h1 _ (words_cell (HG.out.below hS) _ (by rw [HV.out.1]; exact hc)) Try.underlying22 ⟨_, rfl, fun vs' h _ => h (fun e => by cases e), hbr, hS⟩
        | 3, _, rfl =>
          exact ow_load_ptr _ 73 22 rfl pd 0 (hag 5 rfl) _ (HD.out.below hS).cell Try.underlying73 ⟨_, rfl, fun vs' h _ => h (fun e => by cases e), hbr, hS⟩
        | 4, _, rfl =>
          have h1 : ac.eval (.tmp 35) = .pointer (some ⟨g, d, none⟩) := hdep 3 (by omega) (by kernel_rfl)
          exact ow_nilCheck _ rfl _ h1 ⟨_, rfl, fun vs' h _ => h (fun e => by cases e), hbr, hS⟩
        | 5, _, rfl =>
          have h1 : ac.eval (.tmp 36) = .pointer (some ⟨g, d, none⟩) := hdep 4 (by omega) (by kernel_rfl)
          exact ow_load_int _ 22 .u32 rfl g d h1 _ (words_cell (HG.out.below hS) _ (by rw [HV.out.1]; exact hd)) Try.underlying22 ⟨_, rfl, fun vs' h _ => h (fun e => by cases e), hbr, hS⟩
        | 6, _, rfl =>
          have h1 : ac.eval (.tmp 34) = .int .u32 ((v2.getD c 0 : Nat) : Int) := hdep 2 (by omega) (by kernel_rfl)
          have h2 : ac.eval (.tmp 37) = .int .u32 ((v2.getD d 0 : Nat) : Int) := hdep 5 (by omega) (by kernel_rfl)
          exact ow_add32 _ _ 22 22 _ _ rfl h1 h2 Try.underlying22 ⟨_, rfl, fun vs' h _ => h (fun e => by cases e), hbr, hS⟩
        | n + 7, hi, _ => exact absurd hi (by omega)
      case finC =>
        intro vs W hS hF
        have e0 : vs 0 = .pointer (some ⟨g, c, none⟩) := hF 0 (by omega)
        have e1 : vs 1 = .pointer (some ⟨g, c, none⟩) := hF 1 (by omega)
        have e2 : vs 2 = .int .u32 ((v2.getD c 0 : Nat) : Int) := hF 2 (by omega)
        have e3 : vs 3 = .pointer (some ⟨g, d, none⟩) := hF 3 (by omega)
        have e4 : vs 4 = .pointer (some ⟨g, d, none⟩) := hF 4 (by omega)
        have e5 : vs 5 = .int .u32 ((v2.getD d 0 : Nat) : Int) := hF 5 (by omega)
        have e6 : vs 6 = .int .u32 (((v2.getD c 0 + v2.getD d 0) % M : Nat) : Int) := hF 6 (by omega)
        clear hF
        change wpList _ _ _ _ (Act.put (Act.put (Act.put (Act.put (Act.put (Act.put (Act.put _ (some 32) (vs 0)) (some 33) (vs 1)) (some 34) (vs 2)) (some 35) (vs 3)) (some 36) (vs 4)) (some 37) (vs 5)) (some 38) (vs 6)) W
        rw [e0, e1, e2, e3, e4, e5, e6]
        clear e0 e1 e2 e3 e4 e5 e6
        simp only [putAll, List.drop_succ_cons, List.drop_zero, Act.put, List.setIfInBounds_toArray, List.set_cons_zero, List.set_cons_succ]
        clear vs
        have hcv := words_cell (HG.out.below hS) c (by rw [HV.out.1]; exact hc)
        have hfz : W.frozen? ⟨g, c, none⟩ = false := frozen_of_row W g _ _ _ (HG.out.below hS)
        have HS := Lib.hid hS
        clear hS
        obtain ⟨X, hX⟩ : ∃ X : Nat, X = (v2.getD c 0 + v2.getD d 0) % M := ⟨_, rfl⟩
        rw [← hX]
        have HX := Lib.hid hX
        clear hX
        go_wp2_with fail
        have hgrow : w2.grownBy (W.setCell ⟨g, c, none⟩ (.int .u32 (X : Int))) (some g) := grown_setCell (grown_of_below HS.out (some g)) _ _
        have hrow := (HG.out.below HS.out).set c X
        have hpa := (HA.out.below HS.out).set (j := c) (HG.out.below HS.out) (.int .u32 (X : Int))
        have hpb := (HB.out.below HS.out).set (j := c) (HG.out.below HS.out) (.int .u32 (X : Int))
        have hpc := (HC.out.below HS.out).set (j := c) (HG.out.below HS.out) (.int .u32 (X : Int))
        have hpd := (HD.out.below HS.out).set (j := c) (HG.out.below HS.out) (.int .u32 (X : Int))
        obtain ⟨w3, hw⟩ : ∃ w3, w3 = W.setCell ⟨g, c, none⟩ (.int .u32 (X : Int)) := ⟨_, rfl⟩
        rw [← hw] at hgrow hrow hpa hpb hpc hpd ⊢
        clear hw
        have hv1 : v2.set c X = halfC v2 c d := by unfold halfC; rw [HX.out]
        rw [hv1] at hrow
        have hwd := HV.out.halfC c d
        obtain ⟨v3, hvn⟩ : ∃ v3, v3 = halfC v2 c d := ⟨_, rfl⟩
        rw [← hvn] at hrow hwd
        have HVNv3 := Lib.hid hvn
        clear HV HG HA HB HC HD HS HX hv1 hvn hcv hfz 
        have HV := Lib.hid hwd
        have HG := Lib.hid hrow
        have HA := Lib.hid hpa
        have HB := Lib.hid hpb
        have HC := Lib.hid hpc
        have HD := Lib.hid hpd
        have HGRv3 := Lib.hid hgrow
        clear hwd hrow hpa hpb hpc hpd hgrow
        refine region_f 11 (fun i vs W => match i with
            | 0 => vs 0 = .pointer (some ⟨g, b, none⟩)
            | 1 => vs 1 = .pointer (some ⟨g, b, none⟩)
            | 2 => vs 2 = .pointer (some ⟨g, b, none⟩)
            | 3 => vs 3 = .int .u32 ((v3.getD b 0 : Nat) : Int)
            | 4 => vs 4 = .pointer (some ⟨g, c, none⟩)
            | 5 => vs 5 = .pointer (some ⟨g, c, none⟩)
            | 6 => vs 6 = .int .u32 ((v3.getD c 0 : Nat) : Int)
            | 7 => vs 7 = .int .u32 ((v3.getD b 0 ^^^ v3.getD c 0 : Nat) : Int)
            | 8 => vs 8 = .int .i64 (s : Int)
            | 9 => vs 9 = .int .i64 (-(s : Int))
            | 10 => vs 10 = .int .u32 ((ror (v3.getD b 0 ^^^ v3.getD c 0) s : Nat) : Int)
            | _ => True) (fun _ W W' => Below W.heap.size W W') (fun W => Below w3.heap.size w3 W) (by kernel_rfl) (by kernel_rfl) (fun i k vs w w' _ _ h _ => h) ?h0D ?stepD ?finD
        case h0D => exact (Below.refl _ _).drew
        case stepD =>
          intro i op hi ho ac W hS hag hdep
          have hbr : Below W.heap.size W W := Below.refl _ _
          match i, hi, ho with
          | 0, _, rfl =>
            exact ow_load_ptr _ 73 22 rfl pb 0 (hag 4 rfl) _ (HB.out.below hS).cell Try.underlying73 ⟨_, rfl, fun vs' h _ => h (fun e => by cases e), hbr, hS⟩
          | 1, _, rfl =>
            exact ow_load_ptr _ 73 22 rfl pb 0 (hag 4 rfl) _ (HB.out.below hS).cell Try.underlying73 ⟨_, rfl, fun vs' h _ => h (fun e => by cases e), hbr, hS⟩
          | 2, _, rfl =>
            have h1 : ac.eval (.tmp 41) = .pointer (some ⟨g, b, none⟩) := hdep 1 (by omega) (by kernel_rfl)
            exact ow_nilCheck _ rfl _ h1 ⟨_, rfl, fun vs' h _ => h (fun e => by cases e), hbr, hS⟩
          | 3, _, rfl =>
            have h1 : ac.eval (.tmp 42) = .pointer (some ⟨g, b, none⟩) := hdep 2 (by omega) (by kernel_rfl)
            exact ow_load_int _ 22 .u32 rfl g b h1 _ (words_cell (HG.out.below hS) _ (by rw [HV.out.1]; exact hb)) Try.underlying22 ⟨_, rfl, fun vs' h _ => h (fun e => by cases e), hbr, hS⟩
          | 4, _, rfl =>
            exact ow_load_ptr _ 73 22 rfl pc 0 (hag 6 rfl) _ (HC.out.below hS).cell Try.underlying73 ⟨_, rfl, fun vs' h _ => h (fun e => by cases e), hbr, hS⟩
          | 5, _, rfl =>
            have h1 : ac.eval (.tmp 44) = .pointer (some ⟨g, c, none⟩) := hdep 4 (by omega) (by kernel_rfl)
            exact ow_nilCheck _ rfl _ h1 ⟨_, rfl, fun vs' h _ => h (fun e => by cases e), hbr, hS⟩
          | 6, _, rfl =>
            have h1 : ac.eval (.tmp 45) = .pointer (some ⟨g, c, none⟩) := hdep 5 (by omega) (by kernel_rfl)
            exact ow_load_int _ 22 .u32 rfl g c h1 _ (words_cell (HG.out.below hS) _ (by rw [HV.out.1]; exact hc)) Try.underlying22 ⟨_, rfl, fun vs' h _ => h (fun e => by cases e), hbr, hS⟩
          | 7, _, rfl =>
            have h1 : ac.eval (.tmp 43) = .int .u32 ((v3.getD b 0 : Nat) : Int) := hdep 3 (by omega) (by kernel_rfl)
            have h2 : ac.eval (.tmp 46) = .int .u32 ((v3.getD c 0 : Nat) : Int) := hdep 6 (by omega) (by kernel_rfl)
            exact ow_xor32 _ _ 22 22 _ _ rfl h1 h2 (getD_lt HV.out _) (getD_lt HV.out _) Try.underlying22 ⟨_, rfl, fun vs' h _ => h (fun e => by cases e), hbr, hS⟩
          | 8, _, rfl =>
            exact ow_move _ rfl (hag 2 rfl) ⟨_, rfl, fun vs' h _ => h (fun e => by cases e), hbr, hS⟩
          | 9, _, rfl =>
            have h1 : ac.eval (.tmp 48) = .int .i64 (s : Int) := hdep 8 (by omega) (by kernel_rfl)
            exact ow_neg _ 3 _ rfl h1 hs.bd Try.underlying3 ⟨_, rfl, fun vs' h _ => h (fun e => by cases e), hbr, hS⟩
          | 10, _, rfl =>
            have h1 : ac.eval (.tmp 47) = .int .u32 ((v3.getD b 0 ^^^ v3.getD c 0 : Nat) : Int) := hdep 7 (by omega) (by kernel_rfl)
            have h2 : ac.eval (.tmp 49) = .int .i64 (-(s : Int)) := hdep 9 (by omega) (by kernel_rfl)
            refine ow_call Try.func36 (by kernel_rfl) rfl _ _ rfl (vs := #[.int .u32 ((v3.getD b 0 ^^^ v3.getD c 0 : Nat) : Int), .int .i64 (-(s : Int))]) (by simp only [List.map_toArray, List.map_cons, List.map_nil, h1, h2]) ?_
            refine (rot_any hs _ (xor_lt (getD_lt HV.out _) (getD_lt HV.out _)) W).mono ?_
            rintro e w' ⟨rfl, rfl⟩
            exact ⟨_, rfl, _, rfl, fun vs' h _ => h (fun e => by cases e), hbr, hS⟩
          | n + 11, hi, _ => exact absurd hi (by omega)
        case finD =>
          intro vs W hS hF
          have e0 : vs 0 = .pointer (some ⟨g, b, none⟩) := hF 0 (by omega)
          have e1 : vs 1 = .pointer (some ⟨g, b, none⟩) := hF 1 (by omega)
          have e2 : vs 2 = .pointer (some ⟨g, b, none⟩) := hF 2 (by omega)
          have e3 : vs 3 = .int .u32 ((v3.getD b 0 : Nat) : Int) := hF 3 (by omega)
          have e4 : vs 4 = .pointer (some ⟨g, c, none⟩) := hF 4 (by omega)
          have e5 : vs 5 = .pointer (some ⟨g, c, none⟩) := hF 5 (by omega)
          have e6 : vs 6 = .int .u32 ((v3.getD c 0 : Nat) : Int) := hF 6 (by omega)
          have e7 : vs 7 = .int .u32 ((v3.getD b 0 ^^^ v3.getD c 0 : Nat) : Int) := hF 7 (by omega)
          have e8 : vs 8 = .int .i64 (s : Int) := hF 8 (by omega)
          have e9 : vs 9 = .int .i64 (-(s : Int)) := hF 9 (by omega)
          have e10 : vs 10 = .int .u32 ((ror (v3.getD b 0 ^^^ v3.getD c 0) s : Nat) : Int) := hF 10 (by omega)
          clear hF
          change wpList _ _ _ _ (Act.put (Act.put (Act.put (Act.put (Act.put (Act.put (Act.put (Act.put (Act.put (Act.put (Act.put _ (some 40) (vs 0)) (some 41) (vs 1)) (some 42) (vs 2)) (some 43) (vs 3)) (some 44) (vs 4)) (some 45) (vs 5)) (some 46) (vs 6)) (some 47) (vs 7)) (some 48) (vs 8)) (some 49) (vs 9)) (some 50) (vs 10)) W
          rw [e0, e1, e2, e3, e4, e5, e6, e7, e8, e9, e10]
          clear e0 e1 e2 e3 e4 e5 e6 e7 e8 e9 e10
          simp only [putAll, List.drop_succ_cons, List.drop_zero, Act.put, List.setIfInBounds_toArray, List.set_cons_zero, List.set_cons_succ]
          clear vs
          have hcv := words_cell (HG.out.below hS) b (by rw [HV.out.1]; exact hb)
          have hfz : W.frozen? ⟨g, b, none⟩ = false := frozen_of_row W g _ _ _ (HG.out.below hS)
          have HS := Lib.hid hS
          clear hS
          obtain ⟨X, hX⟩ : ∃ X : Nat, X = ror (v3.getD b 0 ^^^ v3.getD c 0) s := ⟨_, rfl⟩
          rw [← hX]
          have HX := Lib.hid hX
          clear hX
          go_wp2_with fail
          have hgrow : w3.grownBy (W.setCell ⟨g, b, none⟩ (.int .u32 (X : Int))) (some g) := grown_setCell (grown_of_below HS.out (some g)) _ _
          have hrow := (HG.out.below HS.out).set b X
          have hpa := (HA.out.below HS.out).set (j := b) (HG.out.below HS.out) (.int .u32 (X : Int))
          have hpb := (HB.out.below HS.out).set (j := b) (HG.out.below HS.out) (.int .u32 (X : Int))
          have hpc := (HC.out.below HS.out).set (j := b) (HG.out.below HS.out) (.int .u32 (X : Int))
          have hpd := (HD.out.below HS.out).set (j := b) (HG.out.below HS.out) (.int .u32 (X : Int))
          go_end0
          refine ⟨rfl, ?_, ((HGRv1.out.trans HGRv2.out).trans HGRv3.out).trans hgrow⟩
          have e : half v a b c d x r s = v3.set b X := by
            unfold half
            rw [← HVNv1.out, ← HVNv2.out, ← HVNv3.out]
            unfold halfX
            rw [HX.out]
          rw [e]
          exact hrow
end Go.Proofs.Ytnemclbeofiakaa
