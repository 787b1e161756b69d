/-
  GrantsUsers: the walk.
-/
import Derived.Test.YtncjgfhipflokaaSs
namespace Go.Proofs.Ytncjgfhipflokaa
open Go.RowKit Go.Shelf Hp Go.Maps

theorem awakeL {W w : World} (hb : Below W.heap.size W w) : Calls Try.prog 8 #[] w fun e w' => e = .returned (.bool true) ∧ Below W.heap.size W w' :=
  (awake_any w).mono (by rintro e w' ⟨rfl, h⟩; exact ⟨rfl, hb.trans (h.mono hb.size)⟩)

set_option maxHeartbeats 4000000 in
set_option maxRecDepth 8000 in
theorem GrantsUsers_any (B0 : Nat) (docs : List Doc) (sq : Int) (dv lv sv : Value) (u : S) (w : World) (hB : B0 ≤ w.heap.size) (hds : DS TreeT B0 w dv docs) (hlv : LocT w lv) (hsv : SeenT w sv) :
    Calls Try.prog 4 #[.agg (stV sq dv lv sv), encStr u] w fun e w' => e = .returned (.bool true) ∧ Below w.heap.size w w' := by
  obtain ⟨N, hN⟩ : ∃ N, N = w.heap.size := ⟨_, rfl⟩
  obtain ⟨W0, hW0⟩ : ∃ W0, W0 = w.alloc (.cells (stV sq dv lv sv) 27) := ⟨_, rfl⟩
  have hrow : W0.heap[N]? = some (.cells (stV sq dv lv sv) 27 (0, 0)) := by rw [hW0, hN]; exact World.alloc_heap_new w _
  have hbel : Below w.heap.size w W0 := by rw [hW0]; exact (Below.refl _ w).alloc (Nat.le_refl _) _
  have hlong := long_any B0 docs sq dv lv sv W0 (hds.low1 (fun v h => TreeT.below hbel h) (Low.of_all hbel)) (hlv.below hbel) (hsv.below hbel)
  have hst : Small docs → Stt B0 N docs sq dv lv sv W0 := fun h => ⟨hds.any.low trueT (Low.of_all hbel), hrow, Nat.le_trans hB hbel.size, h.fit⟩
  have hr0 : W0.cell? ⟨N, 0, none⟩ = some (.int .u64 sq) := cell_of_row W0 N 0 _ _ _ hrow
  have hr1 : W0.cell? ⟨N, 1, none⟩ = some dv := cell_of_row W0 N 1 _ _ _ hrow
  have hr2 : W0.cell? ⟨N, 2, none⟩ = some lv := cell_of_row W0 N 2 _ _ _ hrow
  have hr3 : W0.cell? ⟨N, 3, none⟩ = some sv := cell_of_row W0 N 3 _ _ _ hrow
  have HLONG := Lib.hid hlong
  have HS0 := Lib.hid hst
  have HBEL := Lib.hid hbel
  have HN := Lib.hid hN
  clear hrow hbel hlong hst hds hlv hsv hB
  go_enter Try.func4, Try.ntmps4
  go_upto_region 1 with fail
  rw [← HN.out, ← hW0]
  have HW0 := Lib.hid hW0
  clear hN hW0
  go_wp2_with fail
  refine HLONG.out.mono ?_
  rintro e w1 ⟨⟨b, rfl, hb⟩, hb1⟩
  have HB := Lib.hid hb
  have HB1 := Lib.hid (HBEL.out.trans (hb1.mono HBEL.out.size))
  have HL1 := Lib.hid hb1
  clear hb hb1 hr0 hr1 hr2 hr3 HLONG
  cases b with
  | true =>
    go_wp2_with fail
    refine (awakeL HB1.out).mono ?_
    rintro e w7 ⟨rfl, hb7⟩
    go_wp2_with fail
    go_ret
    exact ⟨rfl, hb7⟩
  | false =>
    by_cases c1 : 300 < u.length
    · have hd1 : decide ((300 : Int) < (u.length : Int)) = true := by simp; omega
      go_wp2_with fail
      refine (awakeL HB1.out).mono ?_
      rintro e w7 ⟨rfl, hb7⟩
      go_wp2_with fail
      go_ret
      exact ⟨rfl, hb7⟩
    have hd1 : decide ((300 : Int) < (u.length : Int)) = false := by simp; omega
    have hst1 := (HS0.out (HB.out (by trivial))).below HL1.out
    obtain ⟨hr0, hr1, hr2, hr3⟩ := hst1.c
    have HST1 := Lib.hid hst1
    clear hst1 HS0 HB HL1
    go_wp2_with fail
    refine HST1.out.users.mono ?_
    rintro e w2 ⟨v, al, rfl, hra, hka, hb2⟩
    have HST2 := Lib.hid (HST1.out.below hb2)
    have HB2 := Lib.hid (HB1.out.trans (hb2.mono HB1.out.size))
    have HKA := Lib.hid hka
    obtain ⟨AA, ca, rfl, hal, hra⟩ := hra
    have hal1 : al.length ≤ 9223372036854775807 := hal
    have HRA := Lib.hid hra
    clear hr0 hr1 hr2 hr3 hd1 hka hb2 hal hra HST1 HB1
    go_wp2_with fail
    go_loopw [6, 7] (fun vb vi wr => ∃ (q : Nat) (b : Bool), vb = .bool b ∧ vi = .int .i64 (q : Int) ∧ q ≤ al.length ∧ Stt B0 N docs sq dv lv sv wr ∧ Below w.heap.size w wr ∧ Below w2.heap.size w2 wr ∧ (b = true ↔ u ∈ al.take q)) (fun _ vi _ => al.length - (intOf vi).toNat)
    case atStart => exact ⟨0, false, rfl, rfl, Nat.zero_le _, HST2.out, HB2.out, Below.refl _ _, by simp⟩
    case round =>
      clear HST2 HB2
      obtain ⟨q, b, rfl, rfl, hq, hst, hbe, hb2, hkn⟩ := hrel
      have HST := Lib.hid hst
      have HBE := Lib.hid hbe
      have HBL := Lib.hid hb2
      have HKN := Lib.hid hkn
      clear hst hbe hb2 hkn
      rcases (show q = al.length ∨ q < al.length by omega) with rfl | hql
      · have hd : decide ((al.length : Int) < (al.length : Int)) = false := by simp
        rw [List.take_length] at HKN
        clear HRA HBL
        go_upto_region 11 with fail
        clear hd
        refine region_f 8 (fun i vs W => match i with
            | 0 => vs 0 = .agg (stV sq dv lv sv)
            | 1 => vs 1 = encStr u
            | 2 => ∃ l, RT W (vs 2) l ∧ Keys l (chansOf docs u)
            | 3 => vs 3 = .agg (stV sq dv lv sv)
            | 4 => vs 4 = encStr u
            | 5 => ∃ l, RT W (vs 5) l ∧ Keys l (seenOf docs u)
            | 6 => ∃ l, RT W (vs 6) l ∧ Keys l (chansOf docs u)
            | 7 => ∃ l, RT W (vs 7) l ∧ Keys l (seenOf docs u)
            | _ => True) (fun _ W W' => Below W.heap.size W W') (fun W => Below wr.heap.size wr W) (by kernel_rfl) (by kernel_rfl) ?hste ?h0e ?stepe ?fine
        case hste =>
          intro i k vs W W' _ _ h hG
          match i, h with
          | 0, h => exact h
          | 1, h => exact h
          | 2, ⟨l, e1, e2⟩ => exact ⟨l, e1.below hG, e2⟩
          | 3, h => exact h
          | 4, h => exact h
          | 5, ⟨l, e1, e2⟩ => exact ⟨l, e1.below hG, e2⟩
          | 6, ⟨l, e1, e2⟩ => exact ⟨l, e1.below hG, e2⟩
          | 7, ⟨l, e1, e2⟩ => exact ⟨l, e1.below hG, e2⟩
          | n + 8, _ => trivial
        case h0e => exact (Below.refl _ _).drew
        case stepe =>
          intro i op hi ho ac W hS hag hdep
          have hbr : Below W.heap.size W W := Below.refl _ _
          match i, hi, ho with
          | 0, _, rfl =>
            exact ow_load_row 27 _ rfl N (hag 2 rfl) 27 _ (0, 0) _ (blk_below HST.out.row hS) Try.underlying27 rfl (by kernel_rfl) ⟨_, rfl, fun vs' h _ => h (fun e => by cases e), hbr, hS⟩
          | 1, _, rfl =>
            exact ow_move _ rfl (v := encStr u) (hag 1 rfl) ⟨_, rfl, fun vs' h _ => h (fun e => by cases e), hbr, hS⟩
          | 2, _, rfl =>
            have h1 : ac.eval (.tmp 65) = .agg (stV sq dv lv sv) := hdep 0 (by omega) (by kernel_rfl)
            have h2 : ac.eval (.tmp 66) = encStr u := hdep 1 (by omega) (by kernel_rfl)
            refine ow_call Try.func14 (by kernel_rfl) rfl _ _ rfl (vs := #[.agg (stV sq dv lv sv), encStr u]) (by simp only [List.map_toArray, List.map_cons, List.map_nil, h1, h2]) ?_
            refine ((HST.out.below hS).of u).mono ?_
            rintro e w' ⟨v, l', rfl, hr, hk, hbb⟩
            exact ⟨_, rfl, ⟨_, rfl, fun vs' h _ => ⟨l', by rw [h (fun e => by cases e)]; exact hr, hk⟩, hbb, hS.trans (hbb.mono hS.size)⟩⟩
          | 3, _, rfl =>
            exact ow_load_row 27 _ rfl N (hag 2 rfl) 27 _ (0, 0) _ (blk_below HST.out.row hS) Try.underlying27 rfl (by kernel_rfl) ⟨_, rfl, fun vs' h _ => h (fun e => by cases e), hbr, hS⟩
          | 4, _, rfl =>
            exact ow_move _ rfl (v := encStr u) (hag 1 rfl) ⟨_, rfl, fun vs' h _ => h (fun e => by cases e), hbr, hS⟩
          | 5, _, rfl =>
            have h1 : ac.eval (.tmp 68) = .agg (stV sq dv lv sv) := hdep 3 (by omega) (by kernel_rfl)
            have h2 : ac.eval (.tmp 69) = encStr u := hdep 4 (by omega) (by kernel_rfl)
            refine ow_call Try.func18 (by kernel_rfl) rfl _ _ rfl (vs := #[.agg (stV sq dv lv sv), encStr u]) (by simp only [List.map_toArray, List.map_cons, List.map_nil, h1, h2]) ?_
            refine ((HST.out.below hS).all u).mono ?_
            rintro e w' ⟨v, l', rfl, hr, hk, hbb⟩
            exact ⟨_, rfl, ⟨_, rfl, fun vs' h _ => ⟨l', by rw [h (fun e => by cases e)]; exact hr, hk⟩, hbb, hS.trans (hbb.mono hS.size)⟩⟩
          | 6, _, rfl =>
            obtain ⟨l, h1, h2⟩ : ∃ l, RT W (ac.eval (.tmp 67)) l ∧ Keys l (chansOf docs u) := hdep 2 (by omega) (by kernel_rfl)
            exact ow_assign _ rfl rfl ⟨_, rfl, fun vs' h _ => ⟨l, by rw [h (fun e => by cases e)]; exact h1, h2⟩, hbr, hS⟩
          | 7, _, rfl =>
            obtain ⟨l, h1, h2⟩ : ∃ l, RT W (ac.eval (.tmp 70)) l ∧ Keys l (seenOf docs u) := hdep 5 (by omega) (by kernel_rfl)
            exact ow_assign _ rfl rfl ⟨_, rfl, fun vs' h _ => ⟨l, by rw [h (fun e => by cases e)]; exact h1, h2⟩, hbr, hS⟩
          | n + 8, hi, _ => exact absurd hi (by omega)
        case fine =>
          intro vs W hS hF
          have f6 : ∃ l, RT W (vs 6) l ∧ Keys l (chansOf docs u) := hF 6 (by omega)
          have f7 : ∃ l, RT W (vs 7) l ∧ Keys l (seenOf docs u) := hF 7 (by omega)
          clear hF
          change wpList _ _ _ _ (Act.put (Act.put (Act.put (Act.put (Act.put (Act.put (Act.put (Act.put _ (some 65) (vs 0)) (some 66) (vs 1)) (some 67) (vs 2)) (some 68) (vs 3)) (some 69) (vs 4)) (some 70) (vs 5)) (some 8) (vs 6)) (some 9) (vs 7)) W
          generalize vs 0 = z0
          generalize vs 1 = z1
          generalize vs 2 = z2
          generalize vs 3 = z3
          generalize vs 4 = z4
          generalize vs 5 = z5
          generalize vs 6 = z6 at f6 ⊢
          generalize vs 7 = z7 at f7 ⊢
          simp only [putAll, List.drop_succ_cons, List.drop_zero, Act.put, List.setIfInBounds_toArray, List.set_cons_zero, List.set_cons_succ]
          clear vs
          rename World => W4
          obtain ⟨lo, hro, hko⟩ := f6
          obtain ⟨ls, hrs, hks⟩ := f7
          have hbo : b = true ↔ 0 < lo.length := by
            rw [HKN.out, HKA.out.2, users_chans, List.length_pos_iff]
            exact not_congr hko.nil.symm
          have hbs : b = false → ls.length = 0 := by
            intro h
            rcases Nat.eq_zero_or_pos ls.length with h0 | h0
            · exact h0
            · obtain ⟨c, hc⟩ := seen_mem (hks.mem_at h0)
              have h1 := (hko.2 c).2 (by_mem hc).1
              have h2 : 0 < lo.length := List.length_pos_of_mem h1
              rw [hbo.2 h2] at h
              cases h
          have HST4 := Lib.hid (HST.out.below hS)
          have HBE4 := Lib.hid (HBE.out.trans (hS.mono HBE.out.size))
          have HKO := Lib.hid hko
          have HKS := Lib.hid hks
          obtain ⟨AO, co, rfl, hol, hro⟩ := hro
          obtain ⟨AS, cs, rfl, hsl, hrs⟩ := hrs
          have hol1 : lo.length ≤ 9223372036854775807 := hol
          have hsl1 : ls.length ≤ 9223372036854775807 := hsl
          have HRO := Lib.hid hro
          have HRS := Lib.hid hrs
          clear hS hko hks hol hsl hro hrs HST HBE HKN HKA
          cases b with
          | false =>
            have hz2 := hbs rfl
            have hz1 : lo.length = 0 := by
              rcases Nat.eq_zero_or_pos lo.length with h0 | h0
              · exact h0
              · have := hbo.2 h0; cases this
            clear hbo hbs hol1 hsl1 HRO HRS HKO HKS
            rw [hz1, hz2]
            clear hz1 hz2
            go_wp2_with fail
            refine wp_loop_rounds 1 ?_
            rw [rounds_succ]
            go_wp2_with fail
            refine wp_loop_rounds 1 ?_
            rw [rounds_succ]
            go_wp2_with fail
            refine (awakeL HBE4.out).mono ?_
            rintro e w7 ⟨rfl, hb7⟩
            go_wp2_with fail
            go_ret
            exact ⟨rfl, hb7⟩
          | true =>
            have hpo : 0 < lo.length := hbo.1 rfl
            have hdo : decide ((0 : Int) < (lo.length : Int)) = true := by simp; omega
            clear hbo hbs
            go_wp2_with fail
            clear hdo
            go_loopw [10] (fun vi wr => ∃ q : Nat, vi = .int .i64 (q : Int) ∧ 1 ≤ q ∧ q ≤ lo.length ∧ Stt B0 N docs sq dv lv sv wr ∧ Below w.heap.size w wr ∧ Below W4.heap.size W4 wr) (fun vi _ => lo.length - (intOf vi).toNat)
            case atStart => exact ⟨1, rfl, Nat.le_refl _, hpo, HST4.out, HBE4.out, Below.refl _ _⟩
            case round =>
              clear HST4 HBE4
              obtain ⟨q, rfl, hpos, hq, hst, hbe, hb4⟩ := hrel
              have HST := Lib.hid hst
              have HBE := Lib.hid hbe
              have HBL := Lib.hid hb4
              clear hst hbe hb4
              rcases (show q = lo.length ∨ q < lo.length by omega) with rfl | hql
              · have hd : decide ((lo.length : Int) < (lo.length : Int)) = false := by simp
                go_wp2_with fail
                clear hd
                go_loopw [11] (fun vi wr => ∃ q : Nat, vi = .int .i64 (q : Int) ∧ q ≤ ls.length ∧ Stt B0 N docs sq dv lv sv wr ∧ Below w.heap.size w wr ∧ Below W4.heap.size W4 wr) (fun vi _ => ls.length - (intOf vi).toNat)
                case atStart => exact ⟨0, rfl, Nat.zero_le _, HST.out, HBE.out, HBL.out⟩
                case round =>
                  clear HST HBE HBL
                  obtain ⟨q, rfl, hq, hst, hbe, hb4⟩ := hrel
                  have HST := Lib.hid hst
                  have HBE := Lib.hid hbe
                  have HBL := Lib.hid hb4
                  clear hst hbe hb4
                  rcases (show q = ls.length ∨ q < ls.length by omega) with rfl | hql
                  · have hd : decide ((ls.length : Int) < (ls.length : Int)) = false := by simp
                    go_wp2_with fail
                    refine (awakeL HBE.out).mono ?_
                    rintro e w7 ⟨rfl, hb7⟩
                    go_wp2_with fail
                    go_ret
                    exact ⟨rfl, hb7⟩
                  · have hd : decide ((q : Int) < (ls.length : Int)) = true := by simp; omega
                    have hd' : decide (q < ls.length) = true := by simp; omega
                    obtain ⟨bs, os, rfl, hca⟩ := HRS.out.resolve_left (by omega)
                    have HSN := Lib.hid (fun k hk => below_cell HBL.out (hca k hk))
                    obtain ⟨c, hby⟩ := seen_mem (HKS.out.mem_at hql)
                    have HCM := Lib.hid ((HKO.out.2 c).2 (by_mem hby).1)
                    have HBY := Lib.hid hby
                    clear hca hby
                    go_upto_region 22 with fail
                    refine region_f 12 (fun i vs W => match i with
                        | 0 => vs 0 = .agg (stV sq dv lv sv)
                        | 1 => vs 1 = encStr u
                        | 2 => vs 2 = .slice (some ⟨bs, os, none⟩) ls.length cs
                        | 3 => vs 3 = .int .i64 (q : Int)
                        | 4 => vs 4 = .pointer (some ⟨bs, os + (q), none⟩)
                        | 5 => vs 5 = encStr (at_ ls (q))
                        | 6 => vs 6 = .tuple #[encStr c, .bool true]
                        | 7 => vs 7 = .tuple #[encStr c, .bool true]
                        | 8 => vs 8 = encStr c
                        | 9 => vs 9 = .bool true
                        | 10 => vs 10 = encStr c
                        | 11 => vs 11 = .bool true
                        | _ => True) (fun _ W W' => Below W.heap.size W W') (fun W => Below wr.heap.size wr W) (by kernel_rfl) (by kernel_rfl) ?hsty ?h0y ?stepy ?finy
                    case hsty =>
                      intro i k vs W W' _ _ h hG
                      match i, h with
                      | 0, h => exact h
                      | 1, h => exact h
                      | 2, h => exact h
                      | 3, h => exact h
                      | 4, h => exact h
                      | 5, h => exact h
                      | 6, h => exact h
                      | 7, h => exact h
                      | 8, h => exact h
                      | 9, h => exact h
                      | 10, h => exact h
                      | 11, h => exact h
                      | n + 12, _ => trivial
                    case h0y => exact (Below.refl _ _).drew
                    case stepy =>
                      intro i op hi ho ac W hS hag hdep
                      have hbr : Below W.heap.size W W := Below.refl _ _
                      match i, hi, ho with
                      | 0, _, rfl =>
                        exact ow_load_row 27 _ rfl N (hag 2 rfl) 27 _ (0, 0) _ (blk_below HST.out.row hS) Try.underlying27 rfl (by kernel_rfl) ⟨_, rfl, fun vs' h _ => h (fun e => by cases e), hbr, hS⟩
                      | 1, _, rfl =>
                        exact ow_move _ rfl (v := encStr u) (hag 1 rfl) ⟨_, rfl, fun vs' h _ => h (fun e => by cases e), hbr, hS⟩
                      | 2, _, rfl =>
                        exact ow_move _ rfl (v := .slice (some ⟨bs, os, none⟩) ls.length cs) (hag 9 rfl) ⟨_, rfl, fun vs' h _ => h (fun e => by cases e), hbr, hS⟩
                      | 3, _, rfl =>
                        exact ow_move _ rfl (v := .int .i64 (q : Int)) (hag 11 rfl) ⟨_, rfl, fun vs' h _ => h (fun e => by cases e), hbr, hS⟩
                      | 4, _, rfl =>
                        have hs : ac.eval (.tmp 110) = .slice (some ⟨bs, os, none⟩) ls.length cs := hdep 2 (by omega) (by kernel_rfl)
                        have hi : ac.eval (.tmp 111) = .int .i64 (q : Int) := hdep 3 (by omega) (by kernel_rfl)
                        exact ow_index _ _ 9 35 rfl bs os ls.length cs (q) hs hi hql Try.underlying35 tag9 ⟨_, rfl, fun vs' h _ => h (fun e => by cases e), hbr, hS⟩
                      | 5, _, rfl =>
                        have hp : ac.eval (.tmp 112) = .pointer (some ⟨bs, os + (q), none⟩) := hdep 4 (by omega) (by kernel_rfl)
                        exact ow_load_str _ 9 rfl bs (os + (q)) hp _ (below_cell hS (HSN.out (q) hql)) Try.underlying9 ⟨_, rfl, fun vs' h _ => h (fun e => by cases e), hbr, hS⟩
                      | 6, _, rfl =>
                        have h1 : ac.eval (.tmp 108) = .agg (stV sq dv lv sv) := hdep 0 (by omega) (by kernel_rfl)
                        have h2 : ac.eval (.tmp 109) = encStr u := hdep 1 (by omega) (by kernel_rfl)
                        have h3 : ac.eval (.tmp 113) = encStr (at_ ls (q)) := hdep 5 (by omega) (by kernel_rfl)
                        refine ow_call Try.func10 (by kernel_rfl) rfl _ _ rfl (vs := #[.agg (stV sq dv lv sv), encStr u, encStr (at_ ls q)]) (by simp only [List.map_toArray, List.map_cons, List.map_nil, h1, h2, h3]) ?_
                        refine ((HST.out.below hS).by u (at_ ls q)).mono ?_
                        rw [HBY.out]
                        rintro e w' ⟨rfl, hbb⟩
                        exact ⟨_, rfl, ⟨_, rfl, fun vs' h _ => h (fun e => by cases e), hbb, hS.trans (hbb.mono hS.size)⟩⟩
                      | 7, _, rfl =>
                        have h1 : ac.eval (.tmp 114) = .tuple #[encStr c, .bool true] := hdep 6 (by omega) (by kernel_rfl)
                        exact ow_move _ rfl h1 ⟨_, rfl, fun vs' h _ => h (fun e => by cases e), hbr, hS⟩
                      | 8, _, rfl =>
                        have h1 : ac.eval (.tmp 107) = .tuple #[encStr c, .bool true] := hdep 7 (by omega) (by kernel_rfl)
                        exact ow_extract _ 0 rfl h1 rfl ⟨_, rfl, fun vs' h _ => h (fun e => by cases e), hbr, hS⟩
                      | 9, _, rfl =>
                        have h1 : ac.eval (.tmp 107) = .tuple #[encStr c, .bool true] := hdep 7 (by omega) (by kernel_rfl)
                        exact ow_extract _ 1 rfl h1 rfl ⟨_, rfl, fun vs' h _ => h (fun e => by cases e), hbr, hS⟩
                      | 10, _, rfl =>
                        have h1 : ac.eval (.tmp 115) = encStr c := hdep 8 (by omega) (by kernel_rfl)
                        exact ow_assign _ rfl h1 ⟨_, rfl, fun vs' h _ => h (fun e => by cases e), hbr, hS⟩
                      | 11, _, rfl =>
                        have h1 : ac.eval (.tmp 116) = .bool true := hdep 9 (by omega) (by kernel_rfl)
                        exact ow_assign _ rfl h1 ⟨_, rfl, fun vs' h _ => h (fun e => by cases e), hbr, hS⟩
                      | n + 12, hi, _ => exact absurd hi (by omega)
                    case finy =>
                      intro vs W hS hF
                      have e10 : vs 10 = encStr c := hF 10 (by omega)
                      have e11 : vs 11 = .bool true := hF 11 (by omega)
                      clear hF
                      change wpList _ _ _ _ (Act.put (Act.put (Act.put (Act.put (Act.put (Act.put (Act.put (Act.put (Act.put (Act.put (Act.put (Act.put _ (some 108) (vs 0)) (some 109) (vs 1)) (some 110) (vs 2)) (some 111) (vs 3)) (some 112) (vs 4)) (some 113) (vs 5)) (some 114) (vs 6)) (some 107) (vs 7)) (some 115) (vs 8)) (some 116) (vs 9)) (some 12) (vs 10)) (some 13) (vs 11)) W
                      rw [e10, e11]
                      clear e10 e11
                      generalize vs 0 = z0
                      generalize vs 1 = z1
                      generalize vs 2 = z2
                      generalize vs 3 = z3
                      generalize vs 4 = z4
                      generalize vs 5 = z5
                      generalize vs 6 = z6
                      generalize vs 7 = z7
                      generalize vs 8 = z8
                      generalize vs 9 = z9
                      simp only [putAll, List.drop_succ_cons, List.drop_zero, Act.put, List.setIfInBounds_toArray, List.set_cons_zero, List.set_cons_succ]
                      clear vs
                      rename World => W5
                      have HST5 := Lib.hid (HST.out.below hS)
                      have HBE5 := Lib.hid (HBE.out.trans (hS.mono HBE.out.size))
                      have HBL5 := Lib.hid (HBL.out.trans (hS.mono HBL.out.size))
                      have HSN5 := Lib.hid (fun k hk => below_cell hS (HSN.out k hk))
                      clear hS HST HBE HBL HSN HBY
                      go_wp2_with fail
                      go_loopw [14, 15] (fun vb vi wr => ∃ (j : Nat) (b : Bool), vb = .bool b ∧ vi = .int .i64 (j : Int) ∧ j ≤ lo.length ∧ wr = W5 ∧ (b = true ↔ c ∈ lo.take j)) (fun _ vi _ => lo.length - (intOf vi).toNat)
                      case atStart => exact ⟨0, false, rfl, rfl, Nat.zero_le _, rfl, by simp⟩
                      case round =>
                        obtain ⟨j, b, rfl, rfl, hj, hwr, hkn⟩ := hrel
                        subst wr
                        have HKN := Lib.hid hkn
                        clear hkn
                        rcases (show j = lo.length ∨ j < lo.length by omega) with rfl | hjl
                        · have hdd : decide ((lo.length : Int) < (lo.length : Int)) = false := by simp
                          rw [List.take_length] at HKN
                          obtain rfl : b = true := HKN.out.2 HCM.out
                          rcases Nat.eq_zero_or_pos q with hz | hpos
                          · have HZ := Lib.hid hz
                            clear hz
                            go_upto_region 28 with fail
                            clear hdd
                            refine region_g 22 (fun _ _ => false) (fun i vs W => match i with
                                | 0 => vs 0 = .int .i64 (q : Int)
                                | 1 => vs 1 = .bool false
                                | 2 => vs 2 = .bool false
                                | 3 => True
                                | 4 => True
                                | 5 => True
                                | 6 => True
                                | 7 => True
                                | 8 => True
                                | 9 => True
                                | 10 => True
                                | 11 => True
                                | 12 => True
                                | 13 => vs 13 = .bool false
                                | 14 => vs 14 = .bool false
                                | 15 => vs 15 = .bool true
                                | 16 => vs 16 = .bool false
                                | 17 => vs 17 = .bool false
                                | 18 => vs 18 = .bool false
                                | 19 => vs 19 = .bool true
                                | 20 => vs 20 = .bool false
                                | 21 => vs 21 = .bool false
                                | _ => True) (fun _ W W' => Below W.heap.size W W') (fun W => Below W5.heap.size W5 W) (by kernel_rfl) (by kernel_rfl) ?hsto ?h0o ?stepo ?fino
                            case hsto =>
                              intro i k vs W W' _ _ _ h hG
                              match i, h with
                              | 0, h => exact h
                              | 1, h => exact h
                              | 2, h => exact h
                              | 3, h => exact h
                              | 4, h => exact h
                              | 5, h => exact h
                              | 6, h => exact h
                              | 7, h => exact h
                              | 8, h => exact h
                              | 9, h => exact h
                              | 10, h => exact h
                              | 11, h => exact h
                              | 12, h => exact h
                              | 13, h => exact h
                              | 14, h => exact h
                              | 15, h => exact h
                              | 16, h => exact h
                              | 17, h => exact h
                              | 18, h => exact h
                              | 19, h => exact h
                              | 20, h => exact h
                              | 21, h => exact h
                              | n + 22, _ => trivial
                            case h0o => exact (Below.refl _ _).drew
                            case stepo =>
                              intro i op hi ho ac W hS hag hdep
                              have hbr : Below W.heap.size W W := Below.refl _ _
                              match i, hi, ho with
                              | 0, _, rfl =>
                                refine gstep rfl ?_
                                exact ow_move _ rfl (v := .int .i64 (q : Int)) (hag 11 rfl) ⟨_, rfl, fun vs' h _ => h (fun e => by cases e), hbr, hS⟩
                              | 1, _, rfl =>
                                have h1 : ac.eval (.tmp 132) = .int .i64 (q : Int) := hdep 0 (by omega) (by kernel_rfl) (fun k _ h => by cases h)
                                refine gstep rfl ?_
                                exact ow_gtr0 _ _ _ rfl q false h1 (by first | (have := HZ.out; simp; omega) | (simp; omega)) ⟨_, rfl, fun vs' h _ => h (fun e => by cases e), hbr, hS⟩
                              | 2, _, rfl =>
                                have h1 : ac.eval (.tmp 133) = .bool false := hdep 1 (by omega) (by kernel_rfl) (fun k _ h => by cases h)
                                refine gstep rfl ?_
                                exact ow_move _ rfl h1 ⟨_, rfl, fun vs' h _ => h (fun e => by cases e), hbr, hS⟩
                              | 3, _, rfl =>
                                refine gskip (wanted_no rfl rfl (hdep 2 (by omega) (by kernel_rfl) (fun k _ h => by cases h) : ac.eval (.tmp 134) = .bool false)) ?_
                                exact ⟨_, rfl, fun _ _ _ => trivial, hbr, hS⟩
                              | 4, _, rfl =>
                                refine gskip (wanted_no rfl rfl (hdep 2 (by omega) (by kernel_rfl) (fun k _ h => by cases h) : ac.eval (.tmp 134) = .bool false)) ?_
                                exact ⟨_, rfl, fun _ _ _ => trivial, hbr, hS⟩
                              | 5, _, rfl =>
                                refine gskip (wanted_no rfl rfl (hdep 2 (by omega) (by kernel_rfl) (fun k _ h => by cases h) : ac.eval (.tmp 134) = .bool false)) ?_
                                exact ⟨_, rfl, fun _ _ _ => trivial, hbr, hS⟩
                              | 6, _, rfl =>
                                refine gskip (wanted_no rfl rfl (hdep 2 (by omega) (by kernel_rfl) (fun k _ h => by cases h) : ac.eval (.tmp 134) = .bool false)) ?_
                                exact ⟨_, rfl, fun _ _ _ => trivial, hbr, hS⟩
                              | 7, _, rfl =>
                                refine gskip (wanted_no rfl rfl (hdep 2 (by omega) (by kernel_rfl) (fun k _ h => by cases h) : ac.eval (.tmp 134) = .bool false)) ?_
                                exact ⟨_, rfl, fun _ _ _ => trivial, hbr, hS⟩
                              | 8, _, rfl =>
                                refine gskip (wanted_no rfl rfl (hdep 2 (by omega) (by kernel_rfl) (fun k _ h => by cases h) : ac.eval (.tmp 134) = .bool false)) ?_
                                exact ⟨_, rfl, fun _ _ _ => trivial, hbr, hS⟩
                              | 9, _, rfl =>
                                refine gskip (wanted_no rfl rfl (hdep 2 (by omega) (by kernel_rfl) (fun k _ h => by cases h) : ac.eval (.tmp 134) = .bool false)) ?_
                                exact ⟨_, rfl, fun _ _ _ => trivial, hbr, hS⟩
                              | 10, _, rfl =>
                                refine gskip (wanted_no rfl rfl (hdep 2 (by omega) (by kernel_rfl) (fun k _ h => by cases h) : ac.eval (.tmp 134) = .bool false)) ?_
                                exact ⟨_, rfl, fun _ _ _ => trivial, hbr, hS⟩
                              | 11, _, rfl =>
                                refine gskip (wanted_no rfl rfl (hdep 2 (by omega) (by kernel_rfl) (fun k _ h => by cases h) : ac.eval (.tmp 134) = .bool false)) ?_
                                exact ⟨_, rfl, fun _ _ _ => trivial, hbr, hS⟩
                              | 12, _, rfl =>
                                refine gskip (wanted_no rfl rfl (hdep 2 (by omega) (by kernel_rfl) (fun k _ h => by cases h) : ac.eval (.tmp 134) = .bool false)) ?_
                                exact ⟨_, rfl, fun _ _ _ => trivial, hbr, hS⟩
                              | 13, _, rfl =>
                                have h1 : ac.eval (.tmp 134) = .bool false := hdep 2 (by omega) (by kernel_rfl) (fun k _ h => by cases h)
                                refine gstep rfl ?_
                                exact ow_pick _ _ _ rfl false h1 rfl ⟨_, rfl, fun vs' h _ => h (fun e => by cases e), hbr, hS⟩
                              | 14, _, rfl =>
                                have h1 : ac.eval (.tmp 145) = .bool false := hdep 13 (by omega) (by kernel_rfl) (fun k _ h => by cases h)
                                refine gstep rfl ?_
                                exact ow_move _ rfl h1 ⟨_, rfl, fun vs' h _ => h (fun e => by cases e), hbr, hS⟩
                              | 15, _, rfl =>
                                refine gstep (wanted_ok rfl rfl (hdep 14 (by omega) (by kernel_rfl) (fun k _ h => by cases h) : ac.eval (.tmp 146) = .bool false)) ?_
                                exact ow_move _ rfl (v := .bool true) (hag 13 rfl) ⟨_, rfl, fun vs' h _ => h (fun e => by cases e), hbr, hS⟩
                              | 16, _, rfl =>
                                have h1 : ac.eval (.tmp 147) = .bool true := hdep 15 (by omega) (by kernel_rfl) (fun k _ h => by cases h)
                                refine gstep (wanted_ok rfl rfl (hdep 14 (by omega) (by kernel_rfl) (fun k _ h => by cases h) : ac.eval (.tmp 146) = .bool false)) ?_
                                exact ow_not _ 4 rfl true h1 ⟨_, rfl, fun vs' h _ => h (fun e => by cases e), hbr, hS⟩
                              | 17, _, rfl =>
                                have h1 : ac.eval (.tmp 146) = .bool false := hdep 14 (by omega) (by kernel_rfl) (fun k _ h => by cases h)
                                have h2 : ac.eval (.tmp 148) = .bool false := hdep 16 (by omega) (by kernel_rfl) (fun k _ h => by cases h)
                                refine gstep rfl ?_
                                exact ow_pick _ _ _ rfl false h1 (by simpa using h2) ⟨_, rfl, fun vs' h _ => h (fun e => by cases e), hbr, hS⟩
                              | 18, _, rfl =>
                                have h1 : ac.eval (.tmp 149) = .bool false := hdep 17 (by omega) (by kernel_rfl) (fun k _ h => by cases h)
                                refine gstep rfl ?_
                                exact ow_move _ rfl h1 ⟨_, rfl, fun vs' h _ => h (fun e => by cases e), hbr, hS⟩
                              | 19, _, rfl =>
                                refine gstep (wanted_ok rfl rfl (hdep 18 (by omega) (by kernel_rfl) (fun k _ h => by cases h) : ac.eval (.tmp 150) = .bool false)) ?_
                                exact ow_move _ rfl (v := .bool true) (hag 14 rfl) ⟨_, rfl, fun vs' h _ => h (fun e => by cases e), hbr, hS⟩
                              | 20, _, rfl =>
                                have h1 : ac.eval (.tmp 151) = .bool true := hdep 19 (by omega) (by kernel_rfl) (fun k _ h => by cases h)
                                refine gstep (wanted_ok rfl rfl (hdep 18 (by omega) (by kernel_rfl) (fun k _ h => by cases h) : ac.eval (.tmp 150) = .bool false)) ?_
                                exact ow_not _ 4 rfl true h1 ⟨_, rfl, fun vs' h _ => h (fun e => by cases e), hbr, hS⟩
                              | 21, _, rfl =>
                                have h1 : ac.eval (.tmp 150) = .bool false := hdep 18 (by omega) (by kernel_rfl) (fun k _ h => by cases h)
                                have h2 : ac.eval (.tmp 152) = .bool false := hdep 20 (by omega) (by kernel_rfl) (fun k _ h => by cases h)
                                refine gstep rfl ?_
                                exact ow_pick _ _ _ rfl false h1 (by simpa using h2) ⟨_, rfl, fun vs' h _ => h (fun e => by cases e), hbr, hS⟩
                              | n + 22, hi, _ => exact absurd hi (by omega)
                            case fino =>
                              intro vs W hS hF
                              have e21 : vs 21 = .bool false := hF 21 (by omega) (fun _ _ => rfl)
                              clear hF
                              change wpList _ _ _ _ (Act.put (Act.put (Act.put (Act.put (Act.put (Act.put (Act.put (Act.put (Act.put (Act.put (Act.put (Act.put (Act.put (Act.put (Act.put (Act.put (Act.put (Act.put (Act.put (Act.put (Act.put (Act.put _ (some 132) (vs 0)) (some 133) (vs 1)) (some 134) (vs 2)) (some 135) (vs 3)) (some 136) (vs 4)) (some 137) (vs 5)) (some 138) (vs 6)) (some 139) (vs 7)) (some 140) (vs 8)) (some 141) (vs 9)) (some 142) (vs 10)) (some 143) (vs 11)) (some 144) (vs 12)) (some 145) (vs 13)) (some 146) (vs 14)) (some 147) (vs 15)) (some 148) (vs 16)) (some 149) (vs 17)) (some 150) (vs 18)) (some 151) (vs 19)) (some 152) (vs 20)) (some 153) (vs 21)) W
                              rw [e21]
                              clear e21
                              generalize vs 0 = z0
                              generalize vs 1 = z1
                              generalize vs 2 = z2
                              generalize vs 3 = z3
                              generalize vs 4 = z4
                              generalize vs 5 = z5
                              generalize vs 6 = z6
                              generalize vs 7 = z7
                              generalize vs 8 = z8
                              generalize vs 9 = z9
                              generalize vs 10 = z10
                              generalize vs 11 = z11
                              generalize vs 12 = z12
                              generalize vs 13 = z13
                              generalize vs 14 = z14
                              generalize vs 15 = z15
                              generalize vs 16 = z16
                              generalize vs 17 = z17
                              generalize vs 18 = z18
                              generalize vs 19 = z19
                              generalize vs 20 = z20
                              simp only [putAll, List.drop_succ_cons, List.drop_zero, Act.put, List.setIfInBounds_toArray, List.set_cons_zero, List.set_cons_succ]
                              clear vs
                              have HST6 := Lib.hid (HST5.out.below hS)
                              have HBE6 := Lib.hid (HBE5.out.trans (hS.mono HBE5.out.size))
                              have HBL6 := Lib.hid (HBL5.out.trans (hS.mono HBL5.out.size))
                              clear hS HST5 HBE5 HBL5 HSN5
                              go_wp2_with fail
                              go_roundw
                              case rel => exact ⟨q + 1, rfl, by omega, HST6.out, HBE6.out, HBL6.out⟩
                              case measure => simp [intOf]; omega
                          · have HRISE := Lib.hid (decide_eq_true (HKS.out.rise hpos hql))
                            go_upto_region 28 with fail
                            clear hdd
                            refine region_g 22 (fun _ _ => false) (fun i vs W => match i with
                                | 0 => vs 0 = .int .i64 (q : Int)
                                | 1 => vs 1 = .bool true
                                | 2 => vs 2 = .bool true
                                | 3 => vs 3 = .slice (some ⟨bs, os, none⟩) ls.length cs
                                | 4 => vs 4 = .int .i64 (q : Int)
                                | 5 => vs 5 = .int .i64 ((q - 1 : Nat) : Int)
                                | 6 => vs 6 = .pointer (some ⟨bs, os + (q - 1), none⟩)
                                | 7 => vs 7 = encStr (at_ ls (q - 1))
                                | 8 => vs 8 = .slice (some ⟨bs, os, none⟩) ls.length cs
                                | 9 => vs 9 = .int .i64 (q : Int)
                                | 10 => vs 10 = .pointer (some ⟨bs, os + (q), none⟩)
                                | 11 => vs 11 = encStr (at_ ls (q))
                                | 12 => vs 12 = .bool false
                                | 13 => vs 13 = .bool false
                                | 14 => vs 14 = .bool false
                                | 15 => vs 15 = .bool true
                                | 16 => vs 16 = .bool false
                                | 17 => vs 17 = .bool false
                                | 18 => vs 18 = .bool false
                                | 19 => vs 19 = .bool true
                                | 20 => vs 20 = .bool false
                                | 21 => vs 21 = .bool false
                                | _ => True) (fun _ W W' => Below W.heap.size W W') (fun W => Below W5.heap.size W5 W) (by kernel_rfl) (by kernel_rfl) ?hstt ?h0t ?stept ?fint
                            case hstt =>
                              intro i k vs W W' _ _ _ h hG
                              match i, h with
                              | 0, h => exact h
                              | 1, h => exact h
                              | 2, h => exact h
                              | 3, h => exact h
                              | 4, h => exact h
                              | 5, h => exact h
                              | 6, h => exact h
                              | 7, h => exact h
                              | 8, h => exact h
                              | 9, h => exact h
                              | 10, h => exact h
                              | 11, h => exact h
                              | 12, h => exact h
                              | 13, h => exact h
                              | 14, h => exact h
                              | 15, h => exact h
                              | 16, h => exact h
                              | 17, h => exact h
                              | 18, h => exact h
                              | 19, h => exact h
                              | 20, h => exact h
                              | 21, h => exact h
                              | n + 22, _ => trivial
                            case h0t => exact (Below.refl _ _).drew
                            case stept =>
                              intro i op hi ho ac W hS hag hdep
                              have hbr : Below W.heap.size W W := Below.refl _ _
                              match i, hi, ho with
                              | 0, _, rfl =>
                                refine gstep rfl ?_
                                exact ow_move _ rfl (v := .int .i64 (q : Int)) (hag 11 rfl) ⟨_, rfl, fun vs' h _ => h (fun e => by cases e), hbr, hS⟩
                              | 1, _, rfl =>
                                have h1 : ac.eval (.tmp 132) = .int .i64 (q : Int) := hdep 0 (by omega) (by kernel_rfl) (fun k _ h => by cases h)
                                refine gstep rfl ?_
                                exact ow_gtr0 _ _ _ rfl q true h1 (by first | (have := HZ.out; simp; omega) | (simp; omega)) ⟨_, rfl, fun vs' h _ => h (fun e => by cases e), hbr, hS⟩
                              | 2, _, rfl =>
                                have h1 : ac.eval (.tmp 133) = .bool true := hdep 1 (by omega) (by kernel_rfl) (fun k _ h => by cases h)
                                refine gstep rfl ?_
                                exact ow_move _ rfl h1 ⟨_, rfl, fun vs' h _ => h (fun e => by cases e), hbr, hS⟩
                              | 3, _, rfl =>
                                refine gstep (wanted_ok rfl rfl (hdep 2 (by omega) (by kernel_rfl) (fun k _ h => by cases h) : ac.eval (.tmp 134) = .bool true)) ?_
                                exact ow_move _ rfl (v := .slice (some ⟨bs, os, none⟩) ls.length cs) (hag 9 rfl) ⟨_, rfl, fun vs' h _ => h (fun e => by cases e), hbr, hS⟩
                              | 4, _, rfl =>
                                refine gstep (wanted_ok rfl rfl (hdep 2 (by omega) (by kernel_rfl) (fun k _ h => by cases h) : ac.eval (.tmp 134) = .bool true)) ?_
                                exact ow_move _ rfl (v := .int .i64 (q : Int)) (hag 11 rfl) ⟨_, rfl, fun vs' h _ => h (fun e => by cases e), hbr, hS⟩
                              | 5, _, rfl =>
                                have h1 : ac.eval (.tmp 136) = .int .i64 (q : Int) := hdep 4 (by omega) (by kernel_rfl) (fun k _ h => by cases h)
                                refine gstep (wanted_ok rfl rfl (hdep 2 (by omega) (by kernel_rfl) (fun k _ h => by cases h) : ac.eval (.tmp 134) = .bool true)) ?_
                                exact ow_sub1 _ _ rfl q h1 hpos (by omega) ⟨_, rfl, fun vs' h _ => h (fun e => by cases e), hbr, hS⟩
                              | 6, _, rfl =>
                                have hs : ac.eval (.tmp 135) = .slice (some ⟨bs, os, none⟩) ls.length cs := hdep 3 (by omega) (by kernel_rfl) (fun k _ h => by cases h)
                                have hi : ac.eval (.tmp 137) = .int .i64 ((q - 1 : Nat) : Int) := hdep 5 (by omega) (by kernel_rfl) (fun k _ h => by cases h)
                                refine gstep (wanted_ok rfl rfl (hdep 2 (by omega) (by kernel_rfl) (fun k _ h => by cases h) : ac.eval (.tmp 134) = .bool true)) ?_
                                exact ow_index _ _ 9 35 rfl bs os ls.length cs (q - 1) hs hi (by omega) Try.underlying35 tag9 ⟨_, rfl, fun vs' h _ => h (fun e => by cases e), hbr, hS⟩
                              | 7, _, rfl =>
                                have hp : ac.eval (.tmp 138) = .pointer (some ⟨bs, os + (q - 1), none⟩) := hdep 6 (by omega) (by kernel_rfl) (fun k _ h => by cases h)
                                refine gstep (wanted_ok rfl rfl (hdep 2 (by omega) (by kernel_rfl) (fun k _ h => by cases h) : ac.eval (.tmp 134) = .bool true)) ?_
                                exact ow_load_str _ 9 rfl bs (os + (q - 1)) hp _ (below_cell hS (HSN5.out (q - 1) (by omega))) Try.underlying9 ⟨_, rfl, fun vs' h _ => h (fun e => by cases e), hbr, hS⟩
                              | 8, _, rfl =>
                                refine gstep (wanted_ok rfl rfl (hdep 2 (by omega) (by kernel_rfl) (fun k _ h => by cases h) : ac.eval (.tmp 134) = .bool true)) ?_
                                exact ow_move _ rfl (v := .slice (some ⟨bs, os, none⟩) ls.length cs) (hag 9 rfl) ⟨_, rfl, fun vs' h _ => h (fun e => by cases e), hbr, hS⟩
                              | 9, _, rfl =>
                                refine gstep (wanted_ok rfl rfl (hdep 2 (by omega) (by kernel_rfl) (fun k _ h => by cases h) : ac.eval (.tmp 134) = .bool true)) ?_
                                exact ow_move _ rfl (v := .int .i64 (q : Int)) (hag 11 rfl) ⟨_, rfl, fun vs' h _ => h (fun e => by cases e), hbr, hS⟩
                              | 10, _, rfl =>
                                have hs : ac.eval (.tmp 140) = .slice (some ⟨bs, os, none⟩) ls.length cs := hdep 8 (by omega) (by kernel_rfl) (fun k _ h => by cases h)
                                have hi : ac.eval (.tmp 141) = .int .i64 (q : Int) := hdep 9 (by omega) (by kernel_rfl) (fun k _ h => by cases h)
                                refine gstep (wanted_ok rfl rfl (hdep 2 (by omega) (by kernel_rfl) (fun k _ h => by cases h) : ac.eval (.tmp 134) = .bool true)) ?_
                                exact ow_index _ _ 9 35 rfl bs os ls.length cs (q) hs hi hql Try.underlying35 tag9 ⟨_, rfl, fun vs' h _ => h (fun e => by cases e), hbr, hS⟩
                              | 11, _, rfl =>
                                have hp : ac.eval (.tmp 142) = .pointer (some ⟨bs, os + (q), none⟩) := hdep 10 (by omega) (by kernel_rfl) (fun k _ h => by cases h)
                                refine gstep (wanted_ok rfl rfl (hdep 2 (by omega) (by kernel_rfl) (fun k _ h => by cases h) : ac.eval (.tmp 134) = .bool true)) ?_
                                exact ow_load_str _ 9 rfl bs (os + (q)) hp _ (below_cell hS (HSN5.out (q) hql)) Try.underlying9 ⟨_, rfl, fun vs' h _ => h (fun e => by cases e), hbr, hS⟩
                              | 12, _, rfl =>
                                have h1 : ac.eval (.tmp 139) = encStr (at_ ls (q - 1)) := hdep 7 (by omega) (by kernel_rfl) (fun k _ h => by cases h)
                                have h2 : ac.eval (.tmp 143) = encStr (at_ ls (q)) := hdep 11 (by omega) (by kernel_rfl) (fun k _ h => by cases h)
                                refine gstep (wanted_ok rfl rfl (hdep 2 (by omega) (by kernel_rfl) (fun k _ h => by cases h) : ac.eval (.tmp 134) = .bool true)) ?_
                                exact ow_geq_str _ _ _ rfl _ _ h1 h2 (by rw [HRISE.out]; exact ⟨_, rfl, fun vs' h _ => h (fun e => by cases e), hbr, hS⟩)
                              | 13, _, rfl =>
                                have h1 : ac.eval (.tmp 134) = .bool true := hdep 2 (by omega) (by kernel_rfl) (fun k _ h => by cases h)
                                have h2 : ac.eval (.tmp 144) = .bool false := hdep 12 (by omega) (by kernel_rfl) (fun k _ h => by cases h)
                                refine gstep rfl ?_
                                exact ow_pick _ _ _ rfl true h1 (by simpa using h2) ⟨_, rfl, fun vs' h _ => h (fun e => by cases e), hbr, hS⟩
                              | 14, _, rfl =>
                                have h1 : ac.eval (.tmp 145) = .bool false := hdep 13 (by omega) (by kernel_rfl) (fun k _ h => by cases h)
                                refine gstep rfl ?_
                                exact ow_move _ rfl h1 ⟨_, rfl, fun vs' h _ => h (fun e => by cases e), hbr, hS⟩
                              | 15, _, rfl =>
                                refine gstep (wanted_ok rfl rfl (hdep 14 (by omega) (by kernel_rfl) (fun k _ h => by cases h) : ac.eval (.tmp 146) = .bool false)) ?_
                                exact ow_move _ rfl (v := .bool true) (hag 13 rfl) ⟨_, rfl, fun vs' h _ => h (fun e => by cases e), hbr, hS⟩
                              | 16, _, rfl =>
                                have h1 : ac.eval (.tmp 147) = .bool true := hdep 15 (by omega) (by kernel_rfl) (fun k _ h => by cases h)
                                refine gstep (wanted_ok rfl rfl (hdep 14 (by omega) (by kernel_rfl) (fun k _ h => by cases h) : ac.eval (.tmp 146) = .bool false)) ?_
                                exact ow_not _ 4 rfl true h1 ⟨_, rfl, fun vs' h _ => h (fun e => by cases e), hbr, hS⟩
                              | 17, _, rfl =>
                                have h1 : ac.eval (.tmp 146) = .bool false := hdep 14 (by omega) (by kernel_rfl) (fun k _ h => by cases h)
                                have h2 : ac.eval (.tmp 148) = .bool false := hdep 16 (by omega) (by kernel_rfl) (fun k _ h => by cases h)
                                refine gstep rfl ?_
                                exact ow_pick _ _ _ rfl false h1 (by simpa using h2) ⟨_, rfl, fun vs' h _ => h (fun e => by cases e), hbr, hS⟩
                              | 18, _, rfl =>
                                have h1 : ac.eval (.tmp 149) = .bool false := hdep 17 (by omega) (by kernel_rfl) (fun k _ h => by cases h)
                                refine gstep rfl ?_
                                exact ow_move _ rfl h1 ⟨_, rfl, fun vs' h _ => h (fun e => by cases e), hbr, hS⟩
                              | 19, _, rfl =>
                                refine gstep (wanted_ok rfl rfl (hdep 18 (by omega) (by kernel_rfl) (fun k _ h => by cases h) : ac.eval (.tmp 150) = .bool false)) ?_
                                exact ow_move _ rfl (v := .bool true) (hag 14 rfl) ⟨_, rfl, fun vs' h _ => h (fun e => by cases e), hbr, hS⟩
                              | 20, _, rfl =>
                                have h1 : ac.eval (.tmp 151) = .bool true := hdep 19 (by omega) (by kernel_rfl) (fun k _ h => by cases h)
                                refine gstep (wanted_ok rfl rfl (hdep 18 (by omega) (by kernel_rfl) (fun k _ h => by cases h) : ac.eval (.tmp 150) = .bool false)) ?_
                                exact ow_not _ 4 rfl true h1 ⟨_, rfl, fun vs' h _ => h (fun e => by cases e), hbr, hS⟩
                              | 21, _, rfl =>
                                have h1 : ac.eval (.tmp 150) = .bool false := hdep 18 (by omega) (by kernel_rfl) (fun k _ h => by cases h)
                                have h2 : ac.eval (.tmp 152) = .bool false := hdep 20 (by omega) (by kernel_rfl) (fun k _ h => by cases h)
                                refine gstep rfl ?_
                                exact ow_pick _ _ _ rfl false h1 (by simpa using h2) ⟨_, rfl, fun vs' h _ => h (fun e => by cases e), hbr, hS⟩
                              | n + 22, hi, _ => exact absurd hi (by omega)
                            case fint =>
                              intro vs W hS hF
                              have e21 : vs 21 = .bool false := hF 21 (by omega) (fun _ _ => rfl)
                              clear hF
                              change wpList _ _ _ _ (Act.put (Act.put (Act.put (Act.put (Act.put (Act.put (Act.put (Act.put (Act.put (Act.put (Act.put (Act.put (Act.put (Act.put (Act.put (Act.put (Act.put (Act.put (Act.put (Act.put (Act.put (Act.put _ (some 132) (vs 0)) (some 133) (vs 1)) (some 134) (vs 2)) (some 135) (vs 3)) (some 136) (vs 4)) (some 137) (vs 5)) (some 138) (vs 6)) (some 139) (vs 7)) (some 140) (vs 8)) (some 141) (vs 9)) (some 142) (vs 10)) (some 143) (vs 11)) (some 144) (vs 12)) (some 145) (vs 13)) (some 146) (vs 14)) (some 147) (vs 15)) (some 148) (vs 16)) (some 149) (vs 17)) (some 150) (vs 18)) (some 151) (vs 19)) (some 152) (vs 20)) (some 153) (vs 21)) W
                              rw [e21]
                              clear e21
                              generalize vs 0 = z0
                              generalize vs 1 = z1
                              generalize vs 2 = z2
                              generalize vs 3 = z3
                              generalize vs 4 = z4
                              generalize vs 5 = z5
                              generalize vs 6 = z6
                              generalize vs 7 = z7
                              generalize vs 8 = z8
                              generalize vs 9 = z9
                              generalize vs 10 = z10
                              generalize vs 11 = z11
                              generalize vs 12 = z12
                              generalize vs 13 = z13
                              generalize vs 14 = z14
                              generalize vs 15 = z15
                              generalize vs 16 = z16
                              generalize vs 17 = z17
                              generalize vs 18 = z18
                              generalize vs 19 = z19
                              generalize vs 20 = z20
                              simp only [putAll, List.drop_succ_cons, List.drop_zero, Act.put, List.setIfInBounds_toArray, List.set_cons_zero, List.set_cons_succ]
                              clear vs
                              have HST6 := Lib.hid (HST5.out.below hS)
                              have HBE6 := Lib.hid (HBE5.out.trans (hS.mono HBE5.out.size))
                              have HBL6 := Lib.hid (HBL5.out.trans (hS.mono HBL5.out.size))
                              clear hS HST5 HBE5 HBL5 HSN5
                              go_wp2_with fail
                              go_roundw
                              case rel => exact ⟨q + 1, rfl, by omega, HST6.out, HBE6.out, HBL6.out⟩
                              case measure => simp [intOf]; omega
                        · have hdd : decide ((j : Int) < (lo.length : Int)) = true := by simp; omega
                          have hdd' : decide (j < lo.length) = true := by simp; omega
                          obtain ⟨bo, oo, rfl, hca⟩ := HRO.out.resolve_left (by omega)
                          have hcx : W5.cell? ⟨bo, oo + j, none⟩ = some (encStr (at_ lo j)) := below_cell HBL5.out (hca j hjl)
                          have hkn1 : ∀ b', (b' = true ↔ b = true ∨ at_ lo j = c) → (b' = true ↔ c ∈ lo.take (j + 1)) := fun b' h => by rw [h, mem_take_succ hjl, HKN.out]
                          have HKN1 := Lib.hid hkn1
                          clear hca hkn1 HKN
                          cases b with
                          | true =>
                            go_wp2_with fail
                            go_roundw
                            case rel => exact ⟨j + 1, true, rfl, rfl, by omega, trivial, HKN1.out true (by simp)⟩
                            case measure => simp [intOf]; omega
                          | false =>
                            by_cases hxu : at_ lo j = c
                            · have hqq : (at_ lo j == c) = true := by simpa using hxu
                              have HXU := Lib.hid hxu
                              clear hxu
                              go_wp2_with fail
                              go_roundw
                              case rel => exact ⟨j + 1, true, rfl, rfl, by omega, trivial, HKN1.out true (by simpa using HXU.out)⟩
                              case measure => simp [intOf]; omega
                            · have hqq : (at_ lo j == c) = false := by simpa using hxu
                              have HXU := Lib.hid hxu
                              clear hxu
                              go_wp2_with fail
                              go_roundw
                              case rel => exact ⟨j + 1, false, rfl, rfl, by omega, trivial, HKN1.out false (by simpa using HXU.out)⟩
                              case measure => simp [intOf]; omega
              · have hd : decide ((q : Int) < (lo.length : Int)) = true := by simp; omega
                have hd' : decide (q < lo.length) = true := by simp; omega
                obtain ⟨bo, oo, rfl, hca⟩ := HRO.out.resolve_left (by omega)
                have HO := Lib.hid (fun k hk => below_cell HBL.out (hca k hk))
                have HRISE := Lib.hid (decide_eq_true (HKO.out.rise hpos hql))
                clear hca
                go_upto_region 17 with fail
                refine region_f 10 (fun i vs W => match i with
                    | 0 => vs 0 = .slice (some ⟨bo, oo, none⟩) lo.length co
                    | 1 => vs 1 = .int .i64 (q : Int)
                    | 2 => vs 2 = .int .i64 ((q - 1 : Nat) : Int)
                    | 3 => vs 3 = .pointer (some ⟨bo, oo + (q - 1), none⟩)
                    | 4 => vs 4 = encStr (at_ lo (q - 1))
                    | 5 => vs 5 = .slice (some ⟨bo, oo, none⟩) lo.length co
                    | 6 => vs 6 = .int .i64 (q : Int)
                    | 7 => vs 7 = .pointer (some ⟨bo, oo + (q), none⟩)
                    | 8 => vs 8 = encStr (at_ lo (q))
                    | 9 => vs 9 = .bool false
                    | _ => True) (fun _ W W' => Below W.heap.size W W') (fun W => Below wr.heap.size wr W) (by kernel_rfl) (by kernel_rfl) ?hsts ?h0s ?steps ?fins
                case hsts =>
                  intro i k vs W W' _ _ h hG
                  match i, h with
                  | 0, h => exact h
                  | 1, h => exact h
                  | 2, h => exact h
                  | 3, h => exact h
                  | 4, h => exact h
                  | 5, h => exact h
                  | 6, h => exact h
                  | 7, h => exact h
                  | 8, h => exact h
                  | 9, h => exact h
                  | n + 10, _ => trivial
                case h0s => exact (Below.refl _ _).drew
                case steps =>
                  intro i op hi ho ac W hS hag hdep
                  have hbr : Below W.heap.size W W := Below.refl _ _
                  match i, hi, ho with
                  | 0, _, rfl =>
                    exact ow_move _ rfl (v := .slice (some ⟨bo, oo, none⟩) lo.length co) (hag 8 rfl) ⟨_, rfl, fun vs' h _ => h (fun e => by cases e), hbr, hS⟩
                  | 1, _, rfl =>
                    exact ow_move _ rfl (v := .int .i64 (q : Int)) (hag 10 rfl) ⟨_, rfl, fun vs' h _ => h (fun e => by cases e), hbr, hS⟩
                  | 2, _, rfl =>
                    have h1 : ac.eval (.tmp 92) = .int .i64 (q : Int) := hdep 1 (by omega) (by kernel_rfl)
                    exact ow_sub1 _ _ rfl q h1 hpos (by omega) ⟨_, rfl, fun vs' h _ => h (fun e => by cases e), hbr, hS⟩
                  | 3, _, rfl =>
                    have hs : ac.eval (.tmp 91) = .slice (some ⟨bo, oo, none⟩) lo.length co := hdep 0 (by omega) (by kernel_rfl)
                    have hi : ac.eval (.tmp 93) = .int .i64 ((q - 1 : Nat) : Int) := hdep 2 (by omega) (by kernel_rfl)
                    exact ow_index _ _ 9 35 rfl bo oo lo.length co (q - 1) hs hi (by omega) Try.underlying35 tag9 ⟨_, rfl, fun vs' h _ => h (fun e => by cases e), hbr, hS⟩
                  | 4, _, rfl =>
                    have hp : ac.eval (.tmp 94) = .pointer (some ⟨bo, oo + (q - 1), none⟩) := hdep 3 (by omega) (by kernel_rfl)
                    exact ow_load_str _ 9 rfl bo (oo + (q - 1)) hp _ (below_cell hS (HO.out (q - 1) (by omega))) Try.underlying9 ⟨_, rfl, fun vs' h _ => h (fun e => by cases e), hbr, hS⟩
                  | 5, _, rfl =>
                    exact ow_move _ rfl (v := .slice (some ⟨bo, oo, none⟩) lo.length co) (hag 8 rfl) ⟨_, rfl, fun vs' h _ => h (fun e => by cases e), hbr, hS⟩
                  | 6, _, rfl =>
                    exact ow_move _ rfl (v := .int .i64 (q : Int)) (hag 10 rfl) ⟨_, rfl, fun vs' h _ => h (fun e => by cases e), hbr, hS⟩
                  | 7, _, rfl =>
                    have hs : ac.eval (.tmp 96) = .slice (some ⟨bo, oo, none⟩) lo.length co := hdep 5 (by omega) (by kernel_rfl)
                    have hi : ac.eval (.tmp 97) = .int .i64 (q : Int) := hdep 6 (by omega) (by kernel_rfl)
                    exact ow_index _ _ 9 35 rfl bo oo lo.length co (q) hs hi hql Try.underlying35 tag9 ⟨_, rfl, fun vs' h _ => h (fun e => by cases e), hbr, hS⟩
                  | 8, _, rfl =>
                    have hp : ac.eval (.tmp 98) = .pointer (some ⟨bo, oo + (q), none⟩) := hdep 7 (by omega) (by kernel_rfl)
                    exact ow_load_str _ 9 rfl bo (oo + (q)) hp _ (below_cell hS (HO.out (q) hql)) Try.underlying9 ⟨_, rfl, fun vs' h _ => h (fun e => by cases e), hbr, hS⟩
                  | 9, _, rfl =>
                    have h1 : ac.eval (.tmp 95) = encStr (at_ lo (q - 1)) := hdep 4 (by omega) (by kernel_rfl)
                    have h2 : ac.eval (.tmp 99) = encStr (at_ lo (q)) := hdep 8 (by omega) (by kernel_rfl)
                    exact ow_geq_str _ _ _ rfl _ _ h1 h2 (by rw [HRISE.out]; exact ⟨_, rfl, fun vs' h _ => h (fun e => by cases e), hbr, hS⟩)
                  | n + 10, hi, _ => exact absurd hi (by omega)
                case fins =>
                  intro vs W hS hF
                  have e9 : vs 9 = .bool false := hF 9 (by omega)
                  clear hF
                  change wpList _ _ _ _ (Act.put (Act.put (Act.put (Act.put (Act.put (Act.put (Act.put (Act.put (Act.put (Act.put _ (some 91) (vs 0)) (some 92) (vs 1)) (some 93) (vs 2)) (some 94) (vs 3)) (some 95) (vs 4)) (some 96) (vs 5)) (some 97) (vs 6)) (some 98) (vs 7)) (some 99) (vs 8)) (some 100) (vs 9)) W
                  rw [e9]
                  clear e9
                  generalize vs 0 = z0
                  generalize vs 1 = z1
                  generalize vs 2 = z2
                  generalize vs 3 = z3
                  generalize vs 4 = z4
                  generalize vs 5 = z5
                  generalize vs 6 = z6
                  generalize vs 7 = z7
                  generalize vs 8 = z8
                  simp only [putAll, List.drop_succ_cons, List.drop_zero, Act.put, List.setIfInBounds_toArray, List.set_cons_zero, List.set_cons_succ]
                  clear vs
                  have HST5 := Lib.hid (HST.out.below hS)
                  have HBE5 := Lib.hid (HBE.out.trans (hS.mono HBE.out.size))
                  have HBL5 := Lib.hid (HBL.out.trans (hS.mono HBL.out.size))
                  clear hS HST HBE HBL HO HRISE
                  go_wp2_with fail
                  go_roundw
                  case rel => exact ⟨q + 1, rfl, by omega, by omega, HST5.out, HBE5.out, HBL5.out⟩
                  case measure => simp [intOf]; omega
      · have hd : decide ((q : Int) < (al.length : Int)) = true := by simp; omega
        have hd' : decide (q < al.length) = true := by simp; omega
        obtain ⟨ba, oa, rfl, hca⟩ := HRA.out.resolve_left (by omega)
        have HA := Lib.hid (fun k hk => below_cell HBL.out (hca k hk))
        have HNE := Lib.hid (users_chans.1 (HKA.out.mem_at hql))
        have hkn1 : ∀ b', (b' = true ↔ b = true ∨ at_ al q = u) → (b' = true ↔ u ∈ al.take (q + 1)) := fun b' h => by rw [h, mem_take_succ hql, HKN.out]
        have HKN1 := Lib.hid hkn1
        have hcx : wr.cell? ⟨ba, oa + q, none⟩ = some (encStr (at_ al q)) := HA.out q hql
        clear hca hkn1 HKN
        rcases Nat.eq_zero_or_pos q with hz | hpos
        · have HZ := Lib.hid hz
          clear hz
          go_upto_region 8 with fail
          refine region_g 24 (fun _ _ => false) (fun i vs W => match i with
              | 0 => vs 0 = .int .i64 (q : Int)
              | 1 => vs 1 = .bool false
              | 2 => vs 2 = .bool false
              | 3 => True
              | 4 => True
              | 5 => True
              | 6 => True
              | 7 => True
              | 8 => True
              | 9 => True
              | 10 => True
              | 11 => True
              | 12 => True
              | 13 => vs 13 = .bool false
              | 14 => vs 14 = .bool false
              | 15 => vs 15 = .agg (stV sq dv lv sv)
              | 16 => vs 16 = .slice (some ⟨ba, oa, none⟩) al.length ca
              | 17 => vs 17 = .int .i64 (q : Int)
              | 18 => vs 18 = .pointer (some ⟨ba, oa + (q), none⟩)
              | 19 => vs 19 = encStr (at_ al (q))
              | 20 => ∃ A n c, vs 20 = .slice A n c ∧ 0 < n
              | 21 => ∃ n : Nat, vs 21 = .int .i64 (n : Int) ∧ 0 < n
              | 22 => vs 22 = .bool false
              | 23 => vs 23 = .bool false
              | _ => True) (fun _ W W' => Below W.heap.size W W') (fun W => Below wr.heap.size wr W) (by kernel_rfl) (by kernel_rfl) ?hstz ?h0z ?stepz ?finz
          case hstz =>
            intro i k vs W W' _ _ _ h hG
            match i, h with
            | 0, h => exact h
            | 1, h => exact h
            | 2, h => exact h
            | 3, h => exact h
            | 4, h => exact h
            | 5, h => exact h
            | 6, h => exact h
            | 7, h => exact h
            | 8, h => exact h
            | 9, h => exact h
            | 10, h => exact h
            | 11, h => exact h
            | 12, h => exact h
            | 13, h => exact h
            | 14, h => exact h
            | 15, h => exact h
            | 16, h => exact h
            | 17, h => exact h
            | 18, h => exact h
            | 19, h => exact h
            | 20, h => exact h
            | 21, h => exact h
            | 22, h => exact h
            | 23, h => exact h
            | n + 24, _ => trivial
          case h0z => exact (Below.refl _ _).drew
          case stepz =>
            intro i op hi ho ac W hS hag hdep
            have hbr : Below W.heap.size W W := Below.refl _ _
            match i, hi, ho with
            | 0, _, rfl =>
              refine gstep rfl ?_
              exact ow_move _ rfl (v := .int .i64 (q : Int)) (hag 7 rfl) ⟨_, rfl, fun vs' h _ => h (fun e => by cases e), hbr, hS⟩
            | 1, _, rfl =>
              have h1 : ac.eval (.tmp 32) = .int .i64 (q : Int) := hdep 0 (by omega) (by kernel_rfl) (fun k _ h => by cases h)
              refine gstep rfl ?_
              exact ow_gtr0 _ _ _ rfl q false h1 (by first | (have := HZ.out; simp; omega) | (simp; omega)) ⟨_, rfl, fun vs' h _ => h (fun e => by cases e), hbr, hS⟩
            | 2, _, rfl =>
              have h1 : ac.eval (.tmp 33) = .bool false := hdep 1 (by omega) (by kernel_rfl) (fun k _ h => by cases h)
              refine gstep rfl ?_
              exact ow_move _ rfl h1 ⟨_, rfl, fun vs' h _ => h (fun e => by cases e), hbr, hS⟩
            | 3, _, rfl =>
              refine gskip (wanted_no rfl rfl (hdep 2 (by omega) (by kernel_rfl) (fun k _ h => by cases h) : ac.eval (.tmp 34) = .bool false)) ?_
              exact ⟨_, rfl, fun _ _ _ => trivial, hbr, hS⟩
            | 4, _, rfl =>
              refine gskip (wanted_no rfl rfl (hdep 2 (by omega) (by kernel_rfl) (fun k _ h => by cases h) : ac.eval (.tmp 34) = .bool false)) ?_
              exact ⟨_, rfl, fun _ _ _ => trivial, hbr, hS⟩
            | 5, _, rfl =>
              refine gskip (wanted_no rfl rfl (hdep 2 (by omega) (by kernel_rfl) (fun k _ h => by cases h) : ac.eval (.tmp 34) = .bool false)) ?_
              exact ⟨_, rfl, fun _ _ _ => trivial, hbr, hS⟩
            | 6, _, rfl =>
              refine gskip (wanted_no rfl rfl (hdep 2 (by omega) (by kernel_rfl) (fun k _ h => by cases h) : ac.eval (.tmp 34) = .bool false)) ?_
              exact ⟨_, rfl, fun _ _ _ => trivial, hbr, hS⟩
            | 7, _, rfl =>
              refine gskip (wanted_no rfl rfl (hdep 2 (by omega) (by kernel_rfl) (fun k _ h => by cases h) : ac.eval (.tmp 34) = .bool false)) ?_
              exact ⟨_, rfl, fun _ _ _ => trivial, hbr, hS⟩
            | 8, _, rfl =>
              refine gskip (wanted_no rfl rfl (hdep 2 (by omega) (by kernel_rfl) (fun k _ h => by cases h) : ac.eval (.tmp 34) = .bool false)) ?_
              exact ⟨_, rfl, fun _ _ _ => trivial, hbr, hS⟩
            | 9, _, rfl =>
              refine gskip (wanted_no rfl rfl (hdep 2 (by omega) (by kernel_rfl) (fun k _ h => by cases h) : ac.eval (.tmp 34) = .bool false)) ?_
              exact ⟨_, rfl, fun _ _ _ => trivial, hbr, hS⟩
            | 10, _, rfl =>
              refine gskip (wanted_no rfl rfl (hdep 2 (by omega) (by kernel_rfl) (fun k _ h => by cases h) : ac.eval (.tmp 34) = .bool false)) ?_
              exact ⟨_, rfl, fun _ _ _ => trivial, hbr, hS⟩
            | 11, _, rfl =>
              refine gskip (wanted_no rfl rfl (hdep 2 (by omega) (by kernel_rfl) (fun k _ h => by cases h) : ac.eval (.tmp 34) = .bool false)) ?_
              exact ⟨_, rfl, fun _ _ _ => trivial, hbr, hS⟩
            | 12, _, rfl =>
              refine gskip (wanted_no rfl rfl (hdep 2 (by omega) (by kernel_rfl) (fun k _ h => by cases h) : ac.eval (.tmp 34) = .bool false)) ?_
              exact ⟨_, rfl, fun _ _ _ => trivial, hbr, hS⟩
            | 13, _, rfl =>
              have h1 : ac.eval (.tmp 34) = .bool false := hdep 2 (by omega) (by kernel_rfl) (fun k _ h => by cases h)
              refine gstep rfl ?_
              exact ow_pick _ _ _ rfl false h1 rfl ⟨_, rfl, fun vs' h _ => h (fun e => by cases e), hbr, hS⟩
            | 14, _, rfl =>
              have h1 : ac.eval (.tmp 45) = .bool false := hdep 13 (by omega) (by kernel_rfl) (fun k _ h => by cases h)
              refine gstep rfl ?_
              exact ow_move _ rfl h1 ⟨_, rfl, fun vs' h _ => h (fun e => by cases e), hbr, hS⟩
            | 15, _, rfl =>
              refine gstep (wanted_ok rfl rfl (hdep 14 (by omega) (by kernel_rfl) (fun k _ h => by cases h) : ac.eval (.tmp 46) = .bool false)) ?_
              exact ow_load_row 27 _ rfl N (hag 2 rfl) 27 _ (0, 0) _ (blk_below HST.out.row hS) Try.underlying27 rfl (by kernel_rfl) ⟨_, rfl, fun vs' h _ => h (fun e => by cases e), hbr, hS⟩
            | 16, _, rfl =>
              refine gstep (wanted_ok rfl rfl (hdep 14 (by omega) (by kernel_rfl) (fun k _ h => by cases h) : ac.eval (.tmp 46) = .bool false)) ?_
              exact ow_move _ rfl (v := .slice (some ⟨ba, oa, none⟩) al.length ca) (hag 5 rfl) ⟨_, rfl, fun vs' h _ => h (fun e => by cases e), hbr, hS⟩
            | 17, _, rfl =>
              refine gstep (wanted_ok rfl rfl (hdep 14 (by omega) (by kernel_rfl) (fun k _ h => by cases h) : ac.eval (.tmp 46) = .bool false)) ?_
              exact ow_move _ rfl (v := .int .i64 (q : Int)) (hag 7 rfl) ⟨_, rfl, fun vs' h _ => h (fun e => by cases e), hbr, hS⟩
            | 18, _, rfl =>
              have hs : ac.eval (.tmp 48) = .slice (some ⟨ba, oa, none⟩) al.length ca := hdep 16 (by omega) (by kernel_rfl) (fun k _ h => by cases h)
              have hi : ac.eval (.tmp 49) = .int .i64 (q : Int) := hdep 17 (by omega) (by kernel_rfl) (fun k _ h => by cases h)
              refine gstep (wanted_ok rfl rfl (hdep 14 (by omega) (by kernel_rfl) (fun k _ h => by cases h) : ac.eval (.tmp 46) = .bool false)) ?_
              exact ow_index _ _ 9 35 rfl ba oa al.length ca (q) hs hi hql Try.underlying35 tag9 ⟨_, rfl, fun vs' h _ => h (fun e => by cases e), hbr, hS⟩
            | 19, _, rfl =>
              have hp : ac.eval (.tmp 50) = .pointer (some ⟨ba, oa + (q), none⟩) := hdep 18 (by omega) (by kernel_rfl) (fun k _ h => by cases h)
              refine gstep (wanted_ok rfl rfl (hdep 14 (by omega) (by kernel_rfl) (fun k _ h => by cases h) : ac.eval (.tmp 46) = .bool false)) ?_
              exact ow_load_str _ 9 rfl ba (oa + (q)) hp _ (below_cell hS (HA.out (q) hql)) Try.underlying9 ⟨_, rfl, fun vs' h _ => h (fun e => by cases e), hbr, hS⟩
            | 20, _, rfl =>
              have h1 : ac.eval (.tmp 47) = .agg (stV sq dv lv sv) := hdep 15 (by omega) (by kernel_rfl) (fun k _ h => by cases h)
              have h2 : ac.eval (.tmp 51) = encStr (at_ al (q)) := hdep 19 (by omega) (by kernel_rfl) (fun k _ h => by cases h)
              refine gstep (wanted_ok rfl rfl (hdep 14 (by omega) (by kernel_rfl) (fun k _ h => by cases h) : ac.eval (.tmp 46) = .bool false)) ?_
              refine ow_call Try.func14 (by kernel_rfl) rfl _ _ rfl (vs := #[.agg (stV sq dv lv sv), encStr (at_ al q)]) (by simp only [List.map_toArray, List.map_cons, List.map_nil, h1, h2]) ?_
              refine ((HST.out.below hS).of (at_ al q)).mono ?_
              rintro e w' ⟨v, l', rfl, ⟨A', c', rfl, -, -⟩, hk, hbb⟩
              refine ⟨_, rfl, ⟨_, rfl, fun vs' h _ => ⟨A', l'.length, c', h (fun e => by cases e), ?_⟩, hbb, hS.trans (hbb.mono hS.size)⟩⟩
              exact List.length_pos_iff.2 (fun e => HNE.out (hk.nil.1 e))
            | 21, _, rfl =>
              refine gstep (wanted_ok rfl rfl (hdep 14 (by omega) (by kernel_rfl) (fun k _ h => by cases h) : ac.eval (.tmp 46) = .bool false)) ?_
              obtain ⟨A', n', c', h1, h2⟩ : ∃ A n c, ac.eval (.tmp 52) = .slice A n c ∧ 0 < n := hdep 20 (by omega) (by kernel_rfl) (fun k _ h => by cases h)
              exact ow_len35 _ rfl h1 ⟨_, rfl, fun vs' h _ => ⟨n', h (fun e => by cases e), h2⟩, hbr, hS⟩
            | 22, _, rfl =>
              refine gstep (wanted_ok rfl rfl (hdep 14 (by omega) (by kernel_rfl) (fun k _ h => by cases h) : ac.eval (.tmp 46) = .bool false)) ?_
              obtain ⟨n', h1, h2⟩ : ∃ n : Nat, ac.eval (.tmp 53) = .int .i64 (n : Int) ∧ 0 < n := hdep 21 (by omega) (by kernel_rfl) (fun k _ h => by cases h)
              exact ow_eql0 _ _ _ rfl n' false h1 (by simp; omega) ⟨_, rfl, fun vs' h _ => h (fun e => by cases e), hbr, hS⟩
            | 23, _, rfl =>
              have h1 : ac.eval (.tmp 46) = .bool false := hdep 14 (by omega) (by kernel_rfl) (fun k _ h => by cases h)
              have h2 : ac.eval (.tmp 54) = .bool false := hdep 22 (by omega) (by kernel_rfl) (fun k _ h => by cases h)
              refine gstep rfl ?_
              exact ow_pick _ _ _ rfl false h1 (by simpa using h2) ⟨_, rfl, fun vs' h _ => h (fun e => by cases e), hbr, hS⟩
            | n + 24, hi, _ => exact absurd hi (by omega)
          case finz =>
            intro vs W hS hF
            have e23 : vs 23 = .bool false := hF 23 (by omega) (fun _ _ => rfl)
            clear hF
            change wpList _ _ _ _ (Act.put (Act.put (Act.put (Act.put (Act.put (Act.put (Act.put (Act.put (Act.put (Act.put (Act.put (Act.put (Act.put (Act.put (Act.put (Act.put (Act.put (Act.put (Act.put (Act.put (Act.put (Act.put (Act.put (Act.put _ (some 32) (vs 0)) (some 33) (vs 1)) (some 34) (vs 2)) (some 35) (vs 3)) (some 36) (vs 4)) (some 37) (vs 5)) (some 38) (vs 6)) (some 39) (vs 7)) (some 40) (vs 8)) (some 41) (vs 9)) (some 42) (vs 10)) (some 43) (vs 11)) (some 44) (vs 12)) (some 45) (vs 13)) (some 46) (vs 14)) (some 47) (vs 15)) (some 48) (vs 16)) (some 49) (vs 17)) (some 50) (vs 18)) (some 51) (vs 19)) (some 52) (vs 20)) (some 53) (vs 21)) (some 54) (vs 22)) (some 55) (vs 23)) W
            rw [e23]
            clear e23
            generalize vs 0 = z0
            generalize vs 1 = z1
            generalize vs 2 = z2
            generalize vs 3 = z3
            generalize vs 4 = z4
            generalize vs 5 = z5
            generalize vs 6 = z6
            generalize vs 7 = z7
            generalize vs 8 = z8
            generalize vs 9 = z9
            generalize vs 10 = z10
            generalize vs 11 = z11
            generalize vs 12 = z12
            generalize vs 13 = z13
            generalize vs 14 = z14
            generalize vs 15 = z15
            generalize vs 16 = z16
            generalize vs 17 = z17
            generalize vs 18 = z18
            generalize vs 19 = z19
            generalize vs 20 = z20
            generalize vs 21 = z21
            generalize vs 22 = z22
            simp only [putAll, List.drop_succ_cons, List.drop_zero, Act.put, List.setIfInBounds_toArray, List.set_cons_zero, List.set_cons_succ]
            clear vs
            have HST3 := Lib.hid (HST.out.below hS)
            have HBE3 := Lib.hid (HBE.out.trans (hS.mono HBE.out.size))
            have HBL3 := Lib.hid (HBL.out.trans (hS.mono HBL.out.size))
            replace hcx := below_cell hS hcx
            clear hS HST HBE HBL HA HNE
            cases b with
            | true =>
              go_wp2_with fail
              go_roundw
              case rel => exact ⟨q + 1, true, rfl, rfl, by omega, HST3.out, HBE3.out, HBL3.out, HKN1.out true (by simp)⟩
              case measure => simp [intOf]; omega
            | false =>
              by_cases hxu : at_ al q = u
              · have hqq : (at_ al q == u) = true := by simpa using hxu
                have HXU := Lib.hid hxu
                clear hxu
                go_wp2_with fail
                go_roundw
                case rel => exact ⟨q + 1, true, rfl, rfl, by omega, HST3.out, HBE3.out, HBL3.out, HKN1.out true (by simpa using HXU.out)⟩
                case measure => simp [intOf]; omega
              · have hqq : (at_ al q == u) = false := by simpa using hxu
                have HXU := Lib.hid hxu
                clear hxu
                go_wp2_with fail
                go_roundw
                case rel => exact ⟨q + 1, false, rfl, rfl, by omega, HST3.out, HBE3.out, HBL3.out, HKN1.out false (by simpa using HXU.out)⟩
                case measure => simp [intOf]; omega
        · have HRISE := Lib.hid (decide_eq_true (HKA.out.rise hpos hql))
          go_upto_region 8 with fail
          refine region_g 24 (fun _ _ => false) (fun i vs W => match i with
              | 0 => vs 0 = .int .i64 (q : Int)
              | 1 => vs 1 = .bool true
              | 2 => vs 2 = .bool true
              | 3 => vs 3 = .slice (some ⟨ba, oa, none⟩) al.length ca
              | 4 => vs 4 = .int .i64 (q : Int)
              | 5 => vs 5 = .int .i64 ((q - 1 : Nat) : Int)
              | 6 => vs 6 = .pointer (some ⟨ba, oa + (q - 1), none⟩)
              | 7 => vs 7 = encStr (at_ al (q - 1))
              | 8 => vs 8 = .slice (some ⟨ba, oa, none⟩) al.length ca
              | 9 => vs 9 = .int .i64 (q : Int)
              | 10 => vs 10 = .pointer (some ⟨ba, oa + (q), none⟩)
              | 11 => vs 11 = encStr (at_ al (q))
              | 12 => vs 12 = .bool false
              | 13 => vs 13 = .bool false
              | 14 => vs 14 = .bool false
              | 15 => vs 15 = .agg (stV sq dv lv sv)
              | 16 => vs 16 = .slice (some ⟨ba, oa, none⟩) al.length ca
              | 17 => vs 17 = .int .i64 (q : Int)
              | 18 => vs 18 = .pointer (some ⟨ba, oa + (q), none⟩)
              | 19 => vs 19 = encStr (at_ al (q))
              | 20 => ∃ A n c, vs 20 = .slice A n c ∧ 0 < n
              | 21 => ∃ n : Nat, vs 21 = .int .i64 (n : Int) ∧ 0 < n
              | 22 => vs 22 = .bool false
              | 23 => vs 23 = .bool false
              | _ => True) (fun _ W W' => Below W.heap.size W W') (fun W => Below wr.heap.size wr W) (by kernel_rfl) (by kernel_rfl) ?hstp ?h0p ?stepp ?finp
          case hstp =>
            intro i k vs W W' _ _ _ h hG
            match i, h with
            | 0, h => exact h
            | 1, h => exact h
            | 2, h => exact h
            | 3, h => exact h
            | 4, h => exact h
            | 5, h => exact h
            | 6, h => exact h
            | 7, h => exact h
            | 8, h => exact h
            | 9, h => exact h
            | 10, h => exact h
            | 11, h => exact h
            | 12, h => exact h
            | 13, h => exact h
            | 14, h => exact h
            | 15, h => exact h
            | 16, h => exact h
            | 17, h => exact h
            | 18, h => exact h
            | 19, h => exact h
            | 20, h => exact h
            | 21, h => exact h
            | 22, h => exact h
            | 23, h => exact h
            | n + 24, _ => trivial
          case h0p => exact (Below.refl _ _).drew
          case stepp =>
            intro i op hi ho ac W hS hag hdep
            have hbr : Below W.heap.size W W := Below.refl _ _
            match i, hi, ho with
            | 0, _, rfl =>
              refine gstep rfl ?_
              exact ow_move _ rfl (v := .int .i64 (q : Int)) (hag 7 rfl) ⟨_, rfl, fun vs' h _ => h (fun e => by cases e), hbr, hS⟩
            | 1, _, rfl =>
              have h1 : ac.eval (.tmp 32) = .int .i64 (q : Int) := hdep 0 (by omega) (by kernel_rfl) (fun k _ h => by cases h)
              refine gstep rfl ?_
              exact ow_gtr0 _ _ _ rfl q true h1 (by first | (have := HZ.out; simp; omega) | (simp; omega)) ⟨_, rfl, fun vs' h _ => h (fun e => by cases e), hbr, hS⟩
            | 2, _, rfl =>
              have h1 : ac.eval (.tmp 33) = .bool true := hdep 1 (by omega) (by kernel_rfl) (fun k _ h => by cases h)
              refine gstep rfl ?_
              exact ow_move _ rfl h1 ⟨_, rfl, fun vs' h _ => h (fun e => by cases e), hbr, hS⟩
            | 3, _, rfl =>
              refine gstep (wanted_ok rfl rfl (hdep 2 (by omega) (by kernel_rfl) (fun k _ h => by cases h) : ac.eval (.tmp 34) = .bool true)) ?_
              exact ow_move _ rfl (v := .slice (some ⟨ba, oa, none⟩) al.length ca) (hag 5 rfl) ⟨_, rfl, fun vs' h _ => h (fun e => by cases e), hbr, hS⟩
            | 4, _, rfl =>
              refine gstep (wanted_ok rfl rfl (hdep 2 (by omega) (by kernel_rfl) (fun k _ h => by cases h) : ac.eval (.tmp 34) = .bool true)) ?_
              exact ow_move _ rfl (v := .int .i64 (q : Int)) (hag 7 rfl) ⟨_, rfl, fun vs' h _ => h (fun e => by cases e), hbr, hS⟩
            | 5, _, rfl =>
              have h1 : ac.eval (.tmp 36) = .int .i64 (q : Int) := hdep 4 (by omega) (by kernel_rfl) (fun k _ h => by cases h)
              refine gstep (wanted_ok rfl rfl (hdep 2 (by omega) (by kernel_rfl) (fun k _ h => by cases h) : ac.eval (.tmp 34) = .bool true)) ?_
              exact ow_sub1 _ _ rfl q h1 hpos (by omega) ⟨_, rfl, fun vs' h _ => h (fun e => by cases e), hbr, hS⟩
            | 6, _, rfl =>
              have hs : ac.eval (.tmp 35) = .slice (some ⟨ba, oa, none⟩) al.length ca := hdep 3 (by omega) (by kernel_rfl) (fun k _ h => by cases h)
              have hi : ac.eval (.tmp 37) = .int .i64 ((q - 1 : Nat) : Int) := hdep 5 (by omega) (by kernel_rfl) (fun k _ h => by cases h)
              refine gstep (wanted_ok rfl rfl (hdep 2 (by omega) (by kernel_rfl) (fun k _ h => by cases h) : ac.eval (.tmp 34) = .bool true)) ?_
              exact ow_index _ _ 9 35 rfl ba oa al.length ca (q - 1) hs hi (by omega) Try.underlying35 tag9 ⟨_, rfl, fun vs' h _ => h (fun e => by cases e), hbr, hS⟩
            | 7, _, rfl =>
              have hp : ac.eval (.tmp 38) = .pointer (some ⟨ba, oa + (q - 1), none⟩) := hdep 6 (by omega) (by kernel_rfl) (fun k _ h => by cases h)
              refine gstep (wanted_ok rfl rfl (hdep 2 (by omega) (by kernel_rfl) (fun k _ h => by cases h) : ac.eval (.tmp 34) = .bool true)) ?_
              exact ow_load_str _ 9 rfl ba (oa + (q - 1)) hp _ (below_cell hS (HA.out (q - 1) (by omega))) Try.underlying9 ⟨_, rfl, fun vs' h _ => h (fun e => by cases e), hbr, hS⟩
            | 8, _, rfl =>
              refine gstep (wanted_ok rfl rfl (hdep 2 (by omega) (by kernel_rfl) (fun k _ h => by cases h) : ac.eval (.tmp 34) = .bool true)) ?_
              exact ow_move _ rfl (v := .slice (some ⟨ba, oa, none⟩) al.length ca) (hag 5 rfl) ⟨_, rfl, fun vs' h _ => h (fun e => by cases e), hbr, hS⟩
            | 9, _, rfl =>
              refine gstep (wanted_ok rfl rfl (hdep 2 (by omega) (by kernel_rfl) (fun k _ h => by cases h) : ac.eval (.tmp 34) = .bool true)) ?_
              exact ow_move _ rfl (v := .int .i64 (q : Int)) (hag 7 rfl) ⟨_, rfl, fun vs' h _ => h (fun e => by cases e), hbr, hS⟩
            | 10, _, rfl =>
              have hs : ac.eval (.tmp 40) = .slice (some ⟨ba, oa, none⟩) al.length ca := hdep 8 (by omega) (by kernel_rfl) (fun k _ h => by cases h)
              have hi : ac.eval (.tmp 41) = .int .i64 (q : Int) := hdep 9 (by omega) (by kernel_rfl) (fun k _ h => by cases h)
              refine gstep (wanted_ok rfl rfl (hdep 2 (by omega) (by kernel_rfl) (fun k _ h => by cases h) : ac.eval (.tmp 34) = .bool true)) ?_
              exact ow_index _ _ 9 35 rfl ba oa al.length ca (q) hs hi hql Try.underlying35 tag9 ⟨_, rfl, fun vs' h _ => h (fun e => by cases e), hbr, hS⟩
            | 11, _, rfl =>
              have hp : ac.eval (.tmp 42) = .pointer (some ⟨ba, oa + (q), none⟩) := hdep 10 (by omega) (by kernel_rfl) (fun k _ h => by cases h)
              refine gstep (wanted_ok rfl rfl (hdep 2 (by omega) (by kernel_rfl) (fun k _ h => by cases h) : ac.eval (.tmp 34) = .bool true)) ?_
              exact ow_load_str _ 9 rfl ba (oa + (q)) hp _ (below_cell hS (HA.out (q) hql)) Try.underlying9 ⟨_, rfl, fun vs' h _ => h (fun e => by cases e), hbr, hS⟩
            | 12, _, rfl =>
              have h1 : ac.eval (.tmp 39) = encStr (at_ al (q - 1)) := hdep 7 (by omega) (by kernel_rfl) (fun k _ h => by cases h)
              have h2 : ac.eval (.tmp 43) = encStr (at_ al (q)) := hdep 11 (by omega) (by kernel_rfl) (fun k _ h => by cases h)
              refine gstep (wanted_ok rfl rfl (hdep 2 (by omega) (by kernel_rfl) (fun k _ h => by cases h) : ac.eval (.tmp 34) = .bool true)) ?_
              exact ow_geq_str _ _ _ rfl _ _ h1 h2 (by rw [HRISE.out]; exact ⟨_, rfl, fun vs' h _ => h (fun e => by cases e), hbr, hS⟩)
            | 13, _, rfl =>
              have h1 : ac.eval (.tmp 34) = .bool true := hdep 2 (by omega) (by kernel_rfl) (fun k _ h => by cases h)
              have h2 : ac.eval (.tmp 44) = .bool false := hdep 12 (by omega) (by kernel_rfl) (fun k _ h => by cases h)
              refine gstep rfl ?_
              exact ow_pick _ _ _ rfl true h1 (by simpa using h2) ⟨_, rfl, fun vs' h _ => h (fun e => by cases e), hbr, hS⟩
            | 14, _, rfl =>
              have h1 : ac.eval (.tmp 45) = .bool false := hdep 13 (by omega) (by kernel_rfl) (fun k _ h => by cases h)
              refine gstep rfl ?_
              exact ow_move _ rfl h1 ⟨_, rfl, fun vs' h _ => h (fun e => by cases e), hbr, hS⟩
            | 15, _, rfl =>
              refine gstep (wanted_ok rfl rfl (hdep 14 (by omega) (by kernel_rfl) (fun k _ h => by cases h) : ac.eval (.tmp 46) = .bool false)) ?_
              exact ow_load_row 27 _ rfl N (hag 2 rfl) 27 _ (0, 0) _ (blk_below HST.out.row hS) Try.underlying27 rfl (by kernel_rfl) ⟨_, rfl, fun vs' h _ => h (fun e => by cases e), hbr, hS⟩
            | 16, _, rfl =>
              refine gstep (wanted_ok rfl rfl (hdep 14 (by omega) (by kernel_rfl) (fun k _ h => by cases h) : ac.eval (.tmp 46) = .bool false)) ?_
              exact ow_move _ rfl (v := .slice (some ⟨ba, oa, none⟩) al.length ca) (hag 5 rfl) ⟨_, rfl, fun vs' h _ => h (fun e => by cases e), hbr, hS⟩
            | 17, _, rfl =>
              refine gstep (wanted_ok rfl rfl (hdep 14 (by omega) (by kernel_rfl) (fun k _ h => by cases h) : ac.eval (.tmp 46) = .bool false)) ?_
              exact ow_move _ rfl (v := .int .i64 (q : Int)) (hag 7 rfl) ⟨_, rfl, fun vs' h _ => h (fun e => by cases e), hbr, hS⟩
            | 18, _, rfl =>
              have hs : ac.eval (.tmp 48) = .slice (some ⟨ba, oa, none⟩) al.length ca := hdep 16 (by omega) (by kernel_rfl) (fun k _ h => by cases h)
              have hi : ac.eval (.tmp 49) = .int .i64 (q : Int) := hdep 17 (by omega) (by kernel_rfl) (fun k _ h => by cases h)
              refine gstep (wanted_ok rfl rfl (hdep 14 (by omega) (by kernel_rfl) (fun k _ h => by cases h) : ac.eval (.tmp 46) = .bool false)) ?_
              exact ow_index _ _ 9 35 rfl ba oa al.length ca (q) hs hi hql Try.underlying35 tag9 ⟨_, rfl, fun vs' h _ => h (fun e => by cases e), hbr, hS⟩
            | 19, _, rfl =>
              have hp : ac.eval (.tmp 50) = .pointer (some ⟨ba, oa + (q), none⟩) := hdep 18 (by omega) (by kernel_rfl) (fun k _ h => by cases h)
              refine gstep (wanted_ok rfl rfl (hdep 14 (by omega) (by kernel_rfl) (fun k _ h => by cases h) : ac.eval (.tmp 46) = .bool false)) ?_
              exact ow_load_str _ 9 rfl ba (oa + (q)) hp _ (below_cell hS (HA.out (q) hql)) Try.underlying9 ⟨_, rfl, fun vs' h _ => h (fun e => by cases e), hbr, hS⟩
            | 20, _, rfl =>
              have h1 : ac.eval (.tmp 47) = .agg (stV sq dv lv sv) := hdep 15 (by omega) (by kernel_rfl) (fun k _ h => by cases h)
              have h2 : ac.eval (.tmp 51) = encStr (at_ al (q)) := hdep 19 (by omega) (by kernel_rfl) (fun k _ h => by cases h)
              refine gstep (wanted_ok rfl rfl (hdep 14 (by omega) (by kernel_rfl) (fun k _ h => by cases h) : ac.eval (.tmp 46) = .bool false)) ?_
              refine ow_call Try.func14 (by kernel_rfl) rfl _ _ rfl (vs := #[.agg (stV sq dv lv sv), encStr (at_ al q)]) (by simp only [List.map_toArray, List.map_cons, List.map_nil, h1, h2]) ?_
              refine ((HST.out.below hS).of (at_ al q)).mono ?_
              rintro e w' ⟨v, l', rfl, ⟨A', c', rfl, -, -⟩, hk, hbb⟩
              refine ⟨_, rfl, ⟨_, rfl, fun vs' h _ => ⟨A', l'.length, c', h (fun e => by cases e), ?_⟩, hbb, hS.trans (hbb.mono hS.size)⟩⟩
              exact List.length_pos_iff.2 (fun e => HNE.out (hk.nil.1 e))
            | 21, _, rfl =>
              refine gstep (wanted_ok rfl rfl (hdep 14 (by omega) (by kernel_rfl) (fun k _ h => by cases h) : ac.eval (.tmp 46) = .bool false)) ?_
              obtain ⟨A', n', c', h1, h2⟩ : ∃ A n c, ac.eval (.tmp 52) = .slice A n c ∧ 0 < n := hdep 20 (by omega) (by kernel_rfl) (fun k _ h => by cases h)
              exact ow_len35 _ rfl h1 ⟨_, rfl, fun vs' h _ => ⟨n', h (fun e => by cases e), h2⟩, hbr, hS⟩
            | 22, _, rfl =>
              refine gstep (wanted_ok rfl rfl (hdep 14 (by omega) (by kernel_rfl) (fun k _ h => by cases h) : ac.eval (.tmp 46) = .bool false)) ?_
              obtain ⟨n', h1, h2⟩ : ∃ n : Nat, ac.eval (.tmp 53) = .int .i64 (n : Int) ∧ 0 < n := hdep 21 (by omega) (by kernel_rfl) (fun k _ h => by cases h)
              exact ow_eql0 _ _ _ rfl n' false h1 (by simp; omega) ⟨_, rfl, fun vs' h _ => h (fun e => by cases e), hbr, hS⟩
            | 23, _, rfl =>
              have h1 : ac.eval (.tmp 46) = .bool false := hdep 14 (by omega) (by kernel_rfl) (fun k _ h => by cases h)
              have h2 : ac.eval (.tmp 54) = .bool false := hdep 22 (by omega) (by kernel_rfl) (fun k _ h => by cases h)
              refine gstep rfl ?_
              exact ow_pick _ _ _ rfl false h1 (by simpa using h2) ⟨_, rfl, fun vs' h _ => h (fun e => by cases e), hbr, hS⟩
            | n + 24, hi, _ => exact absurd hi (by omega)
          case finp =>
            intro vs W hS hF
            have e23 : vs 23 = .bool false := hF 23 (by omega) (fun _ _ => rfl)
            clear hF
            change wpList _ _ _ _ (Act.put (Act.put (Act.put (Act.put (Act.put (Act.put (Act.put (Act.put (Act.put (Act.put (Act.put (Act.put (Act.put (Act.put (Act.put (Act.put (Act.put (Act.put (Act.put (Act.put (Act.put (Act.put (Act.put (Act.put _ (some 32) (vs 0)) (some 33) (vs 1)) (some 34) (vs 2)) (some 35) (vs 3)) (some 36) (vs 4)) (some 37) (vs 5)) (some 38) (vs 6)) (some 39) (vs 7)) (some 40) (vs 8)) (some 41) (vs 9)) (some 42) (vs 10)) (some 43) (vs 11)) (some 44) (vs 12)) (some 45) (vs 13)) (some 46) (vs 14)) (some 47) (vs 15)) (some 48) (vs 16)) (some 49) (vs 17)) (some 50) (vs 18)) (some 51) (vs 19)) (some 52) (vs 20)) (some 53) (vs 21)) (some 54) (vs 22)) (some 55) (vs 23)) W
            rw [e23]
            clear e23
            generalize vs 0 = z0
            generalize vs 1 = z1
            generalize vs 2 = z2
            generalize vs 3 = z3
            generalize vs 4 = z4
            generalize vs 5 = z5
            generalize vs 6 = z6
            generalize vs 7 = z7
            generalize vs 8 = z8
            generalize vs 9 = z9
            generalize vs 10 = z10
            generalize vs 11 = z11
            generalize vs 12 = z12
            generalize vs 13 = z13
            generalize vs 14 = z14
            generalize vs 15 = z15
            generalize vs 16 = z16
            generalize vs 17 = z17
            generalize vs 18 = z18
            generalize vs 19 = z19
            generalize vs 20 = z20
            generalize vs 21 = z21
            generalize vs 22 = z22
            simp only [putAll, List.drop_succ_cons, List.drop_zero, Act.put, List.setIfInBounds_toArray, List.set_cons_zero, List.set_cons_succ]
            clear vs
            have HST3 := Lib.hid (HST.out.below hS)
            have HBE3 := Lib.hid (HBE.out.trans (hS.mono HBE.out.size))
            have HBL3 := Lib.hid (HBL.out.trans (hS.mono HBL.out.size))
            replace hcx := below_cell hS hcx
            clear hS HST HBE HBL HA HNE
            cases b with
            | true =>
              go_wp2_with fail
              go_roundw
              case rel => exact ⟨q + 1, true, rfl, rfl, by omega, HST3.out, HBE3.out, HBL3.out, HKN1.out true (by simp)⟩
              case measure => simp [intOf]; omega
            | false =>
              by_cases hxu : at_ al q = u
              · have hqq : (at_ al q == u) = true := by simpa using hxu
                have HXU := Lib.hid hxu
                clear hxu
                go_wp2_with fail
                go_roundw
                case rel => exact ⟨q + 1, true, rfl, rfl, by omega, HST3.out, HBE3.out, HBL3.out, HKN1.out true (by simpa using HXU.out)⟩
                case measure => simp [intOf]; omega
              · have hqq : (at_ al q == u) = false := by simpa using hxu
                have HXU := Lib.hid hxu
                clear hxu
                go_wp2_with fail
                go_roundw
                case rel => exact ⟨q + 1, false, rfl, rfl, by omega, HST3.out, HBE3.out, HBL3.out, HKN1.out false (by simpa using HXU.out)⟩
                case measure => simp [intOf]; omega
end Go.Proofs.Ytncjgfhipflokaa
