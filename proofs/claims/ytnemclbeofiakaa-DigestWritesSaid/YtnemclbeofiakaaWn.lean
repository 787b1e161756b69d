/-
  digest.Write.
-/
import Derived.Test.YtnemclbeofiakaaWm
namespace Go.Proofs.Ytnemclbeofiakaa
open Go.RowKit Bl

theorem writeL_wds : ∀ (f : Nat) (h : List Nat) (n : Nat) (r : List UInt8), Wds 8 h → n < 18446744073709551616 → Wds 8 (writeL f h n r).1 ∧ (writeL f h n r).2.1 < 18446744073709551616 ∧ (writeL f h n r).2.2.length ≤ r.length := by
  intro f
  induction f with
  | zero => intro h n r hh hn; exact ⟨hh, hn, Nat.le_refl _⟩
  | succ f ih =>
    intro h n r hh hn
    simp only [writeL]
    split
    · exact ⟨hh, hn, Nat.le_refl _⟩
    · have := ih _ ((n + 64) % 18446744073709551616) (r.drop 64) (hh.mixF (wordsF (r.take 64)) ((n + 64) % 18446744073709551616) false) (Nat.mod_lt _ (by decide))
      refine ⟨this.1, this.2.1, ?_⟩
      have h3 := this.2.2
      simp at h3
      omega

theorem own_move {A W : World} {B : Nat} {e : TypeId} {n : Nat} {v : Value} {xs : List Value} (h : A.ownsRow B e 1 v n xs) (hk : ∀ k cs, B ≤ k → A.heap[k]? = some (.cells cs e (0, 0)) → W.heap[k]? = some (.cells cs e (0, 0))) : W.ownsRow B e 1 v n xs := by
  refine ⟨h.1, h.2.imp id ?_⟩
  rintro ⟨g, cap, cur, h1, h2, h3, h4⟩
  exact ⟨g, cap, cur, h1, h2, hk g cur h2 h3, h4⟩
/-- Write, in its loop -/
structure WrAt (g : Nat) (w : World) (h : List Nat) (n : Nat) (size : Int) (sl : Value) (r : List UInt8) (W : World) : Prop where
  dg : DgAt g h n size sl r W
  res : W.heap[g + 1]? = some (.cells (dgV (List.replicate 8 0) nilS 0 0) 33 (0, 0))
  below : Below g w W
theorem WrAt.keep {g : Nat} {w : World} {h : List Nat} {n : Nat} {size : Int} {sl : Value} {r : List UInt8} {W W' : World} (H : WrAt g w h n size sl r W) (hb : Below W.heap.size W W') : WrAt g w h n size sl r W' :=
  ⟨H.dg.below hb, blk_below H.res hb, H.below.trans (hb.mono (by have := blk_lt H.dg.row; omega))⟩
theorem WrAt.grown {g : Nat} {w : World} {h h' : List Nat} {n n' : Nat} {size : Int} {A : Option Addr} {m c : Nat} {r : List UInt8} {W W' : World} (H : WrAt g w h n size (.slice A m c) r W) (hg : W.grownBy W' (some g)) (hh' : Wds 8 h') (hn' : n' < 18446744073709551616)
    (hrow : W'.heap[g]? = some (.cells (dgV h' (.slice A m c) n' size) 33 (0, 0))) : WrAt g w h' n' size (.slice A m c) r W' :=
  ⟨⟨hrow, H.dg.data.grown33 H.dg.row (dgV_nobyte n size) hg, hh', hn'⟩, blk_grown H.res hg (fun e => by injection e with e; omega), H.below.grown hg (by have := blk_lt H.dg.row; omega) (fun k e => by injection e with e; omega)⟩
theorem wr_set8 {g : Nat} {w : World} {h : List Nat} {n : Nat} {size : Int} {A A2 : Option Addr} {m c m2 c2 : Nat} {r2 : List UInt8} {W : World} (hrow : W.heap[g]? = some (.cells (dgV h (.slice A m c) n size) 33 (0, 0))) (hres : W.heap[g + 1]? = some (.cells (dgV (List.replicate 8 0) nilS 0 0) 33 (0, 0)))
    (hb : Below g w W) (hh : Wds 8 h) (hn : n < 18446744073709551616) (hs : SB W (.slice A2 m2 c2) r2) : WrAt g w h n size (.slice A2 m2 c2) r2 (W.setCell ⟨g, 8, none⟩ (.slice A2 m2 c2)) := by
  have hg : W.grownBy (W.setCell ⟨g, 8, none⟩ (.slice A2 m2 c2)) (some g) := grown_setCell (grown_refl _ _) _ _
  refine ⟨⟨?_, hs.grown33 hrow (dgV_nobyte n size) hg, hh, hn⟩, blk_grown hres hg (fun e => by injection e with e; omega), hb.grown hg (by have := blk_lt hrow; omega) (fun k e => by injection e with e; omega)⟩
  have := blk_setCell (i := 8) hrow (.slice A2 m2 c2)
  rwa [dgV_set_sl hh.1] at this
theorem WrAt.set9 {g : Nat} {w : World} {h : List Nat} {n : Nat} {size : Int} {A : Option Addr} {m c : Nat} {r : List UInt8} {W : World} (H : WrAt g w h n size (.slice A m c) r W) (n' : Nat) (hn' : n' < 18446744073709551616) :
    WrAt g w h n' size (.slice A m c) r (W.setCell ⟨g, 9, none⟩ (.int .u64 (n' : Int))) := by
  refine H.grown (grown_setCell (grown_refl _ _) _ _) H.dg.wds hn' ?_
  have := blk_setCell (i := 9) H.dg.row (.int .u64 (n' : Int))
  rwa [dgV_set_n H.dg.wds.1] at this
theorem dgV_over {h h' : List Nat} (hh : h.length = 8) (hh' : h'.length = 8) (sl : Value) (n : Nat) (size : Int) : ((wordsV h').toArray.toList ++ (dgV h sl n size).toList.drop (wordsV h').toArray.size).toArray = dgV h' sl n size := by
  have h1 : (wordsV h).length = 8 := by simp [wordsV, hh]
  have h2 : (wordsV h').length = 8 := by simp [wordsV, hh']
  simp [dgV, h2, h1]
theorem tag5 : ((Try.prog.info? 5).map (·.size)) = some 1 := by kernel_rfl
/-- the length of the slice that lies in a cell -/
def lenAt (g i : Nat) (w : World) : Nat := match w.cell? ⟨g, i, none⟩ with | some (.slice _ n _) => n | _ => 0
theorem WrAt.c8 {g : Nat} {w : World} {h : List Nat} {n : Nat} {size : Int} {sl : Value} {r : List UInt8} {W : World} (H : WrAt g w h n size sl r W) : W.cell? ⟨g, 8, none⟩ = some sl := (cell_of_row _ _ 8 _ _ _ H.dg.row).trans (dgV_sl H.dg.wds.1 sl n size)
theorem WrAt.c9 {g : Nat} {w : World} {h : List Nat} {n : Nat} {size : Int} {sl : Value} {r : List UInt8} {W : World} (H : WrAt g w h n size sl r W) : W.cell? ⟨g, 9, none⟩ = some (.int .u64 (n : Int)) := (cell_of_row _ _ 9 _ _ _ H.dg.row).trans (dgV_n H.dg.wds.1 sl n size)
theorem WrAt.len {g : Nat} {w : World} {h : List Nat} {n : Nat} {size : Int} {A : Option Addr} {m c : Nat} {r : List UInt8} {W : World} (H : WrAt g w h n size (.slice A m c) r W) : lenAt g 8 W = m := by
  unfold lenAt; rw [H.c8]
theorem SB.part {w : World} {A : Option Addr} {c : Nat} {bs : List UInt8} (h : SB w (.slice A bs.length c) bs) (hp : 0 < bs.length) : ∃ b o, A = some ⟨b, o, none⟩ ∧ bs.length ≤ c ∧ ∀ i m k, i + m ≤ bs.length → m ≤ k → SB w (.slice (some ⟨b, o + i, none⟩) m k) ((bs.drop i).take m) := by
  obtain ⟨A', c', e, h1, h2, h3⟩ := h
  injection e with e1 e2 e3
  subst e1; subst e3
  rcases h3 with rfl | ⟨b, o, rfl, hc⟩
  · simp at hp
  · refine ⟨b, o, rfl, h1, fun i m k hi hk => ?_⟩
    have hl : ((bs.drop i).take m).length = m := by simp; omega
    refine ⟨_, k, by rw [hl], by omega, by omega, .inr ⟨b, o + i, rfl, fun j hj => ?_⟩⟩
    rw [Nat.add_assoc, hc (i + j) (by omega)]
    simp

set_option maxHeartbeats 1000000 in
theorem Write_any (h : List Nat) (hh : Wds 8 h) (n : Nat) (hn : n < 18446744073709551616) (size : Int) (sl v : Value) (r bs : List UInt8) (w : World) (hs : SB w sl r) (hv : SB w v bs) (hl : (r ++ bs).length ≤ 140737488355328) :
    Calls Try.prog 11 #[.agg (dgV h sl n size), v] w fun e w' => ∃ sl', e = .returned (.agg (dgV (writeL (r ++ bs).length h n (r ++ bs)).1 sl' (writeL (r ++ bs).length h n (r ++ bs)).2.1 size)) ∧
      w'.ownsRow w.heap.size 5 1 sl' (writeL (r ++ bs).length h n (r ++ bs)).2.2.length (bytesV (writeL (r ++ bs).length h n (r ++ bs)).2.2) ∧ Below w.heap.size w w' := by
  obtain ⟨A, c, rfl, hs, -⟩ := hs.shape
  obtain ⟨B, d, rfl, hv, -⟩ := hv.shape
  have HV := Lib.hid hv
  have HSL := Lib.hid hs
  have HL := Lib.hid hl
  have HH := Lib.hid hh
  have hc8 := (cell_of_row (w.alloc (.cells (dgV h (.slice A r.length c) n size) 33)) w.heap.size 8 _ _ _ (World.alloc_heap_new _ _)).trans (dgV_sl hh.1 (.slice A r.length c) n size)
  clear hv hs hl hh
  go_enter Try.func11, Try.ntmps11
  go_wp2_with (refine wpList_alloc_row rfl 33 rfl _ (zero33 _) ?_; intro w1 hT hS hG; have HT := Lib.hid hT; have HG := Lib.hid (below_of_grown hG); have hc8' := cell_below HG.out hc8; clear hT hG hS)
  have hB1 : Below w.heap.size w w1 := ((Below.refl _ w).alloc (Nat.le_refl _) _).trans (HG.out.mono (by simp))
  have hBB := hB1.trans ((below_alloc1 w1 (.cells #[.slice A r.length c, .slice B bs.length d] 24)).mono hB1.size)
  have hrow := blk_below (blk_below (World.alloc_heap_new w (.cells (dgV h (.slice A r.length c) n size) 33)) HG.out) (below_alloc1 w1 (.cells #[.slice A r.length c, .slice B bs.length d] 24))
  have hres := blk_below HT.out (below_alloc1 w1 (.cells #[.slice A r.length c, .slice B bs.length d] 24))
  have hsbb : SBB (w1.alloc (.cells #[.slice A r.length c, .slice B bs.length d] 24)) (.slice (some ⟨w1.heap.size, 0, none⟩) 2 2) [r, bs] := SBB_two (World.alloc_heap_new _ _) (HSL.out.below hBB) (HV.out.below hBB)
  obtain ⟨W1, hW1⟩ : ∃ W1, W1 = w1.alloc (.cells #[.slice A r.length c, .slice B bs.length d] 24) := ⟨_, rfl⟩
  rw [← hW1] at hBB hrow hres hsbb ⊢
  rw [World.size_alloc] at hres
  have hfl : ([r, bs] : List (List UInt8)).flatten = r ++ bs := by simp
  refine (Concat_any _ _ W1 hsbb (by rw [hfl]; exact HL.out)).mono ?_
  rintro e w2 ⟨v', rfl, hown, hb2⟩
  rw [hfl] at hown
  obtain ⟨al, hal⟩ : ∃ al, al = r ++ bs := ⟨_, rfl⟩
  rw [← hal] at hown HL
  obtain ⟨A2, c2, rfl, hs2, -⟩ := (SB_of_own hown HL.out).shape
  have hwr : WrAt w.heap.size w h n size (.slice A r.length c) (r ++ bs) w2 ∨ True := .inr trivial
  have hrow2 := blk_below hrow hb2
  have hres2 := blk_below hres hb2
  have hB2 := hBB.trans (hb2.mono hBB.size)
  have HAL := Lib.hid hal
  have HS2 := Lib.hid hs2
  have HR2 := Lib.hid hrow2
  have HT2 := Lib.hid hres2
  have HB2 := Lib.hid hB2
  have hc82 := (cell_of_row _ _ 8 _ _ _ hrow2).trans (dgV_sl HH.out.1 (.slice A r.length c) n size)
  have hf82 := frozen_of_row _ w.heap.size 8 _ _ hrow2
  clear hwr hc8 hc8' hB1 hBB hrow hres hsbb hW1 hfl hown hb2 hal hs2 hrow2 hres2 hB2 HG HT HSL HV
  obtain ⟨g, hg⟩ : ∃ g, g = w.heap.size := ⟨_, rfl⟩
  rw [← hg] at HR2 HT2 HB2 hc82 hf82 ⊢
  have HGG := Lib.hid hg
  clear hg
  go_wp2_with fail
  have hwr := wr_set8 HR2.out HT2.out HB2.out HH.out hn HS2.out
  have HWR := Lib.hid hwr
  clear hwr hc82 hf82 HR2 HT2 HB2 HS2
  obtain ⟨W2, hW2⟩ : ∃ W2, W2 = w2.setCell ⟨g, 8, none⟩ (.slice A2 al.length c2) := ⟨_, rfl⟩
  rw [← hW2] at HWR ⊢
  clear hW2
  go_loopw [] (fun wr => ∃ h1 n1 r1 A1 c1, WrAt g w h1 n1 size (.slice A1 (List.length r1) c1) r1 wr ∧ r1.length ≤ al.length ∧ writeL r1.length h1 n1 r1 = writeL al.length h n al) (fun wr => lenAt g 8 wr)
  case atStart => exact ⟨h, n, al, A2, c2, HWR.out, Nat.le_refl _, rfl⟩
  case round =>
    clear HWR
    obtain ⟨h1, n1, r1, A1, c1, hw, hle, hwl⟩ := hrel
    have hc8 := hw.c8
    have hc9 := hw.c9
    have hf9 := frozen_of_row _ g 9 _ _ hw.dg.row
    have hlen := hw.len
    have HW := Lib.hid hw
    have HWL := Lib.hid hwl
    have HLE := Lib.hid hle
    have HLEN := Lib.hid hlen
    clear hw hwl hle hlen
    by_cases h64 : 64 < r1.length
    · obtain ⟨b, o, rfl, hcc, hpart⟩ := SB.part HW.out.dg.data (by omega)
      have HP := Lib.hid hpart
      clear hpart
      have hd : decide ((64 : Int) < (r1.length : Int)) = true := by simp; omega
      have hwr : IntKind.u64.wrap ((n1 : Int) + 64) = (((n1 + 64) % 18446744073709551616 : Nat) : Int) := by rw [IntKind.wrap_u64]; omega
      obtain ⟨n2, hn2⟩ : ∃ n2, n2 = (n1 + 64) % 18446744073709551616 := ⟨_, rfl⟩
      rw [← hn2] at hwr
      have HN2 := Lib.hid hn2
      have hn2l : n2 < 18446744073709551616 := by rw [hn2]; exact Nat.mod_lt _ (by decide)
      clear hn2
      go_wp2_with fail
      have hw2 := HW.out.set9 n2 hn2l
      obtain ⟨w4, hw4⟩ : ∃ w4, w4 = wr.setCell ⟨g, 9, none⟩ (.int .u64 (n2 : Int)) := ⟨_, rfl⟩
      rw [← hw4] at hw2 ⊢
      have HW4 := Lib.hid hw2
      clear hw4 hw2 HW hc8 hc9 hf9 hwr
      refine region_f 8 (fun i vs W => match i with
          | 0 => vs 0 = .pointer (some ⟨g, 0, none⟩)
          | 1 => vs 1 = .agg (wordsV h1).toArray
          | 2 => vs 2 = .pointer (some ⟨g, 8, none⟩)
          | 3 => vs 3 = .slice (some ⟨b, o, none⟩) r1.length c1
          | 4 => vs 4 = .slice (some ⟨b, o, none⟩) 64 c1
          | 5 => vs 5 = .pointer (some ⟨g, 9, none⟩)
          | 6 => vs 6 = .int .u64 (n2 : Int)
          | 7 => vs 7 = .agg (wordsV (mixF h1 (wordsF (r1.take 64)) n2 false)).toArray
          | _ => True) (fun _ W W' => Below W.heap.size W W') (fun W => Below w4.heap.size w4 W) (by kernel_rfl) (by kernel_rfl) (fun i k vs w w' _ _ h _ => h) ?h0 ?step ?fin
      case h0 => exact (Below.refl _ _).drew
      case step =>
        intro i op hi ho ac W hS hag hdep
        have hbr : Below W.heap.size W W := Below.refl _ _
        have hWW := HW4.out.keep hS
        match i, hi, ho with
        | 0, _, rfl => exact ow_field33 _ 0 0 rfl (by simp) g (hag 2 rfl) ⟨_, rfl, fun vs' h _ => h (fun e => by cases e), hbr, hS⟩
        | 1, _, rfl =>
          have h1' : ac.eval (.tmp 19) = .pointer (some ⟨g, 0, none⟩) := hdep 0 (by omega) (by kernel_rfl)
          refine ow_load_part 23 _ rfl g h1' _ _ (fun j v hj => ?_) Try.underlying23 rfl (by rw [wordsV_size, HW4.out.dg.wds.1]; kernel_rfl) ⟨_, rfl, fun vs' h _ => h (fun e => by cases e), hbr, hS⟩
          have hjl : j < h1.length := by have := (Array.getElem?_eq_some_iff.1 hj).1; rwa [wordsV_size] at this
          rw [cell_of_row _ _ j _ _ _ hWW.dg.row, dgV_word _ _ _ j hjl, ← hj]
          simp [wordsV, List.getD_eq_getElem?_getD, hjl]
        | 2, _, rfl => exact ow_field33 _ 1 8 rfl (by simp) g (hag 2 rfl) ⟨_, rfl, fun vs' h _ => h (fun e => by cases e), hbr, hS⟩
        | 3, _, rfl =>
          have h1' : ac.eval (.tmp 21) = .pointer (some ⟨g, 8, none⟩) := hdep 2 (by omega) (by kernel_rfl)
          exact ow_load_slice' _ 5 24 rfl g 8 h1' _ _ _ hWW.c8 Try.underlying24 ⟨_, rfl, fun vs' h _ => h (fun e => by cases e), hbr, hS⟩
        | 4, _, rfl =>
          have h1' : ac.eval (.tmp 22) = .slice (some ⟨b, o, none⟩) r1.length c1 := hdep 3 (by omega) (by kernel_rfl)
          exact ow_slice_hi _ 5 24 64 rfl b o r1.length c1 h1' Try.underlying24 (by omega) (by omega) tag5 ⟨_, rfl, fun vs' h _ => h (fun e => by cases e), hbr, hS⟩
        | 5, _, rfl => exact ow_field33 _ 2 9 rfl (by simp) g (hag 2 rfl) ⟨_, rfl, fun vs' h _ => h (fun e => by cases e), hbr, hS⟩
        | 6, _, rfl =>
          have h1' : ac.eval (.tmp 24) = .pointer (some ⟨g, 9, none⟩) := hdep 5 (by omega) (by kernel_rfl)
          exact ow_load_int _ 25 .u64 rfl g 9 h1' _ hWW.c9 Try.underlying25 ⟨_, rfl, fun vs' h _ => h (fun e => by cases e), hbr, hS⟩
        | 7, _, rfl =>
          have e1 : ac.eval (.tmp 20) = .agg (wordsV h1).toArray := hdep 1 (by omega) (by kernel_rfl)
          have e2 : ac.eval (.tmp 23) = .slice (some ⟨b, o, none⟩) 64 c1 := hdep 4 (by omega) (by kernel_rfl)
          have e3 : ac.eval (.tmp 25) = .int .u64 (n2 : Int) := hdep 6 (by omega) (by kernel_rfl)
          refine ow_call Try.func18 (by kernel_rfl) rfl _ _ rfl (vs := #[.agg (wordsV h1).toArray, .slice (some ⟨b, o, none⟩) 64 c1, .int .u64 (n2 : Int), .bool false]) (by simp only [List.map_toArray, List.map_cons, List.map_nil, e1, e2, e3]; rfl) ?_
          obtain ⟨b', o', hbo, _, hp⟩ := SB.part hWW.dg.data (by omega)
          injection hbo with hbo
          injection hbo with hb1 ho1
          subst hb1; subst ho1
          have hsb := hp 0 64 c1 (by omega) (by omega)
          simp only [Nat.add_zero, List.drop_zero] at hsb
          refine (mix_any h1 HW4.out.dg.wds _ (r1.take 64) n2 hn2l false W hsb (by simp; omega)).mono ?_
          rintro e w' ⟨rfl, hbb⟩
          exact ⟨_, rfl, _, rfl, fun vs' h _ => h (fun e => by cases e), hbb, hS.trans (hbb.mono hS.size)⟩
        | n + 8, hi, _ => exact absurd hi (by omega)
      case fin =>
        intro vs W hS hF
        have e7 : vs 7 = .agg (wordsV (mixF h1 (wordsF (r1.take 64)) n2 false)).toArray := hF 7 (by omega)
        clear hF
        change wpList _ _ _ _ (Act.put (Act.put (Act.put (Act.put (Act.put (Act.put (Act.put (Act.put _ (some 19) (vs 0)) (some 20) (vs 1)) (some 21) (vs 2)) (some 22) (vs 3)) (some 23) (vs 4)) (some 24) (vs 5)) (some 25) (vs 6)) (some 26) (vs 7)) W
        rw [e7]
        clear e7
        generalize vs 0 = z0
        generalize vs 1 = z1
        generalize vs 2 = z2
        generalize vs 3 = z3
        generalize vs 4 = z4
        generalize vs 5 = z5
        generalize vs 6 = z6
        simp only [putAll, List.drop_succ_cons, List.drop_zero, Act.put, List.setIfInBounds_toArray, List.set_cons_zero, List.set_cons_succ]
        clear vs
        have HW5 := Lib.hid (HW4.out.keep hS)
        obtain ⟨h2, hh2⟩ : ∃ h2, h2 = mixF h1 (wordsF (r1.take 64)) n2 false := ⟨_, rfl⟩
        have hh2w : Wds 8 h2 := by rw [hh2]; exact HW4.out.dg.wds.mixF _ _ _
        rw [← hh2]
        have HH2 := Lib.hid hh2
        have HH2W := Lib.hid hh2w
        clear hS HW4 hh2 hh2w
        go_upto_region 5 with (refine wpList_store_part rfl 23 _ _ rfl g rfl 33 _ _ rfl HW5.out.dg.row (by rw [wordsV_size, dgV_size HW5.out.dg.wds.1, HH2W.out.1]; omega) (by rw [wordsV_size, HH2W.out.1]; kernel_rfl) (wordsV_one _) ?_; intro w6 hT6 hS6 hG6; have HT6 := Lib.hid hT6; have HG6 := Lib.hid hG6; clear hT6 hG6 hS6)
        have hrow6 := HT6.out
        rw [dgV_over HW5.out.dg.wds.1 HH2W.out.1] at hrow6
        have hw6 := HW5.out.grown HG6.out HH2W.out hn2l hrow6
        have hc86 := hw6.c8
        have hf86 := frozen_of_row _ g 8 _ _ hw6.dg.row
        have HW6 := Lib.hid hw6
        clear hrow6 hw6 HT6 HG6 HW5
        have hne : ¬ c1 = 64 := by omega
        have hsub : SB w6 (.slice (some ⟨b, o + 64, none⟩) (r1.length - 64) (c1 - 64)) (r1.drop 64) := by
          obtain ⟨b', o', hbo, _, hp⟩ := SB.part HW6.out.dg.data (by omega)
          injection hbo with hbo
          injection hbo with hb1 ho1
          subst hb1; subst ho1
          have := hp 64 (r1.length - 64) (c1 - 64) (by omega) (by omega)
          rwa [List.take_of_length_le (by simp)] at this
        have HSUB := Lib.hid hsub
        clear hsub
        go_wp2_with (refine wpList_slice_lo rfl _ 5 24 64 rfl b o r1.length c1 rfl Try.underlying24 (by omega) (by omega) (by omega) tag5 ?_)
        have hw7 := wr_set8 HW6.out.dg.row HW6.out.res HW6.out.below HW6.out.dg.wds hn2l HSUB.out
        have hl2 : (r1.drop 64).length = r1.length - 64 := by simp
        rw [← hl2] at hw7 ⊢
        have HW7 := Lib.hid hw7
        have hstep := writeL_step h1 n1 r1 h64
        rw [← HN2.out, ← HH2.out] at hstep
        have hle2 : (r1.drop 64).length ≤ al.length := by have := HLE.out; omega
        have HSTEP := Lib.hid (hstep.symm.trans HWL.out)
        clear hw7 hstep HW6 HSUB
        go_roundw
        case rel => exact ⟨h2, n2, r1.drop 64, _, _, HW7.out, hle2, HSTEP.out⟩
        case measure =>
          rw [HLEN.out, HW7.out.len, hl2]
          omega
    · have hd : decide ((64 : Int) < (r1.length : Int)) = false := by simp; omega
      go_wp2_with fail
      have hst : writeL al.length h n al = (h1, n1, r1) := by rw [← HWL.out]; exact writeL_stop _ _ _ _ (by omega)
      have HST := Lib.hid hst
      clear hst
      refine (Clone_any _ r1 wr HW.out.dg.data).mono ?_
      rintro e w2 ⟨v', rfl, hown, hb2⟩
      have hl1 : r1.length ≤ 140737488355328 := by have := HLE.out; have := HL.out; omega
      obtain ⟨A3, c3, rfl, hs3, -⟩ := (SB_of_own hown hl1).shape
      have hw2 := HW.out.keep hb2
      have hc82 := hw2.c8
      have hf82 := frozen_of_row _ g 8 _ _ hw2.dg.row
      have HW2 := Lib.hid hw2
      have HS3 := Lib.hid hs3
      have hglt : g + 1 < wr.heap.size := blk_lt HW.out.res
      have HOWN := Lib.hid hown
      clear hw2 hs3 hown hc8 hc9 hf9 hb2 HW
      go_upto_region 7 with fail
      have hw3 := wr_set8 HW2.out.dg.row HW2.out.res HW2.out.below HW2.out.dg.wds HW2.out.dg.nlt HS3.out
      have hown3 : (w2.setCell ⟨g, 8, none⟩ (.slice A3 r1.length c3)).ownsRow g 5 1 (.slice A3 r1.length c3) r1.length (bytesV r1) := by
        refine (own_move HOWN.out (fun k cs hk h0 => ?_)).base_le (by omega)
        exact blk_grown h0 (grown_setCell (grown_refl _ (some g)) _ _) (fun e => by injection e with e; omega)
      obtain ⟨w3, hw3e⟩ : ∃ w3, w3 = w2.setCell ⟨g, 8, none⟩ (.slice A3 r1.length c3) := ⟨_, rfl⟩
      rw [← hw3e] at hw3 hown3 ⊢
      have HW3 := Lib.hid hw3
      have HOWN3 := Lib.hid hown3
      clear hw3 hown3 hw3e hc82 hf82 HW2 HS3 HOWN
      go_wp2_with (first
        | (refine wpList_load_row rfl 33 _ rfl g rfl 33 _ (0, 0) _ HW3.out.dg.row Try.underlying33 rfl (by rw [dgV_size HW3.out.dg.wds.1]; kernel_rfl) ?_)
        | (refine wpList_store_row rfl 33 _ _ rfl (g + 1) rfl 33 _ _ rfl HW3.out.res (by rw [dgV_size HW3.out.dg.wds.1]; rfl) (by rw [dgV_size HW3.out.dg.wds.1]; kernel_rfl) (dgV_one _ _ rfl) ?_; intro w6 hT6 hS6 hG6; have HT6 := Lib.hid hT6; have HG6 := Lib.hid hG6; clear hT6 hG6 hS6))
      refine bodyPost_ret (v := .agg (dgV h1 (.slice A3 r1.length c3) n1 size)) ?_ rfl ⟨.slice A3 r1.length c3, ?_, ?_, ?_⟩
      · exact results_cell_row (P := Try.prog) (p := 4) (ty := 33) rfl _ w6 (g + 1) 33 _ (0, 0) _ rfl HT6.out Try.underlying33 rfl (by rw [dgV_size HW3.out.dg.wds.1]; kernel_rfl)
      · rw [← HAL.out, HST.out]
      · rw [← HAL.out, HST.out, ← HGG.out]
        refine own_move HOWN3.out (fun k cs hk h0 => blk_grown h0 HG6.out (fun e => ?_))
        injection e with e
        rw [e, HW3.out.res] at h0
        injection h0 with h0
        injection h0 with _ h0
        cases h0
      · rw [← HGG.out]
        exact HW3.out.below.grown HG6.out (by have := blk_lt HW3.out.res; omega) (fun k e => by injection e with e; omega)
end Go.Proofs.Ytnemclbeofiakaa
