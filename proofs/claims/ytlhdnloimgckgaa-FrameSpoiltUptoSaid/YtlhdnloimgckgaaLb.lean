/-
  FrameTells, walked.
-/
import Derived.Test.YtlhdnloimgckgaaWo
import Derived.Test.YtlhdnloimgckgaaWp
namespace Go.Proofs.Ytlhdnloimgckgaa
open Go.RowKit Go.Shelf

theorem recs_len (f : Nat) : ∀ (x : Nat) (b : List UInt8), 8 * (recs f x b).length + (recs f x b).flatten.length ≤ b.length := by
  induction f with
  | zero => intro x b; simp [recs]
  | succ f ih =>
    intro x b
    simp only [recs]
    split
    · rename_i h
      obtain ⟨_, h8, _, h3, h4⟩ := okRec_sum h
      have h5 := ih (nAt b 4) (b.drop (8 + nAt b 0))
      rw [List.length_drop] at h5
      simp only [List.length_cons, List.flatten_cons, List.length_append, h4]
      omega
    · simp
/-- a string, made bytes -/
theorem conv_bytes (w : World) (bs : List UInt8) (hb : bs.length ≤ 60000) : ∃ v w', (convert 9 25 (.string ⟨bs.toArray⟩)).run Try.prog w = .ok v w' ∧ SB w' v bs ∧ Below w.heap.size w w' := by
  refine ⟨_, _, Lib.run_convert_string_bytes w 9 25 5 ⟨bs.toArray⟩ Try.underlying9 Try.underlying25 Try.underlying5, ?_, ?_⟩
  · have hs : (⟨bs.toArray⟩ : ByteArray).size = bs.length := by simp [ByteArray.size]
    refine ⟨_, _, by rw [hs], ?_, by omega, .inr ⟨w.heap.size, 0, rfl, fun i hi => ?_⟩⟩
    · exact grownCap_ge w bs.length 0 5
    · rw [Nat.zero_add, Lib.bytesWorld_cell w 5 _ i (by rw [hs]; exact hi)]
      simp [hi]
  · refine ⟨rfl, rfl, rfl, by rw [Lib.bytesWorld_size]; omega, fun i hi => Lib.bytesWorld_at_old w 5 _ i hi⟩

set_option maxHeartbeats 1000000 in
theorem FrameTells_any (A : Option Addr) (n c : Nat) (w : World) (hn : n ≤ maxLen) (hv : n ≤ 60000 → ∃ bs : List UInt8, bs.length = n ∧ SB w (.slice A n c) bs) :
    Calls Try.prog 4 #[.slice A n c] w fun e w' => e = .returned (.bool true) ∧ Below w.heap.size w w' := by
  by_cases hlong : n ≤ 60000
  · obtain ⟨bs, hbl, hsb⟩ := hv hlong
    have hd : decide ((60000 : Int) < (n : Int)) = false := by simp; omega
    have kc := conv_str w _ bs hsb
    have HSB := Lib.hid hsb
    have hlr := recs_len bs.length 0 bs
    obtain ⟨L, hL⟩ : ∃ L, L = recs bs.length 0 bs := ⟨_, rfl⟩
    rw [← hL] at hlr
    have HL := Lib.hid hL
    have HLR : Hid (8 * L.length + L.flatten.length ≤ 60000) := Lib.hid (by omega)
    have HBL := Lib.hid hbl
    clear hv hsb hlr hL hbl
    go_enter Try.func4, Try.ntmps4
    go_wp2_with fail
    refine (All_any _ bs w HSB.out (by have := HBL.out; omega)).mono ?_
    rintro e w1 ⟨u, rfl, hout, hb1⟩
    rw [← HL.out] at hout ⊢
    obtain ⟨⟨tc, ts, tx⟩, hT⟩ : ∃ t, tailOf L = t := ⟨_, rfl⟩
    rw [hT]
    have HT := Lib.hid hT
    have HOUT := Lib.hid hout
    have HB1 := Lib.hid hb1
    simp only [tv, tailV]
    clear hT hout hb1
    obtain ⟨vb, w3, hconv, hsb3, hbel3⟩ := conv_bytes (w1.alloc (Obj.cells #[Value.int IntKind.i64 ↑tc, Value.int IntKind.i64 ↑ts, Value.int IntKind.u32 ↑tx] 30)) bs (by have := HBL.out; omega)
    have hn1 : w3.heap[w1.heap.size]? = some (.cells #[Value.int IntKind.i64 ↑tc, Value.int IntKind.i64 ↑ts, Value.int IntKind.u32 ↑tx] 30 (0, 0)) := blk_below (World.alloc_heap_new w1 _) hbel3
    have hb13 : Below w1.heap.size w1 w3 := (below_alloc1 w1 _).trans (hbel3.mono (below_alloc1 w1 _).size)
    have HB3 : Hid (Below w.heap.size w w3) := Lib.hid (HB1.out.trans (hb13.mono HB1.out.size))
    have HOUT3 : Hid (OutAt w.heap.size w3 u L) := Lib.hid (HOUT.out.move (fun k cs t _ _ h => blk_below h hb13))
    have HN3 := Lib.hid hn1
    have HS3 := Lib.hid hsb3
    clear hn1 hsb3 hbel3 hb13
    go_wp2_with fail
    refine (refAll_any _ bs w3 HS3.out (by have := HBL.out; omega)).mono ?_
    rintro e w4 ⟨u2, rfl, hsbb2, hb4⟩
    rw [← HL.out, HT.out]
    rw [← HL.out] at hsbb2
    have HN4 := Lib.hid (blk_below HN3.out hb4)
    have HB4 : Hid (Below w.heap.size w w4) := Lib.hid (HB3.out.trans (hb4.mono HB3.out.size))
    have HOUT4 : Hid (OutAt w.heap.size w4 u L) := Lib.hid (HOUT3.out.move (fun k cs t _ _ h => blk_below h hb4))
    have HSBB2 := Lib.hid hsbb2
    simp only [tvs]
    clear hb4 hsbb2 hconv
    go_wp2_with fail
    obtain ⟨W5, hW5⟩ : ∃ W5, W5 = w4.alloc (Obj.cells #[Value.int IntKind.i64 ↑tc, Value.int IntKind.i64 ↑ts, Value.int IntKind.u32 ↑tx] 30) := ⟨_, rfl⟩
    rw [← hW5]
    have hb5 : Below w4.heap.size w4 W5 := by rw [hW5]; exact below_alloc1 _ _
    have hn5 : W5.heap[w4.heap.size]? = some (.cells #[Value.int IntKind.i64 ↑tc, Value.int IntKind.i64 ↑ts, Value.int IntKind.u32 ↑tx] 30 (0, 0)) := by rw [hW5]; exact World.alloc_heap_new _ _
    clear hW5
    have hsm : ∀ q ∈ L, q.length ≤ 140737488355328 := fun q hq => by have := len_le_flat hq; have := HLR.out; omega
    have hLm : L.length ≤ 140737488355328 := by have := HLR.out; omega
    have hout5 : OutAt w.heap.size W5 u L := HOUT4.out.move (fun k cs t _ _ h => blk_below h hb5)
    refine (Same_any u u2 L L W5 (hout5.sbb hLm hsm) (HSBB2.out.below hb5)).mono ?_
    rintro e w6 ⟨rfl, hb6⟩
    rw [show decide (L = L) = true from by simp]
    have hb46 : Below w4.heap.size w4 w6 := hb5.trans (hb6.mono hb5.size)
    have HB6 : Hid (Below w.heap.size w w6) := Lib.hid (HB4.out.trans (hb46.mono HB4.out.size))
    have hout6 : OutAt w.heap.size w6 u L := HOUT4.out.move (fun k cs t _ _ h => blk_below h hb46)
    have ht1 := blk_below HN4.out hb46
    have ht2 := blk_below hn5 hb6
    have c0 : w6.cell? ⟨w1.heap.size, 0, none⟩ = some (.int .i64 (tc : Int)) := cell_of_row w6 _ _ _ _ _ ht1
    have c1 : w6.cell? ⟨w1.heap.size, 1, none⟩ = some (.int .i64 (ts : Int)) := cell_of_row w6 _ _ _ _ _ ht1
    have c2 : w6.cell? ⟨w1.heap.size, 2, none⟩ = some (.int .u32 (tx : Int)) := cell_of_row w6 _ _ _ _ _ ht1
    have d0 : w6.cell? ⟨w4.heap.size, 0, none⟩ = some (.int .i64 (tc : Int)) := cell_of_row w6 _ _ _ _ _ ht2
    have d1 : w6.cell? ⟨w4.heap.size, 1, none⟩ = some (.int .i64 (ts : Int)) := cell_of_row w6 _ _ _ _ _ ht2
    have d2 : w6.cell? ⟨w4.heap.size, 2, none⟩ = some (.int .u32 (tx : Int)) := cell_of_row w6 _ _ _ _ _ ht2
    obtain ⟨Au, cu, rfl, -, -⟩ := (hout6.sbb hLm hsm).shape
    obtain ⟨vs, hvs, hown, hel, hdis⟩ := hout6
    have HVS := Lib.hid hvs
    have HOWN := Lib.hid hown
    have HEL := Lib.hid hel
    have HDIS := Lib.hid hdis
    have HSMq := Lib.hid hsm
    clear hb5 hn5 hout5 hb6 hb46 ht1 ht2 hvs hown hel hdis hsm
    go_wp2_with fail
    go_loopw [8] (fun i wr => ∃ k : Nat, k ≤ L.length ∧ i = .int .i64 k ∧ Below w.heap.size w wr ∧ wr.ownsRow w.heap.size 25 1 (.slice Au L.length cu) L.length vs ∧ (∀ (i : Nat) (x : Value) (p : List UInt8), vs[i]? = some x → L[i]? = some p → ∃ p' : List UInt8, p'.length = p.length ∧ wr.ownsRow w.heap.size 5 1 x p.length (bytesV p'))) (fun i _ => (L.length - (intOf i).toNat))
    case atStart => exact ⟨0, by omega, rfl, HB6.out, HOWN.out, fun i x p h1 h2 => ⟨p, rfl, HEL.out i x p h1 h2⟩⟩
    case round =>
      obtain ⟨k, hk, rfl, hbel, hown, hel⟩ := hrel
      have HB := Lib.hid hbel
      have HO := Lib.hid hown
      have HE := Lib.hid hel
      have hLl : L.length ≤ 60000 := by have := HLR.out; omega
      clear hbel hown hel
      by_cases hlt : k < L.length
      · obtain ⟨g, hg, hcell⟩ : ∃ g, Au = some ⟨g, 0, none⟩ ∧ wr.cell? ⟨g, k, none⟩ = vs[k]? := by
          rcases HO.out.2 with ⟨_, h0⟩ | ⟨g, cap, cur, hv, _, hh, _, _, hsz, htk⟩
          · omega
          · injection hv with h1
            refine ⟨g, h1, ?_⟩
            rw [cell_of_row wr g k _ _ _ hh, ← htk, List.getElem?_take_of_lt (by omega)]
            simp
        subst hg
        have hkv : k < vs.length := by have := HVS.out; omega
        obtain ⟨p', hpl, hxo⟩ := HE.out k vs[k] L[k] (by simp [hkv]) (by simp [hlt])
        have hpm : p'.length ≤ 140737488355328 := by rw [hpl]; exact HSMq.out _ (List.getElem_mem hlt)
        rw [← hpl] at hxo
        obtain ⟨Ax, cx, hx, -, -⟩ := (SB_of_own hxo hpm).shape
        rw [show vs[k]? = some vs[k] from by simp [hkv], hx] at hcell
        have HX := Lib.hid hx
        rw [hx] at hxo
        have HXO := Lib.hid hxo
        have HPL := Lib.hid hpl
        clear hx hxo hpl
        go_wp2_with fail
        refine (spoil_any w.heap.size _ p' wr HXO.out hpm).mono ?_
        rintro e w7 ⟨⟨z, rfl⟩, hg7, p2, hl2, hown7⟩
        have HG7 := Lib.hid hg7
        have HO7 := Lib.hid hown7
        clear hg7 hown7
        go_wp2
        go_roundw
        case rel =>
          refine ⟨k + 1, by omega, by go_num, HB.out.grown HG7.out HB.out.size (fun j e => (HXO.out.lt j e).1), ?_, ?_⟩
          · refine own_move HO.out (fun j cs hj h => blk_grown h HG7.out (fun e => ?_))
            rcases own_ne_blk HXO.out h (by decide) with h' | h'
            · rw [h'] at e; cases e
            · exact h' e.symm
          · intro i x q h1 h2
            by_cases hik : i = k
            · subst hik
              rw [List.getElem?_eq_getElem hkv] at h1
              rw [List.getElem?_eq_getElem hlt] at h2
              injection h1 with h1
              injection h2 with h2
              subst h1
              subst h2
              refine ⟨p2, by rw [hl2]; exact HPL.out, ?_⟩
              rw [HX.out, ← HPL.out]
              exact HO7.out
            · obtain ⟨p3, h3, h4⟩ := HE.out i x q h1 h2
              refine ⟨p3, h3, h4.kept HG7.out ?_⟩
              cases hob : x.ownBlock with
              | none => exact .inl rfl
              | some g' =>
                refine .inr fun e => hik ?_
                exact HDIS.out i k x vs[k] g' h1 (by simp [hkv]) hob (by rw [HX.out]; exact e.symm)
        case measure => simp [intOf]; omega
      · have kc2 := conv_str wr _ bs (HSB.out.below HB.out)
        go_wp2_with fail
        refine (awake_any wr).mono ?_
        rintro e w8 ⟨rfl, hb8⟩
        have HB8 := Lib.hid (HB.out.trans (hb8.mono HB.out.size))
        clear hb8
        go_wp2
        go_ret
        exact ⟨rfl, HB8.out⟩
  · have hd : decide ((60000 : Int) < (n : Int)) = true := by simp; omega
    have hn2 : n ≤ 9223372036854775807 := hn
    clear hv hlong hn
    go_enter Try.func4, Try.ntmps4
    go_wp2_with fail
    refine (awake_any w).mono ?_
    rintro e w2 ⟨rfl, hb⟩
    have HB := Lib.hid hb
    clear hb
    go_wp2
    go_ret
    exact ⟨rfl, HB.out⟩
end Go.Proofs.Ytlhdnloimgckgaa
