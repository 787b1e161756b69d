/-
  The document's All.
-/
import Derived.Test.YtlhdnloimgckgaaWn
import Derived.BigQuiet
namespace Go.Proofs.Ytlhdnloimgckgaa
open Go.RowKit Go.Shelf

def partN (r : List UInt8) : Nat → Nat
  | 0 => 0
  | j + 1 => partN r j * 256 + (r.getD j 0).toNat
theorem partN4 (r : List UInt8) : partN r 4 = nAt r 0 := by
  simp only [partN, nAt, num4, Nat.zero_add]
  omega
theorem partN_lt (r : List UInt8) (j : Nat) (h : j ≤ 4) : partN r j < 4294967296 := by
  have h0 := (r.getD 0 0).toNat_lt; have h1 := (r.getD 1 0).toNat_lt; have h2 := (r.getD 2 0).toNat_lt; have h3 := (r.getD 3 0).toNat_lt
  match j, h with
  | 0, _ => simp [partN]
  | 1, _ => simp only [partN]; omega
  | 2, _ => simp only [partN]; omega
  | 3, _ => simp only [partN]; omega
  | 4, _ => simp only [partN]; omega
theorem be4_inj {x y : Nat} (hx : x < 4294967296) (hy : y < 4294967296) (h : Crc.be4 x = Crc.be4 y) : x = y := by
  have h1 := nAt_be4 x hx []
  have h2 := nAt_be4 y hy []
  rw [← h1, h, h2]
theorem take8_eq (b : List UInt8) (h : 8 ≤ b.length) : b.take 8 = Crc.be4 (nAt b 0) ++ Crc.be4 (nAt b 4) := by
  unfold nAt
  rw [be4_num4, be4_num4]
  match b, h with
  | _ :: _ :: _ :: _ :: _ :: _ :: _ :: _ :: r, _ => simp
/-- a record is told just where its first eight bytes are Put's -/
theorem okRec_iff {x : Nat} {b : List UInt8} (h8 : 8 ≤ b.length) (h1 : nAt b 0 ≤ 16384) (h2 : 8 + nAt b 0 ≤ b.length) :
    okRec x b = true ↔ ∀ i, i < 8 → (rec_ x ((b.drop 8).take (nAt b 0))).getD i 0 = b.getD i 0 := by
  have hl : ((b.drop 8).take (nAt b 0)).length = nAt b 0 := by simp; omega
  have ht := take8_eq b h8
  have hg : ∀ i, i < 8 → b.getD i 0 = (Crc.be4 (nAt b 0) ++ Crc.be4 (nAt b 4)).getD i 0 := by
    intro i hi
    rw [← ht]
    simp [List.getD_eq_getElem?_getD, List.getElem?_take_of_lt hi]
  have hr : ∀ i, i < 8 → (rec_ x ((b.drop 8).take (nAt b 0))).getD i 0 = (Crc.be4 (nAt b 0) ++ Crc.be4 (rsum x ((b.drop 8).take (nAt b 0)))).getD i 0 := by
    intro i hi
    unfold rec_
    rw [hl]
    simp only [List.getD_eq_getElem?_getD]
    rw [List.getElem?_append_left (by simp [Crc.be4]; omega)]
  have hok : okRec x b = true ↔ rsum x ((b.drop 8).take (nAt b 0)) = nAt b 4 := by
    constructor
    · intro h; exact (okRec_sum h).1.symm
    · intro h
      have h4 : nAt b 0 ≤ b.length - 8 := by omega
      unfold okRec
      rw [take4_eq b (by omega)]
      unfold rsum at h
      rw [hl] at h
      simp [h8, h1, h4]
      rw [← List.append_assoc]
      exact h
  rw [hok]
  constructor
  · intro h i hi
    rw [hr i hi, hg i hi, h]
  · intro h
    refine be4_inj (rsum_lt _ _) (nAt_lt _ _) ?_
    have e : ∀ i, i < 4 → (Crc.be4 (rsum x ((b.drop 8).take (nAt b 0)))).getD i 0 = (Crc.be4 (nAt b 4)).getD i 0 := by
      intro i hi
      have h3 := h (4 + i) (by omega)
      rw [hr _ (by omega), hg _ (by omega)] at h3
      simp only [List.getD_eq_getElem?_getD] at h3
      rw [List.getElem?_append_right (by simp [Crc.be4]), List.getElem?_append_right (by simp [Crc.be4])] at h3
      have hx : 4 + i - (Crc.be4 (nAt b 0)).length = i := by simp [Crc.be4]
      rw [hx] at h3
      simpa [List.getD_eq_getElem?_getD] using h3
    have e0 := e 0 (by omega); have e1 := e 1 (by omega); have e2 := e 2 (by omega); have e3 := e 3 (by omega)
    simp only [Crc.be4, List.getD_cons_zero, List.getD_cons_succ] at e0 e1 e2 e3
    unfold Crc.be4
    rw [e0, e1, e2, e3]

theorem wpList_build1 {ops : Array Oper} {rest : List Oper} {o : Oper} {a : Act} {w : World} {Q : Exit → Act → World → Prop} (hgd : o.guard = none) (x : Operand) (ho : o.op = .buildSlice 22 1 #[(0, x)]) {u : Value} (hx : a.eval x = u) (hu : u.oneCell' = true)
    (h : ∀ w', w'.heap[w.heap.size]? = some (.cells #[u] 25 (0, 0)) → Below w.heap.size w w' → wpList Try.prog ops Q rest (a.put o.dst (.slice (some ⟨w.heap.size, 0, none⟩) 1 1)) w') : wpList Try.prog ops Q (o :: rest) a w :=
  wpList_plain hgd fun _ hK => ow_build1 x ho hx hu (hK _ _ (h _ (heap_alloc_new w _) (below_alloc1 w _)))
theorem keep34 {wr w3 w4 : World} {o : Obj} {j : Nat} {x : Obj} {g : Option Nat} (h : wr.heap[j]? = some x) (hg : (wr.alloc o).grownBy w3 g) (hb : Below w3.heap.size w3 w4) (he : g = some wr.heap.size := by rfl) : w4.heap[j]? = some x :=
  blk_below (blk_grown (blk_alloc h _) hg (fun e => by rw [he] at e; injection e with e; have := blk_lt h; omega)) hb
theorem cells_one {w : World} {g : Nat} {v : Value} {t : TypeId} {fr : Nat × Nat} (h : w.heap[g]? = some (.cells #[v] t fr)) : ∀ ad, some (⟨g, 0, none⟩ : Addr) = some ad → ∀ (j : Nat) u, [v][j]? = some u → w.cell? (ad.add j) = some u := by
  intro ad e j u hu
  injection e with e
  subst e
  have hj : j = 0 := by have := (List.getElem?_eq_some_iff.1 hu).1; simp at this; omega
  subst hj
  rw [add_plain, cell_of_row w g (0 + 0) _ _ _ h]
  simpa using hu
section
variable {P : Program} {ops : Array Oper} {rest : List Oper} {o : Oper} {a : Act} {w : World} {Q : Exit → Act → World → Prop}
theorem wpList_slice2 (hgd : o.guard = none) (e t : TypeId) (x y z : Operand) (s m b j n c : Nat) (ho : o.op = .slice t x (some y) (some z) none) (hx : a.eval x = .slice (some ⟨b, j, none⟩) n c)
    (hy : a.eval y = .int .i64 ((s : Int) + 8)) (hz : a.eval z = .int .i64 ((s : Int) + 8 + (m : Int))) (hu : P.underlying t = some (.slice e)) (h1 : s + 8 + m ≤ c) (hi : (P.info? e).map (·.size) = some 1)
    (h : ∀ off, (m = 0 ∨ off = j + (s + 8)) → wpList P ops Q rest (a.put o.dst (.slice (some ⟨b, off, none⟩) m (c - (s + 8)))) w) : wpList P ops Q (o :: rest) a w := by
  refine wpList_plain hgd fun K hK => ?_
  refine ow_value (v := .slice (some ⟨b, if c = s + 8 then j else j + (s + 8), none⟩) m (c - (s + 8))) ?_ (hK _ _ (h _ (by split <;> omega)))
  obtain ⟨i, hi1, hi2⟩ := Option.map_eq_some_iff.1 hi
  unfold execOp
  simp only [ho, hx, hy, hz, Sem.run_bind, Option.map_some]
  have h2 : 0 ≤ (s : Int) + 8 + (m : Int) ∧ (s : Int) + 8 + (m : Int) ≤ (c : Int) := by omega
  have h3 : ((s : Int) + 8).toNat = s + 8 := by omega
  have h4 : ((s : Int) + 8 + (m : Int)).toNat = s + 8 + m := by omega
  have h5 : s + 8 + m - (s + 8) = m := by omega
  have h7 : 0 ≤ (s : Int) + 8 ∧ (s : Int) + 8 ≤ ((s + 8 + m : Nat) : Int) := by omega
  simp [go_sem, hu, h2, h3, h4, h5, h7, sizeOf, typeInfo, Sem.run_bind, hi1, hi2]
  by_cases h0 : c = s + 8 <;> simp [h0] <;> (intro hh; exfalso; omega)
end

/-- the document's All, between two rounds -/
structure RefAt (w : World) (bs : List UInt8) (ps : List (List UInt8)) (s : Value) (W : World) : Prop where
  res : W.heap[w.heap.size]? = some (.cells zeroT 30 (0, 0))
  tail : W.heap[w.heap.size + 1]? = some (.cells (tvs (tailOf ps)) 30 (0, 0))
  below : Below w.heap.size w W
  out : OutAt (w.heap.size + 2) W s ps
  len : (tailOf ps).2.1 ≤ bs.length
  todo : ps ++ recs (bs.length - (tailOf ps).2.1) (tailOf ps).2.2 (bs.drop (tailOf ps).2.1) = recs bs.length 0 bs
theorem len_le_flat {L : List (List UInt8)} {q : List UInt8} (h : q ∈ L) : q.length ≤ L.flatten.length := by
  induction L with
  | nil => cases h
  | cons x L ih =>
    simp only [List.flatten_cons, List.length_append]
    rcases List.mem_cons.1 h with rfl | h
    · omega
    · have := ih h; omega
def lenOf : Value → Nat
  | .slice _ n _ => n
  | _ => 0
theorem OutAt.lenOf {B : Nat} {w : World} {s : Value} {L : List (List UInt8)} (h : OutAt B w s L) : lenOf s = L.length := by
  obtain ⟨vs, h1, h2, _⟩ := h
  rcases h2.2 with ⟨rfl, h0⟩ | ⟨g, cap, cur, rfl, _⟩
  · simp [Ytlhdnloimgckgaa.lenOf, h0]
  · rfl

set_option maxRecDepth 20000 in
set_option maxHeartbeats 2000000 in
theorem refAll_any (v : Value) (bs : List UInt8) (w : World) (hv : SB w v bs) (hsm : bs.length ≤ 1099511627776) :
    Calls Try.prog 14 #[v] w fun e w' => ∃ u, e = .returned (.tuple #[u, .agg (tvs (tailOf (recs bs.length 0 bs)))]) ∧ SBB w' u (recs bs.length 0 bs) ∧ Below w.heap.size w w' := by
  obtain ⟨A, c, rfl, hv, -⟩ := hv.shape
  have HV := Lib.hid hv
  clear hv
  go_enter Try.func14, Try.ntmps14
  go_wp2_with fail
  go_loopw [4] (fun s wr => ∃ ps, RefAt w bs ps s wr) (fun s _ => bs.length + 1 - lenOf s)
  case atStart =>
    refine ⟨[], ?_, ?_, ?_, ⟨[], rfl, World.ownsRow_nil _ _ _ _, by simp, by simp⟩, by simp [tailOf], by simp [tailOf]⟩
    · exact blk_alloc (heap_alloc_new w _) _
    · exact heap_alloc2_new w _ _
    · exact ((Below.refl _ _).alloc (Nat.le_refl _) _).alloc (by simp) _
  case round =>
    obtain ⟨ps, hr⟩ := hrel
    have HR := Lib.hid hr
    obtain ⟨⟨tc, ts, tx⟩, hT⟩ : ∃ t, tailOf ps = t := ⟨_, rfl⟩
    have hT2 := tailOf_eq ps
    rw [hT] at hT2
    injection hT2 with h1 hT2
    injection hT2 with h2 h3
    have htail := hr.tail
    have hlen := hr.len
    have htodo := hr.todo
    have hlof := hr.out.lenOf
    rw [hT] at htail hlen htodo
    simp only at hlen htodo
    have htcs : 8 * tc ≤ ts := by omega
    have hpsl0 : ps.flatten.length + 8 * ps.length ≤ bs.length := by omega
    have htx : tx < 4294967296 := by rw [h3]; exact lastS_lt (by omega) _
    have c0 : wr.cell? ⟨w.heap.size + 1, 0, none⟩ = some (.int .i64 (tc : Int)) := cell_of_row wr _ _ _ _ _ htail
    have c1 : wr.cell? ⟨w.heap.size + 1, 1, none⟩ = some (.int .i64 (ts : Int)) := cell_of_row wr _ _ _ _ _ htail
    have c2 : wr.cell? ⟨w.heap.size + 1, 2, none⟩ = some (.int .u32 (tx : Int)) := cell_of_row wr _ _ _ _ _ htail
    have HT := Lib.hid hT
    have HLS := Lib.hid h3
    have HTC := Lib.hid h1
    have HTL := Lib.hid htail
    have HTD := Lib.hid htodo
    have HLOF := Lib.hid hlof
    clear hT h1 h2 h3 htail htodo hlof hr
    by_cases h8 : ts + 8 ≤ bs.length
    · have hd8 : decide ((bs.length : Int) < (ts : Int) + 8) = false := by simp; omega
      go_wp2_with fail
      obtain ⟨b, o, hA, hc0'⟩ := SB.at_ HV.out 0 (by omega)
      subst hA
      obtain ⟨R, hR⟩ : ∃ R, R = bs.drop ts := ⟨_, rfl⟩
      have hRl : R.length = bs.length - ts := by rw [hR]; simp
      have hcR : ∀ j, j < R.length → wr.cell? ⟨b, o + (ts + j), none⟩ = some (.int .u8 ((R.getD j 0).toNat : Int)) := by
        intro j hj
        obtain ⟨b2, o2, e, hc⟩ := SB.at_ HV.out (ts + j) (by omega)
        injection e with e; injection e with e1 e2; subst e1; subst e2
        have e3 : bs[ts + j] = R.getD j 0 := by
          simp only [hR]
          simp [List.getD_eq_getElem?_getD, List.getElem?_eq_getElem (show ts + j < bs.length by omega)]
        rw [(HR.out.below.cell (World.block_lt_of_cell? w _ hc)).trans hc, e3]
      have HcR := Lib.hid hcR
      have HRe := Lib.hid hR
      clear hcR hR hc0'
      go_loopw [6, 7] (fun n i wr2 => ∃ j : Nat, j ≤ 4 ∧ i = .int .i64 j ∧ n = .int .i64 (partN R j : Nat) ∧ wr2 = wr) (fun _ i _ => 4 - (intOf i).toNat)
      case atStart => exact ⟨0, by omega, rfl, rfl, rfl⟩
      case round =>
        obtain ⟨j, hj, rfl, rfl, rfl⟩ := hrel
        by_cases hj4 : j < 4
        · have hcj := HcR.out j (by omega)
          have hpl := partN_lt R j (by omega)
          have HP := Lib.hid (show partN R (j + 1) = partN R j * 256 + (R.getD j 0).toNat from rfl)
          have hbl := (R.getD j 0).toNat_lt
          generalize (R.getD j 0).toNat = x at *
          generalize partN R j = pn at *
          go_wp2
          go_roundw
          case rel => exact ⟨j + 1, by omega, by go_num, by rw [HP.out]; go_num, trivial⟩
          case measure => simp [intOf]; omega
        · have hj4' : j = 4 := by omega
          subst hj4'
          rw [partN4]
          obtain ⟨m, hm⟩ : ∃ m, m = nAt R 0 := ⟨_, rfl⟩
          have hml : m < 4294967296 := by rw [hm]; exact nAt_lt _ _
          rw [← hm]
          have HM := Lib.hid hm
          clear hm
          have hno : ¬ (m ≤ 16384 ∧ ts + 8 + m ≤ bs.length) → recs bs.length 0 bs = ps := by
            intro h
            have h0 := HTD.out
            have hf : okRec tx R = false := by
              unfold okRec
              rw [← HM.out]
              by_cases h16 : m ≤ 16384
              · have h2 : ¬ m ≤ R.length - 8 := fun h3 => h ⟨h16, by omega⟩
                simp [h2]
              · simp [h16]
            rw [← HRe.out, recs_no hf, List.append_nil] at h0
            exact h0.symm
          by_cases h16 : m ≤ 16384
          · have hd16 : decide ((16384 : Int) < (m : Int)) = false := by simp; omega
            by_cases hml2 : ts + 8 + m ≤ bs.length
            · have hd2 : decide ((bs.length : Int) < (ts : Int) + 8 + (m : Int)) = false := by simp; omega
              have hmc : ts + 8 + m ≤ c := by have := HV.out.cap.2; omega
              clear hno
              go_wp2_with (first | (refine wpList_slice2 rfl 5 25 (.tmp 50) (.tmp 53) (.tmp 58) ts m b o bs.length c rfl rfl rfl rfl Try.underlying25 hmc tag25 ?_; intro off hoff) | fail)
              obtain ⟨p, hP⟩ : ∃ p, p = (R.drop 8).take m := ⟨_, rfl⟩
              have hpl : p.length = m := by rw [hP]; simp; omega
              have hpd : SB wr (.slice (some ⟨b, off, none⟩) m (c - (ts + 8))) p := by
                rcases hoff with h | h
                · have : p = [] := List.eq_nil_of_length_eq_zero (by omega)
                  subst this
                  subst h
                  exact ⟨_, _, rfl, Nat.zero_le _, by simp, .inl rfl⟩
                · have h2 := ((HV.out.sbk.kept (Low.of_below HR.out.below)).part (ts + 8) m (c - (ts + 8)) (by omega) (by have := HV.out.cap.2; omega)).1
                  rw [hP, h, HRe.out, List.drop_drop]
                  exact h2
              have HPD := Lib.hid hpd
              have HP := Lib.hid hP
              have HPL := Lib.hid hpl
              clear hpd hP hoff
              refine (refPut_any tc ts tx htx (by omega) (by omega) _ p wr HPD.out (by omega)).mono ?_
              rintro e w5 ⟨u, rfl, hsu, hb5⟩
              obtain ⟨C, hC⟩ : ∃ c, c = tc + 1 := ⟨_, rfl⟩
              obtain ⟨Z, hZ⟩ : ∃ z, z = ts + (8 + p.length) := ⟨_, rfl⟩
              obtain ⟨S4, hS4⟩ : ∃ s, s = rsum tx p := ⟨_, rfl⟩
              rw [← hC, ← hZ, ← hS4]
              have HC := Lib.hid hC
              have HZ := Lib.hid hZ
              have HS4 := Lib.hid hS4
              have hrl : (rec_ tx p).length = 8 + m := by rw [rec_length, hpl]
              obtain ⟨bu, ou, cu, hcu0⟩ : ∃ bu ou, ∃ cu, u = .slice (some ⟨bu, ou, none⟩) (8 + m) cu := by
                obtain ⟨Au, cu, rfl, hsu2, -⟩ := hsu.shape
                obtain ⟨b2, o2, e, _⟩ := SB.at_ hsu2 0 (by omega)
                subst e
                rw [hrl]
                exact ⟨b2, o2, cu, rfl⟩
              subst hcu0
              have HSU := Lib.hid hsu
              have HB5 := Lib.hid hb5
              simp only [tvs]
              clear hC hZ hS4 hsu hb5 hpl
              go_wp2_with fail
              obtain ⟨W6, hW6⟩ : ∃ W6, W6 = w5.alloc (Obj.cells #[Value.int IntKind.i64 ↑C, Value.int IntKind.i64 ↑Z, Value.int IntKind.u32 ↑S4] 30) := ⟨_, rfl⟩
              rw [← hW6]
              have hb6 : Below w5.heap.size w5 W6 := by rw [hW6]; exact below_alloc1 _ _
              have hn6 : W6.heap[w5.heap.size]? = some (.cells (tvs (C, Z, S4)) 30 (0, 0)) := by rw [hW6]; exact World.alloc_heap_new _ _
              have hb56 : Below wr.heap.size wr W6 := HB5.out.trans (hb6.mono HB5.out.size)
              have HB6 := Lib.hid hb56
              have HN6 := Lib.hid hn6
              have HSU6 := Lib.hid (HSU.out.below hb6)
              have hcR6 : ∀ j, j < R.length → W6.cell? ⟨b, o + (ts + j), none⟩ = some (.int .u8 ((R.getD j 0).toNat : Int)) := fun j hj => cell_below hb56 (HcR.out j hj)
              have HcR6 := Lib.hid hcR6
              have HRR6 := Lib.hid (blk_below HR.out.res hb56)
              have HTL6 := Lib.hid (blk_below HTL.out hb56)
              have HBW6 : Hid (Below w.heap.size w W6) := Lib.hid (HR.out.below.trans (hb56.mono HR.out.below.size))
              have HOUT6 := Lib.hid (HR.out.out.move (W := W6) (fun k cs t _ _ h => blk_below h hb56))
              have c16 := cell_below hb56 c1
              have hRl8 : 8 + m ≤ R.length := by omega
              clear hW6 hb6 hn6 hb56 hcR6 c0 c1 c2
              go_loopw [12] (fun i wr3 => ∃ j : Nat, j ≤ 8 ∧ i = .int .i64 j ∧ Below W6.heap.size W6 wr3 ∧ ∀ i, i < j → (rec_ tx p).getD i 0 = R.getD i 0) (fun i _ => 8 - (intOf i).toNat)
              case atStart => exact ⟨0, by omega, rfl, Below.refl _ _, fun i hi => by omega⟩
              case round =>
                obtain ⟨j, hj, rfl, hb3, hpre⟩ := hrel
                have HB3 := Lib.hid hb3
                have HPRE := Lib.hid hpre
                clear hpre
                by_cases hj8 : j < 8
                · have c13 := cell_below hb3 c16
                  have hcb := cell_below hb3 (HcR6.out j (by omega))
                  have hcu : wr.cell? ⟨bu, ou + j, none⟩ = some (.int .u8 (((rec_ tx p).getD j 0).toNat : Int)) := by
                    have h1 : SB W6 (.slice (some ⟨bu, ou, none⟩) (rec_ tx p).length cu) (rec_ tx p) := by rw [hrl]; exact HSU6.out
                    obtain ⟨b2, o2, e, hc⟩ := SB.at_ h1 j (by omega)
                    injection e with e; injection e with e1 e2; subst e1; subst e2
                    rw [cell_below hb3 hc]
                    simp [List.getD_eq_getElem?_getD, List.getElem?_eq_getElem (show j < (rec_ tx p).length by omega)]
                  have HSTEP : Hid (∀ i, i < j + 1 → i = j ∨ i < j) := Lib.hid (fun i hi => by omega)
                  have HE : Hid ((rec_ tx p).getD j 0 ≠ R.getD j 0 → okRec tx R = false) := Lib.hid (fun hne => by
                    cases ho : okRec tx R with
                    | false => rfl
                    | true =>
                      have h1 := (okRec_iff (x := tx) (by omega) (by rw [← HM.out]; omega) (by rw [← HM.out]; omega)).1 ho j hj8
                      rw [← HM.out, ← HP.out] at h1
                      exact absurd h1 hne)
                  obtain ⟨X, hX⟩ : ∃ X, X = (rec_ tx p).getD j 0 := ⟨_, rfl⟩
                  obtain ⟨Y, hY⟩ : ∃ Y, Y = R.getD j 0 := ⟨_, rfl⟩
                  rw [← hX] at hcu
                  rw [← hY] at hcb
                  have HX := Lib.hid hX
                  have HY := Lib.hid hY
                  clear hX hY hb3
                  by_cases hxy : X = Y
                  · have hn : ((X.toNat : Int) != (Y.toNat : Int)) = false := by rw [hxy]; simp
                    go_wp2
                    go_quiet (fail)
                    go_wp2
                    go_roundw
                    case rel =>
                      refine ⟨j + 1, by omega, by go_num, below_drewN HB3.out _, fun i hi => ?_⟩
                      rcases HSTEP.out i hi with h | h
                      · rw [h, ← HX.out, ← HY.out]; exact hxy
                      · exact HPRE.out i h
                    case measure => simp [intOf]; omega
                  · have hn : ((X.toNat : Int) != (Y.toNat : Int)) = true := by
                      rw [bne_iff_ne]
                      intro h
                      exact hxy (UInt8.toNat_inj.1 (by omega))
                    have hfl := HE.out (by rw [← HX.out, ← HY.out]; exact hxy)
                    have hshort : recs bs.length 0 bs = ps := by
                      have h0 := HTD.out
                      rw [← HRe.out, recs_no hfl, List.append_nil] at h0
                      exact h0.symm
                    have HSH := Lib.hid hshort
                    have hpsl : ps.flatten.length + 8 * ps.length ≤ bs.length := hpsl0
                    have HTL3 := Lib.hid (blk_below HTL6.out HB3.out)
                    have HRR3 := Lib.hid (blk_below HRR6.out HB3.out)
                    have HBW3 : Hid (Below w.heap.size w wr) := Lib.hid (HBW6.out.trans (HB3.out.mono HBW6.out.size))
                    have HOUT3 := Lib.hid (HOUT6.out.move (W := wr) (fun k cs t _ _ h => blk_below h HB3.out))
                    clear hshort hfl
                    go_wp2
                    go_quiet (fail)
                    go_wp2_with fail
                    refine region_ev_p 3 (fun i v _ => match i with | 0 => v = u4 | 1 => v = .agg (tvs (tc, ts, tx)) | 2 => v = u4 | _ => True) (fun _ W W' => W' = W) (fun W => W = (wr.drewN nq).drew) (fun i a _ => True) (by kernel_rfl) (by kernel_rfl) ?hstV ?h0V ?hpV ?stepV ?finV
                    case hstV => rintro i j v W W' _ _ hE rfl; exact hE
                    case h0V => rfl
                    case hpV => intro i _; trivial
                    case stepV =>
                      rintro i op hi ho a W rfl hP hag hdep
                      match i, hi, ho with
                      | 0, _, rfl => exact ow_move _ rfl (hag 4 rfl) ⟨_, rfl, ⟨rfl, fun h => by cases h⟩, rfl, rfl, fun _ _ _ _ _ => trivial⟩
                      | 1, _, rfl => exact ow_load_row 30 _ rfl (w.heap.size + 1) (hag 5 rfl) 30 _ (0, 0) _ HTL3.out Try.underlying30 rfl (by kernel_rfl) ⟨_, rfl, ⟨rfl, fun h => by cases h⟩, rfl, rfl, fun _ _ _ _ _ => trivial⟩
                      | 2, _, rfl =>
                        have h1 : a.eval (.tmp 83) = u4 := hdep 0 (by omega) (by kernel_rfl)
                        exact ow_assign _ rfl h1 ⟨_, rfl, ⟨rfl, fun h => by cases h⟩, rfl, rfl, fun _ _ _ _ _ => trivial⟩
                    case finV =>
                      rintro a W rfl hsz hdf hag hf
                      have e3 : a.eval (.tmp 3) = .pointer (some ⟨w.heap.size, 0, none⟩) := hag 3 rfl
                      have e1 : a.eval (.tmp 84) = .agg (tvs (tc, ts, tx)) := hf 1 (by omega)
                      have e2 : a.eval (.tmp 2) = u4 := hf 2 (by omega)
                      simp only [List.drop_succ_cons, List.drop_zero]
                      refine wpList_store_row rfl 30 _ _ rfl w.heap.size e3 30 _ _ e1 HRR3.out rfl (by kernel_rfl) (by simp [tvs, Value.oneCell']) ?_
                      intro w3 hT3 hS3 hG3
                      show Exit.then _ _ _ _ _
                      simp only [Exit.then, Act.put]
                      apply_assumption
                      refine wp_ret (?_ : bodyPost Try.prog Try.f14 (fun e w' => ∃ u, e = .returned (.tuple #[u, .agg (tvs (tailOf (recs bs.length 0 bs)))]) ∧ SBB w' u (recs bs.length 0 bs) ∧ Below w.heap.size w w') .ret a w3)
                      refine bodyPost_ret (results2 (P := Try.prog) (p0 := 2) (p := 3) (ty := 30) rfl a.tmps _ w.heap.size 30 _ (0, 0) _ e3 hT3 Try.underlying30 rfl (by kernel_rfl)) hdf ?_
                      rw [show a.tmps.getD 2 undef = u4 from e2]
                      refine ⟨u4, by rw [HSH.out, HT.out], ?_, ?_⟩
                      · rw [HSH.out]
                        refine ((OutAt.move (W := w3) HOUT3.out (fun k cs t _ hk h => blk_grown (w := (wr.drewN nq).drew) h hG3 (fun e => by injection e with e; omega))).sbb ?_ ?_)
                        · omega
                        · intro q hq
                          have := len_le_flat hq
                          omega
                      · exact ((below_drewN HBW3.out nq).drew).grown hG3 (by have := HBW3.out.size; simp; omega) (fun j e => by injection e with e; omega)
                · have hj8' : j = 8 := by omega
                  subst hj8'
                  have hok : okRec tx R = true := (okRec_iff (x := tx) (by omega) (by rw [← HM.out]; omega) (by rw [← HM.out]; omega)).2 (by rw [← HM.out, ← HP.out]; exact HPRE.out)
                  have HOK := Lib.hid hok
                  have HTL3 := Lib.hid (blk_below HTL6.out HB3.out)
                  have HRR3 := Lib.hid (blk_below HRR6.out HB3.out)
                  have HN3 := Lib.hid (blk_below HN6.out HB3.out)
                  have HBW3 : Hid (Below w.heap.size w wr) := Lib.hid (HBW6.out.trans (HB3.out.mono HBW6.out.size))
                  have HOUT3 := Lib.hid (HOUT6.out.move (W := wr) (fun k cs t _ _ h => blk_below h HB3.out))
                  have HPD3 : Hid (SB wr (.slice (some ⟨b, off, none⟩) m (c - (ts + 8))) p) := Lib.hid ((HPD.out.below HB6.out).below HB3.out)
                  clear hok hb3 c16
                  have hpl2 : p.length ≤ 16384 := by rw [HPL.out]; exact h16
                  have hpd3 : SB (wr.alloc (.cells #[] 5)) (.slice (some ⟨b, off, none⟩) p.length (c - (ts + 8))) p := by rw [HPL.out]; exact HPD3.out.below (below_alloc1 _ _)
                  have HPD4 := Lib.hid hpd3
                  have hmade : (wr.alloc (.cells #[] 5)).ownsRow wr.heap.size 5 1 (.slice (some ⟨wr.heap.size, 0, none⟩) 0 0) 0 [] := World.ownsRow_made wr #[] 0 (Nat.le_refl _) (by unfold maxLen; omega) (by simp)
                  have HMADE := Lib.hid hmade
                  obtain ⟨i0, hi0, hz0, hz1, hz2⟩ := info_parts info5
                  obtain ⟨i1, hj0, hy0, hy1, hy2⟩ := info_parts info25
                  obtain ⟨vs, hvs, hown, hel, hdis⟩ := HOUT3.out
                  have HI := Lib.hid hi0
                  have HZ0 := Lib.hid hz0
                  have HZ1 := Lib.hid hz1
                  have HZ2 := Lib.hid hz2
                  have HJ := Lib.hid hj0
                  have HY0 := Lib.hid hy0
                  have HY1 := Lib.hid hy1
                  have HY2 := Lib.hid hy2
                  have HVS := Lib.hid hvs
                  have HOWN := Lib.hid hown
                  have HEL := Lib.hid hel
                  have HDIS := Lib.hid hdis
                  have hown30 : ∀ j, u4.ownBlock = some j → j ≠ w.heap.size + 1 := by
                    intro j hj
                    have := (HOWN.out.lt j hj).1
                    omega
                  have hown31 : ∀ j, u4.ownBlock = some j → j ≠ w5.heap.size := by
                    intro j hj e
                    rcases own_ne_blk HOWN.out HN3.out (by decide) with h | h
                    · rw [h] at hj; cases hj
                    · rw [hj, e] at h; exact h rfl
                  have hwrlt : w.heap.size + 1 < wr.heap.size := blk_lt HTL3.out
                  have hpsl2 : ps.length ≤ 1099511627776 := by omega
                  have HPS2 := Lib.hid hpsl2
                  have HSM := Lib.hid hsm
                  have HPL2 := Lib.hid hpl2
                  clear hpsl2 hsm hpl2
                  have HOWN30 := Lib.hid hown30
                  have HOWN31 := Lib.hid hown31
                  clear hown30 hown31 hpd3 hmade hi0 hz0 hz1 hz2 hj0 hy0 hy1 hy2 hvs hown hel hdis
                  go_wp2_with (first
                    | (refine wpList_append_src _ rfl (.tmp 86) (.tmp 87) 25 rfl wr.heap.size 5 i0 (.int .u8 0) 1 Try.underlying25 HI.out HZ0.out HZ1.out HZ2.out rfl _ _ _ rfl HMADE.out (some ⟨b, off, none⟩) m (c - (ts + 8)) (bytesV p) rfl (by rw [bytesV_length]; exact HPL.out) (by simp) HPD4.out.cells (bytesV_one p) (by unfold maxLen; omega) (by omega) (by simp) ?_; intro v3 w3 hown3 hg3 hat3)
                    | (refine wpList_build1 rfl (.tmp 88) rfl rfl (own_one hown3) ?_; intro w4 hb4 hbel4)
                    | (refine wpList_append_src _ rfl (.tmp 85) (.tmp 89) 22 rfl (w.heap.size + 2) 25 i1 (.slice none 0 0) 24 Try.underlying22 HJ.out HY0.out HY1.out HY2.out rfl _ ps.length vs rfl (own_move HOWN.out (fun j cs _ h => keep34 h hg3 hbel4)) (some ⟨w3.heap.size, 0, none⟩) 1 1 [v3] rfl rfl (by simp) (cells_one hb4) (fun x hx => by rw [List.mem_singleton.1 hx]; exact own_one hown3) (by have := HPS2.out; unfold maxLen; omega) (by have := HPS2.out; omega) (by have h1 := hg3.size; rw [World.size_alloc] at h1; have h2 := hbel4.size; omega) ?_; intro v5 w7 hrow7 hg7 hat7)
                    | (refine wpList_load_row rfl 30 _ rfl w5.heap.size rfl 30 _ (0, 0) _ (blk_grown (keep34 HN3.out hg3 hbel4) hg7 (fun e => HOWN31.out _ e.symm rfl)) Try.underlying30 rfl (by kernel_rfl) ?_)
                    | (refine wpList_store_row rfl 30 _ _ rfl (w.heap.size + 1) rfl 30 _ _ rfl (blk_grown (keep34 HTL3.out hg3 hbel4) hg7 (fun e => HOWN30.out _ e.symm rfl)) rfl (by kernel_rfl) (by simp [tvs, Value.oneCell']) ?_; intro w8 hT8 hS8 hG8))
                  have hownlt : ∀ j, u4.ownBlock = some j → w.heap.size + 2 ≤ j ∧ j < wr.heap.size ∧ ∃ cs, wr.heap[j]? = some (.cells cs 25 (0, 0)) := by
                    intro j hj
                    rcases HOWN.out.2 with ⟨hv, _⟩ | ⟨g, cap, cur, hv, h2, h3, _⟩
                    · rw [hv] at hj; cases hj
                    · rw [hv] at hj
                      injection hj with hj
                      subst hj
                      exact ⟨h2, blk_lt h3, cur, h3⟩
                  have k47 : ∀ (j : Nat) (x : Obj), u4.ownBlock ≠ some j → w4.heap[j]? = some x → w7.heap[j]? = some x := fun j x hj h => blk_grown h hg7 (fun e => hj e.symm)
                  have k78 : ∀ (j : Nat) (x : Obj), j ≠ w.heap.size + 1 → w7.heap[j]? = some x → w8.heap[j]? = some x := fun j x hj h => blk_grown h hG8 (fun e => by injection e with e; exact hj e)
                  have hv3 : w8.ownsRow wr.heap.size 5 1 v3 p.length (bytesV p) := by
                    have h1 : w3.ownsRow wr.heap.size 5 1 v3 p.length (bytesV p) := by rw [HPL.out]; simpa using hown3
                    refine own_move h1 (fun j cs hj h => k78 j _ (by omega) (k47 j _ (fun e => ?_) (blk_below h hbel4)))
                    have := hownlt j e
                    omega
                  have hout8 : OutAt (w.heap.size + 2) w8 v5 (ps ++ [p]) := by
                    refine OutAt.push vs HVS.out (fun i x q h1 h2 => ?_) HDIS.out (M := wr.heap.size) (fun i x g h1 h2 => ?_) ?_ (by omega) hv3
                    · refine own_move (HEL.out i x q h1 h2) (fun j cs hj h => k78 j _ (by omega) (k47 j _ (fun e => ?_) (keep34 h hg3 hbel4)))
                      obtain ⟨_, _, cs', h'⟩ := hownlt j e
                      rw [h] at h'
                      injection h' with h'
                      injection h' with _ h'
                      cases h'
                    · have hi : i < ps.length := by have := (List.getElem?_eq_some_iff.1 h1).1; have := HVS.out; omega
                      exact ((HEL.out i x ps[i] h1 (by simp [hi])).lt g h2).2
                    · exact own_move hrow7 (fun j cs hj h => k78 j _ (by omega) h)
                  have htl8 : tailOf (ps ++ [p]) = (C, Z, S4) := by rw [tailOf_snoc, HT.out, HC.out, HZ.out, HS4.out]
                  have hZ8 : Z = ts + (8 + m) := by rw [HZ.out, HPL.out]
                  have hrel8 : RefAt w bs (ps ++ [p]) v5 w8 := by
                    refine ⟨?_, ?_, ?_, hout8, ?_, ?_⟩
                    · exact k78 _ _ (by omega) (k47 _ _ (fun e => by have := hownlt _ e; omega) (keep34 HRR3.out hg3 hbel4))
                    · rw [htl8]; exact hT8
                    · have b1 := HBW3.out.alloc HBW3.out.size (.cells #[] 5)
                      have b2 : Below w.heap.size w w3 := b1.grown hg3 b1.size (fun k hk => by
                        have hk' : some wr.heap.size = some k := hk.symm ▸ rfl
                        injection hk' with hk'
                        have := HBW3.out.size
                        omega)
                      have b3 := b2.trans (hbel4.mono b2.size)
                      have b4 : Below w.heap.size w w7 := b3.grown hg7 b3.size (fun k hk => by have := hownlt k hk; omega)
                      exact b4.grown hG8 b4.size (fun k hk => by injection hk with hk; omega)
                    · rw [htl8]; show Z ≤ bs.length; omega
                    · rw [htl8]
                      show (ps ++ [p]) ++ recs (bs.length - Z) S4 (bs.drop Z) = _
                      rw [← HTD.out, List.append_assoc]
                      congr 1
                      obtain ⟨k, hk⟩ : ∃ k, bs.length - ts = k + 1 := ⟨bs.length - ts - 1, by omega⟩
                      have h1 : recs (bs.length - ts) tx (bs.drop ts) = p :: recs k S4 ((bs.drop ts).drop (8 + m)) := by
                        rw [hk, ← HRe.out]
                        simp only [recs]
                        rw [if_pos HOK.out, ← HM.out, ← HP.out, (okRec_sum HOK.out).1, ← HM.out, ← HP.out, HS4.out]
                      rw [h1, List.drop_drop, ← hZ8, recs_more k S4 (bs.drop Z) (bs.length - Z) (by rw [List.length_drop]; omega) (by rw [List.length_drop]; omega)]
                      rfl
                  refine ⟨⟨_, _, _, _, _, _, _, _, _, _, _, _, _, _, _, _, _, _, _, _, _, _, _, _, _, _, _, _, _, _, _, _, _, _, _, _, _, _, _, _, _, _, _, _, _, _, _, _, _, _, _, _, _, _, _, _, _, _, _, _, _, _, _, _, _, _, _, _, _, _, _, _, _, _, _, _, _, _, _, _, _, _, _, _, _, _, _, _, ⟨ps ++ [p], hrel8⟩, rfl⟩, ?_⟩
                  · have e1 := hout8.lenOf
                    have e2 := HLOF.out
                    rw [List.length_append, List.length_singleton] at e1
                    show bs.length + 1 - lenOf v5 < bs.length + 1 - lenOf u4
                    omega
            · have hd2 : decide ((bs.length : Int) < (ts : Int) + 8 + (m : Int)) = true := by simp; omega
              have hshort := hno (fun h => hml2 h.2)
              have hpsl : ps.flatten.length + 8 * ps.length ≤ bs.length := hpsl0
              have HSH := Lib.hid hshort
              clear hno hshort
              go_wp2_with fail
              refine region_ev_p 3 (fun i v _ => match i with | 0 => v = u4 | 1 => v = .agg (tvs (tc, ts, tx)) | 2 => v = u4 | _ => True) (fun _ W W' => W' = W) (fun W => W = wr.drew) (fun i a _ => True) (by kernel_rfl) (by kernel_rfl) ?hstS ?h0S ?hpS ?stepS ?finS
              case hstS => rintro i j v W W' _ _ hE rfl; exact hE
              case h0S => rfl
              case hpS => intro i _; trivial
              case stepS =>
                rintro i op hi ho a W rfl hP hag hdep
                match i, hi, ho with
                | 0, _, rfl => exact ow_move _ rfl (hag 4 rfl) ⟨_, rfl, ⟨rfl, fun h => by cases h⟩, rfl, rfl, fun _ _ _ _ _ => trivial⟩
                | 1, _, rfl => exact ow_load_row 30 _ rfl (w.heap.size + 1) (hag 5 rfl) 30 _ (0, 0) _ HTL.out Try.underlying30 rfl (by kernel_rfl) ⟨_, rfl, ⟨rfl, fun h => by cases h⟩, rfl, rfl, fun _ _ _ _ _ => trivial⟩
                | 2, _, rfl =>
                  have h1 : a.eval (.tmp 48) = u4 := hdep 0 (by omega) (by kernel_rfl)
                  exact ow_assign _ rfl h1 ⟨_, rfl, ⟨rfl, fun h => by cases h⟩, rfl, rfl, fun _ _ _ _ _ => trivial⟩
              case finS =>
                rintro a W rfl hsz hdf hag hf
                have e3 : a.eval (.tmp 3) = .pointer (some ⟨w.heap.size, 0, none⟩) := hag 3 rfl
                have e1 : a.eval (.tmp 49) = .agg (tvs (tc, ts, tx)) := hf 1 (by omega)
                have e2 : a.eval (.tmp 2) = u4 := hf 2 (by omega)
                simp only [List.drop_succ_cons, List.drop_zero]
                refine wpList_store_row rfl 30 _ _ rfl w.heap.size e3 30 _ _ e1 HR.out.res rfl (by kernel_rfl) (by simp [tvs, Value.oneCell']) ?_
                intro w3 hT3 hS3 hG3
                show Exit.then _ _ _ _ _
                simp only [Exit.then, Act.put]
                apply_assumption
                refine wp_ret (?_ : bodyPost Try.prog Try.f14 (fun e w' => ∃ u, e = .returned (.tuple #[u, .agg (tvs (tailOf (recs bs.length 0 bs)))]) ∧ SBB w' u (recs bs.length 0 bs) ∧ Below w.heap.size w w') .ret a w3)
                refine bodyPost_ret (results2 (P := Try.prog) (p0 := 2) (p := 3) (ty := 30) rfl a.tmps _ w.heap.size 30 _ (0, 0) _ e3 hT3 Try.underlying30 rfl (by kernel_rfl)) hdf ?_
                rw [show a.tmps.getD 2 undef = u4 from e2]
                refine ⟨u4, by rw [HSH.out, HT.out], ?_, ?_⟩
                · rw [HSH.out]
                  refine ((OutAt.move (W := w3) HR.out.out (fun k cs t _ hk h => blk_grown (w := wr.drew) h hG3 (fun e => by injection e with e; omega))).sbb ?_ ?_)
                  · omega
                  · intro q hq
                    have := len_le_flat hq
                    omega
                · exact (HR.out.below.drew).grown hG3 (by have := HR.out.below.size; simp; omega) (fun j e => by injection e with e; omega)
          · have hd16 : decide ((16384 : Int) < (m : Int)) = true := by simp; omega
            have hshort := hno (fun h => h16 h.1)
            have hpsl : ps.flatten.length + 8 * ps.length ≤ bs.length := hpsl0
            have HSH := Lib.hid hshort
            clear hno hshort
            go_wp2_with fail
            refine region_ev_p 3 (fun i v _ => match i with | 0 => v = u4 | 1 => v = .agg (tvs (tc, ts, tx)) | 2 => v = u4 | _ => True) (fun _ W W' => W' = W) (fun W => W = wr.drew) (fun i a _ => True) (by kernel_rfl) (by kernel_rfl) ?hstU ?h0U ?hpU ?stepU ?finU
            case hstU => rintro i j v W W' _ _ hE rfl; exact hE
            case h0U => rfl
            case hpU => intro i _; trivial
            case stepU =>
              rintro i op hi ho a W rfl hP hag hdep
              match i, hi, ho with
              | 0, _, rfl => exact ow_move _ rfl (hag 4 rfl) ⟨_, rfl, ⟨rfl, fun h => by cases h⟩, rfl, rfl, fun _ _ _ _ _ => trivial⟩
              | 1, _, rfl => exact ow_load_row 30 _ rfl (w.heap.size + 1) (hag 5 rfl) 30 _ (0, 0) _ HTL.out Try.underlying30 rfl (by kernel_rfl) ⟨_, rfl, ⟨rfl, fun h => by cases h⟩, rfl, rfl, fun _ _ _ _ _ => trivial⟩
              | 2, _, rfl =>
                have h1 : a.eval (.tmp 48) = u4 := hdep 0 (by omega) (by kernel_rfl)
                exact ow_assign _ rfl h1 ⟨_, rfl, ⟨rfl, fun h => by cases h⟩, rfl, rfl, fun _ _ _ _ _ => trivial⟩
            case finU =>
              rintro a W rfl hsz hdf hag hf
              have e3 : a.eval (.tmp 3) = .pointer (some ⟨w.heap.size, 0, none⟩) := hag 3 rfl
              have e1 : a.eval (.tmp 49) = .agg (tvs (tc, ts, tx)) := hf 1 (by omega)
              have e2 : a.eval (.tmp 2) = u4 := hf 2 (by omega)
              simp only [List.drop_succ_cons, List.drop_zero]
              refine wpList_store_row rfl 30 _ _ rfl w.heap.size e3 30 _ _ e1 HR.out.res rfl (by kernel_rfl) (by simp [tvs, Value.oneCell']) ?_
              intro w3 hT3 hS3 hG3
              show Exit.then _ _ _ _ _
              simp only [Exit.then, Act.put]
              apply_assumption
              refine wp_ret (?_ : bodyPost Try.prog Try.f14 (fun e w' => ∃ u, e = .returned (.tuple #[u, .agg (tvs (tailOf (recs bs.length 0 bs)))]) ∧ SBB w' u (recs bs.length 0 bs) ∧ Below w.heap.size w w') .ret a w3)
              refine bodyPost_ret (results2 (P := Try.prog) (p0 := 2) (p := 3) (ty := 30) rfl a.tmps _ w.heap.size 30 _ (0, 0) _ e3 hT3 Try.underlying30 rfl (by kernel_rfl)) hdf ?_
              rw [show a.tmps.getD 2 undef = u4 from e2]
              refine ⟨u4, by rw [HSH.out, HT.out], ?_, ?_⟩
              · rw [HSH.out]
                refine ((OutAt.move (W := w3) HR.out.out (fun k cs t _ hk h => blk_grown (w := wr.drew) h hG3 (fun e => by injection e with e; omega))).sbb ?_ ?_)
                · omega
                · intro q hq
                  have := len_le_flat hq
                  omega
              · exact (HR.out.below.drew).grown hG3 (by have := HR.out.below.size; simp; omega) (fun j e => by injection e with e; omega)
    · have hd8 : decide ((bs.length : Int) < (ts : Int) + 8) = true := by simp; omega
      go_wp2_with fail
      have hshort : recs bs.length 0 bs = ps := by
        have h := HTD.out
        rw [recs_no (okRec_short (by rw [List.length_drop]; omega)), List.append_nil] at h
        exact h.symm
      have hpsl : ps.flatten.length + 8 * ps.length ≤ bs.length := hpsl0
      refine region_ev_p 3 (fun i v _ => match i with | 0 => v = u4 | 1 => v = .agg (tvs (tc, ts, tx)) | 2 => v = u4 | _ => True) (fun _ W W' => W' = W) (fun W => W = wr.drew) (fun i a _ => True) (by kernel_rfl) (by kernel_rfl) ?hstR ?h0R ?hpR ?stepR ?finR
      case hstR => rintro i j v W W' _ _ hE rfl; exact hE
      case h0R => rfl
      case hpR => intro i _; trivial
      case stepR =>
        rintro i op hi ho a W rfl hP hag hdep
        match i, hi, ho with
        | 0, _, rfl => exact ow_move _ rfl (hag 4 rfl) ⟨_, rfl, ⟨rfl, fun h => by cases h⟩, rfl, rfl, fun _ _ _ _ _ => trivial⟩
        | 1, _, rfl => exact ow_load_row 30 _ rfl (w.heap.size + 1) (hag 5 rfl) 30 _ (0, 0) _ HTL.out Try.underlying30 rfl (by kernel_rfl) ⟨_, rfl, ⟨rfl, fun h => by cases h⟩, rfl, rfl, fun _ _ _ _ _ => trivial⟩
        | 2, _, rfl =>
          have h1 : a.eval (.tmp 19) = u4 := hdep 0 (by omega) (by kernel_rfl)
          exact ow_assign _ rfl h1 ⟨_, rfl, ⟨rfl, fun h => by cases h⟩, rfl, rfl, fun _ _ _ _ _ => trivial⟩
      case finR =>
        rintro a W rfl hsz hdf hag hf
        have e3 : a.eval (.tmp 3) = .pointer (some ⟨w.heap.size, 0, none⟩) := hag 3 rfl
        have e1 : a.eval (.tmp 20) = .agg (tvs (tc, ts, tx)) := hf 1 (by omega)
        have e2 : a.eval (.tmp 2) = u4 := hf 2 (by omega)
        simp only [List.drop_succ_cons, List.drop_zero]
        refine wpList_store_row rfl 30 _ _ rfl w.heap.size e3 30 _ _ e1 HR.out.res rfl (by kernel_rfl) (by simp [tvs, Value.oneCell']) ?_
        intro w3 hT3 hS3 hG3
        show Exit.then _ _ _ _ _
        simp only [Exit.then, Act.put]
        apply_assumption
        refine wp_ret (?_ : bodyPost Try.prog Try.f14 (fun e w' => ∃ u, e = .returned (.tuple #[u, .agg (tvs (tailOf (recs bs.length 0 bs)))]) ∧ SBB w' u (recs bs.length 0 bs) ∧ Below w.heap.size w w') .ret a w3)
        refine bodyPost_ret (results2 (P := Try.prog) (p0 := 2) (p := 3) (ty := 30) rfl a.tmps _ w.heap.size 30 _ (0, 0) _ e3 hT3 Try.underlying30 rfl (by kernel_rfl)) hdf ?_
        rw [show a.tmps.getD 2 undef = u4 from e2]
        refine ⟨u4, by rw [hshort, HT.out], ?_, ?_⟩
        · rw [hshort]
          refine ((OutAt.move (W := w3) HR.out.out (fun k cs t _ hk h => blk_grown (w := wr.drew) h hG3 (fun e => by injection e with e; omega))).sbb ?_ ?_)
          · omega
          · intro q hq
            have := len_le_flat hq
            omega
        · exact (HR.out.below.drew).grown hG3 (by have := HR.out.below.size; simp; omega) (fun j e => by injection e with e; omega)
end Go.Proofs.Ytlhdnloimgckgaa
