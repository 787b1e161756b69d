/-
  digest.Sum.
-/
import Derived.Test.YtnemclbeofiakaaWn
namespace Go.Proofs.Ytnemclbeofiakaa
open Go.RowKit Bl

theorem zero54 (w : World) : (zeroValue 54).run Try.prog w = .ok (.agg (bytesV (List.replicate 64 0)).toArray) w := by kernel_rfl
/-- bytes copied into a row of bytes -/
theorem copy_bytes (W : World) (g : Nat) (x y : List UInt8) (A : Option Addr) (t : TypeId) (n c c' : Nat) (dT ty : TypeId) (hu : Try.prog.underlying dT = some (.slice 5))
    (hg : W.heap[g]? = some (.cells (bytesV x).toArray t (0, 0))) (hb : SB W (.slice A y.length c') y) (hn : n = x.length) (hfit : y.length ≤ x.length) :
    ∃ W', (Builtin.copy_ #[dT, dT] ty #[.slice (some ⟨g, 0, none⟩) n c, .slice A y.length c']).run Try.prog W = .ok (goInt y.length) W' ∧
      W'.heap[g]? = some (.cells (bytesV (y ++ x.drop y.length)).toArray t (0, 0)) ∧ W.grownBy W' (some g) := by
  subst hn
  by_cases h0 : y = []
  · subst h0
    refine ⟨W, ?_, by simpa using hg, grown_refl _ _⟩
    exact run_copy_none (P := Try.prog) W dT dT ty 5 _ A _ _ 0 c' hu tag5 (by simp)
  · have hpos : 0 < y.length := List.length_pos_iff.2 h0
    have hl : (bytesV y).length = y.length := by simp [bytesV]
    obtain ⟨b, o, rfl, _⟩ := SB.part hb hpos
    have h := run_copy_row (P := Try.prog) W dT dT ty 5 g 0 x.length c ⟨b, o, none⟩ y.length c' (bytesV x).toArray t (bytesV y) hu tag5 hg (by rw [hl]; exact (Nat.min_eq_left hfit).symm)
      (hb.cells _ rfl) (by rw [hl]; simp [bytesV]; exact hfit) (bytesV_one y)
    refine ⟨_, h.trans (by rw [hl]), ?_, ?_⟩
    · rw [setRow_heap W g _ _ t (0, 0) hg]
      simp [bytesV]
    · exact ⟨rfl, rfl, rfl, by simp, fun k _ hk => setRow_other W g k _ (fun e => hk (by rw [e]))⟩
theorem getD_zeros (r : List UInt8) (m k : Nat) : (r ++ List.replicate m 0).getD k 0 = r.getD k 0 := by
  rw [List.getD_eq_getElem?_getD, List.getD_eq_getElem?_getD, List.getElem?_append]
  split
  · rfl
  · rename_i h
    rw [List.getElem?_eq_none (l := r) (by omega), List.getElem?_replicate]
    split <;> rfl
theorem words_zeros (r : List UInt8) (m : Nat) : wordsF (r ++ List.replicate m 0) = wordsF r := by
  unfold wordsF
  refine List.map_congr_left fun i _ => ?_
  unfold word
  simp only [getD_zeros]
theorem outF_succ (h : List Nat) (k : Nat) : outF h (k + 1) = outF h k ++ [UInt8.ofNat (h.getD (k / 4) 0 / 2 ^ (8 * (k % 4)))] := by
  simp [outF, List.range_succ]
theorem outF_length (h : List Nat) (k : Nat) : (outF h k).length = k := by simp [outF]
theorem writeL_rest : ∀ (f : Nat) (h : List Nat) (n : Nat) (r : List UInt8), r.length ≤ f → (writeL f h n r).2.2.length ≤ 64 := by
  intro f
  induction f with
  | zero => intro h n r hr; simp only [writeL]; omega
  | succ f ih =>
    intro h n r hr
    simp only [writeL]
    split
    · assumption
    · exact ih _ _ _ (by simp; omega)
theorem SB_nil (w : World) : SB w nilS [] := ⟨none, 0, rfl, Nat.le_refl _, by simp, .inl rfl⟩

section
variable {Q : Exit → Act → World → Prop} {o : Oper} {a : Act} {w : World} {K : Act → World → Prop}
theorem ow_len (x : Operand) (t e : TypeId) (hu : Try.prog.underlying t = some (.slice e)) (ho : o.op = .call { callee := .builtin .len, args := #[x], argTypes := #[t] }) {A : Option Addr} {n c : Nat} (hx : a.eval x = .slice A n c) (h : K (a.put o.dst (.int .i64 (n : Int))) w) : o.wp Try.prog a w K Q := by
  refine ow_value (v := .int .i64 (n : Int)) ?_ h
  unfold execOp
  simp only [ho, resolve, invoke, builtin, Sem.run_bind, Sem.run_pure, Result.andThen_ok, List.map_toArray, List.map_cons, List.map_nil, hx]
  simp [Builtin.len_, run_underlying hu, goInt]
theorem ow_conv64 (x : Operand) (i : Nat) (ho : o.op = .convert 3 25 x) (hx : a.eval x = .int .i64 (i : Int)) (hi : i < 18446744073709551616) (h : K (a.put o.dst (.int .u64 (i : Int))) w) : o.wp Try.prog a w K Q := by
  refine ow_value (v := .int .u64 (i : Int)) ?_ h
  unfold execOp
  simp only [ho, hx]
  have hw : IntKind.u64.wrap (i : Int) = (i : Int) := by rw [IntKind.wrap_u64]; omega
  simp [go_sem, hw]
theorem ow_add64 (x y : Operand) (t ty : TypeId) (i j : Nat) (ho : o.op = .binOp .add t x y ty) (hx : a.eval x = .int .u64 (i : Int)) (hy : a.eval y = .int .u64 (j : Int)) (_hu : Try.prog.underlying t = some (.int .u64))
    (h : K (a.put o.dst (.int .u64 (((i + j) % 18446744073709551616 : Nat) : Int))) w) : o.wp Try.prog a w K Q := by
  refine ow_value (v := .int .u64 (((i + j) % 18446744073709551616 : Nat) : Int)) ?_ h
  unfold execOp
  simp only [ho, hx, hy]
  have hw : IntKind.u64.wrap ((i : Int) + (j : Int)) = (((i + j) % 18446744073709551616 : Nat) : Int) := by rw [IntKind.wrap_u64]; omega
  simp [go_sem, hw]
theorem ow_load_words (x : Operand) (ho : o.op = .load 23 x) (g : Nat) {h : List Nat} {n : Nat} {size : Int} {sl : Value} {r : List UInt8} (H : DgAt g h n size sl r w) (hx : a.eval x = .pointer (some ⟨g, 0, none⟩)) (hK : K (a.put o.dst (.agg (wordsV h).toArray)) w) : o.wp Try.prog a w K Q := by
  refine ow_load_part 23 _ ho g hx _ _ (fun j v hj => ?_) Try.underlying23 rfl (by rw [wordsV_size, H.wds.1]; kernel_rfl) hK
  have hjl : j < h.length := by have := (Array.getElem?_eq_some_iff.1 hj).1; rwa [wordsV_size] at this
  rw [cell_of_row _ _ j _ _ _ H.row, dgV_word _ _ _ j hjl, ← hj]
  simp [wordsV, List.getD_eq_getElem?_getD, hjl]
end
theorem own_ge {w : World} {B : Nat} {e : TypeId} {n : Nat} {v : Value} {xs : List Value} (h : w.ownsRow B e 1 v n xs) : ∀ k, v.ownBlock = some k → B ≤ k := by
  intro k hk
  rcases h.2 with ⟨hv, _⟩ | ⟨g', cap, cur, hv, h2, _⟩
  · rw [hv] at hk; cases hk
  · rw [hv] at hk
    injection hk with hk
    subst hk
    exact h2
theorem one_cell {w : World} {b : Nat} {v : Value} {t : TypeId} {fr : Nat × Nat} (h : w.heap[b]? = some (.cells #[v] t fr)) : ∀ ad, some (⟨b, 0, none⟩ : Addr) = some ad → ∀ (j : Nat) (u : Value), [v][j]? = some u → w.cell? (ad.add j) = some u := by
  intro ad e j u hu
  injection e with e
  subst e
  have hj : j = 0 := by have := (List.getElem?_eq_some_iff.1 hu).1; simp at this; omega
  subst hj
  rw [add_plain, cell_of_row w b (0 + 0) _ _ _ h]
  simpa using hu
theorem wpList_shr32 {ops : Array Oper} {rest : List Oper} {Q : Exit → Act → World → Prop} {o : Oper} {a : Act} {w : World} (hgd : o.guard = none) (x y : Operand) (i k : Nat) (ho : o.op = .binOp .shr 22 x y 3) (hx : a.eval x = .int .u32 (i : Int)) (hy : a.eval y = .int .i64 (k : Int)) (hk : k ≤ 31) (hi : i < M)
    (h : wpList Try.prog ops Q rest (a.put o.dst (.int .u32 ((i / 2 ^ k : Nat) : Int))) w) : wpList Try.prog ops Q (o :: rest) a w := by
  refine wpList_plain hgd fun K hK => ow_value (v := .int .u32 ((i / 2 ^ k : Nat) : Int)) ?_ (hK _ _ h)
  unfold execOp
  simp only [ho, hx, hy]
  have hw : IntKind.u32.wrap (((i / 2 ^ k : Nat) : Int)) = ((i / 2 ^ k : Nat) : Int) := by
    have hj : i / 2 ^ k ≤ i := Nat.div_le_self _ _
    generalize i / 2 ^ k = j at hj ⊢
    rw [IntKind.wrap_u32']; unfold M at hi; omega
  rw [Int.natCast_ediv, Int.natCast_pow] at hw ⊢
  have h2 : ((2 : Nat) : Int) = 2 := rfl
  rw [h2] at hw ⊢
  simp [go_sem]
theorem wpList_conv5 {ops : Array Oper} {rest : List Oper} {Q : Exit → Act → World → Prop} {o : Oper} {a : Act} {w : World} (hgd : o.guard = none) (x : Operand) (i : Nat) (ho : o.op = .convert 22 5 x) (hx : a.eval x = .int .u32 (i : Int))
    (h : wpList Try.prog ops Q rest (a.put o.dst (.int .u8 (((UInt8.ofNat i).toNat : Nat) : Int))) w) : wpList Try.prog ops Q (o :: rest) a w := by
  refine wpList_plain hgd fun K hK => ow_value (v := .int .u8 (((UInt8.ofNat i).toNat : Nat) : Int)) ?_ (hK _ _ h)
  unfold execOp
  simp only [ho, hx]
  have hw : IntKind.u8.wrap (i : Int) = (((UInt8.ofNat i).toNat : Nat) : Int) := by
    simp [IntKind.wrap, IntKind.bits, IntKind.signed]
  simp [go_sem, hw]
theorem SB.of_blocks {w W : World} {v : Value} {r : List UInt8} (H : SB w v r) (hk : ∀ (k : Nat) (o : Obj), w.heap[k]? = some o → W.heap[k]? = some o) : SB W v r := by
  obtain ⟨A, c, rfl, h1, h2, h3⟩ := H
  refine ⟨A, c, rfl, h1, h2, h3.imp id ?_⟩
  rintro ⟨b, o, rfl, hc⟩
  refine ⟨b, o, rfl, fun i hi => ?_⟩
  have h0 := hc i hi
  have hlt := cell_lt h0
  have hgb : w.heap[b]? = some w.heap[b] := by simp [hlt]
  have h4 := hk _ _ hgb
  have : W.cell? ⟨b, o + i, none⟩ = w.cell? ⟨b, o + i, none⟩ := by simp [World.cell?, hgb, h4]
  rw [this]
  exact h0
theorem DgAt.c8 {g : Nat} {h : List Nat} {n : Nat} {size : Int} {sl : Value} {r : List UInt8} {W : World} (H : DgAt g h n size sl r W) : W.cell? ⟨g, 8, none⟩ = some sl := (cell_of_row _ _ 8 _ _ _ H.row).trans (dgV_sl H.wds.1 sl n size)
theorem DgAt.c9 {g : Nat} {h : List Nat} {n : Nat} {size : Int} {sl : Value} {r : List UInt8} {W : World} (H : DgAt g h n size sl r W) : W.cell? ⟨g, 9, none⟩ = some (.int .u64 (n : Int)) := (cell_of_row _ _ 9 _ _ _ H.row).trans (dgV_n H.wds.1 sl n size)
theorem DgAt.c10 {g : Nat} {h : List Nat} {n : Nat} {size : Int} {sl : Value} {r : List UInt8} {W : World} (H : DgAt g h n size sl r W) : W.cell? ⟨g, 10, none⟩ = some (.int .i64 size) := (cell_of_row _ _ 10 _ _ _ H.row).trans (dgV_sz H.wds.1 sl n size)

set_option maxHeartbeats 1000000 in
theorem Sum_any (h : List Nat) (hh : Wds 8 h) (n : Nat) (hn : n < 18446744073709551616) (size : Int) (sl : Value) (r : List UInt8) (w : World) (hs : SB w sl r) (s : Nat) (hsz : size = (s : Int)) (hs1 : 1 ≤ s) (hs32 : s ≤ 32) :
    Calls Try.prog 14 #[.agg (dgV h sl n size)] w fun e w' => ∃ v, e = .returned v ∧
      w'.ownsRow w.heap.size 5 1 v s (bytesV (outF (lastF (writeL r.length h n r).1 (writeL r.length h n r).2.1 (writeL r.length h n r).2.2) s)) ∧ Below w.heap.size w w' := by
  subst hsz
  obtain ⟨A, c, rfl, hs, hl⟩ := hs.shape
  have HSL := Lib.hid hs
  have HL := Lib.hid hl
  have HH := Lib.hid hh
  have hrow0 := World.alloc_heap_new w (.cells (dgV h (.slice A r.length c) n (s : Int)) 33)
  have HR0 := Lib.hid hrow0
  clear hs hl hh hrow0
  go_enter Try.func14, Try.ntmps14
  go_wp2_with (refine wpList_load_row rfl 33 _ rfl w.heap.size rfl 33 _ (0, 0) _ HR0.out Try.underlying33 rfl (by rw [dgV_size HH.out.1]; kernel_rfl) ?_)
  have hba := below_alloc1 w (.cells (dgV h (.slice A r.length c) n (s : Int)) 33)
  refine (Write_any h HH.out n hn (s : Int) (.slice A r.length c) nilS r [] _ (HSL.out.below hba) (SB_nil _) (by rw [List.append_nil]; exact HL.out)).mono ?_
  rintro e w1 ⟨sl', rfl, hown, hb1⟩
  rw [List.append_nil] at hown
  rw [List.append_nil]
  have hwd := writeL_wds r.length h n r HH.out hn
  obtain ⟨h1, hh1⟩ : ∃ x, x = (writeL r.length h n r).1 := ⟨_, rfl⟩
  obtain ⟨n1, hn1⟩ : ∃ x, x = (writeL r.length h n r).2.1 := ⟨_, rfl⟩
  obtain ⟨r1, hr1⟩ : ∃ x, x = (writeL r.length h n r).2.2 := ⟨_, rfl⟩
  rw [← hh1, ← hn1, ← hr1] at hwd
  rw [← hr1] at hown
  rw [← hh1, ← hn1]
  have hr64 : r1.length ≤ 64 := by rw [hr1]; exact writeL_rest _ _ _ _ (Nat.le_refl _)
  have hrl : r1.length ≤ 140737488355328 := by omega
  obtain ⟨A1, c1, rfl, hs1', -⟩ := (SB_of_own hown hrl).shape
  obtain ⟨g, hg⟩ : ∃ g, g = w.heap.size := ⟨_, rfl⟩
  have HG := Lib.hid hg
  have HE1 := Lib.hid hh1
  have HE2 := Lib.hid hn1
  have HE3 := Lib.hid hr1
  have HWD := Lib.hid hwd
  have hrow1 := blk_below HR0.out hb1
  have hbel1 : Below w.heap.size w w1 := hba.trans (hb1.mono (by simp))
  rw [← hg] at hrow1 hbel1 ⊢
  have HR1 := Lib.hid hrow1
  have HB1 := Lib.hid hbel1
  have HS1 := Lib.hid hs1'
  clear hh1 hn1 hr1 hwd hg hown hs1' hrow1 hbel1 hb1 hba HR0
  go_wp2_with (refine wpList_store_row rfl 33 _ _ rfl g rfl 33 _ _ rfl HR1.out (by rw [dgV_size HH.out.1, dgV_size HWD.out.1.1]) (by rw [dgV_size HWD.out.1.1]; kernel_rfl) (dgV_one _ _ rfl) ?_; intro w2 hT2 hS2 hG2; have HT2 := Lib.hid hT2; have HG2 := Lib.hid hG2; have hc10 := (cell_of_row _ _ 10 _ _ _ hT2).trans (dgV_sz HWD.out.1.1 _ _ _); clear hT2 hG2 hS2)
  have hdg2 : DgAt g h1 n1 (s : Int) (.slice A1 r1.length c1) r1 w2 := ⟨HT2.out, HS1.out.grown33 HR1.out (dgV_nobyte n (s : Int)) HG2.out, HWD.out.1, HWD.out.2.1⟩
  have hbel2 : Below g w w2 := HB1.out.grown HG2.out (by have := blk_lt HR1.out; omega) (fun k e => by injection e with e; omega)
  have HDG := Lib.hid hdg2
  have HBE := Lib.hid hbel2
  clear hdg2 hbel2 HT2 HG2 HR1 HS1 HB1 HSL
  refine (sized_any _ _).mono ?_
  rintro e w3 ⟨rfl, rfl⟩
  rw [show decide (1 ≤ (s : Int) ∧ (s : Int) ≤ 32) = true from by simp; omega]
  obtain ⟨E, hE⟩ : ∃ E, E = w3.heap.size := ⟨_, rfl⟩
  have HEE := Lib.hid hE
  clear hE
  go_wp2_with (refine wpList_alloc_row rfl 54 rfl _ (zero54 _) ?_; rw [← HEE.out]; intro w4 hT4 hS4 hG4; have HT4 := Lib.hid hT4; have HG4 := Lib.hid (below_of_grown hG4); clear hT4 hG4 hS4)
  have hkeep : ∀ (k : Nat) (o : Obj), w3.heap[k]? = some o → w4.heap[k]? = some o ∧ k ≠ E := fun k o h => ⟨blk_below h HG4.out, by have := blk_lt h; have := HEE.out; omega⟩
  have HKE := Lib.hid hkeep
  have HDAT := Lib.hid HDG.out.data
  clear hkeep
  have hgE : g < E := by rw [HEE.out]; exact blk_lt HDG.out.row
  have HDG4 := Lib.hid (HDG.out.below HG4.out)
  have HBE4 := Lib.hid (HBE.out.trans (HG4.out.mono (by have := HEE.out; omega)))
  clear HDG HBE HG4 HEE hc10
  refine region_f 3 (fun i vs W => match i with
      | 0 => vs 0 = .slice (some ⟨E, 0, none⟩) 64 64
      | 1 => vs 1 = .pointer (some ⟨g, 8, none⟩)
      | 2 => vs 2 = .slice A1 r1.length c1
      | _ => True) (fun _ W W' => Below W.heap.size W W') (fun W => Below w4.heap.size w4 W) (by kernel_rfl) (by kernel_rfl) (fun i k vs w w' _ _ h _ => h) ?h0 ?step ?fin
  case h0 => exact (Below.refl _ _).drew
  case step =>
    intro i op hi ho ac W hS hag hdep
    have hbr : Below W.heap.size W W := Below.refl _ _
    match i, hi, ho with
    | 0, _, rfl => exact ow_slice_arr _ 5 54 64 rfl E (hag 3 rfl) Try.underlying54 (by omega) tag5 ⟨_, rfl, fun vs' h _ => h (fun e => by cases e), hbr, hS⟩
    | 1, _, rfl => exact ow_field33 _ 1 8 rfl (by simp) g (hag 1 rfl) ⟨_, rfl, fun vs' h _ => h (fun e => by cases e), hbr, hS⟩
    | 2, _, rfl =>
      have h1' : ac.eval (.tmp 14) = .pointer (some ⟨g, 8, none⟩) := hdep 1 (by omega) (by kernel_rfl)
      exact ow_load_slice' _ 5 24 rfl g 8 h1' _ _ _ (HDG4.out.below hS).c8 Try.underlying24 ⟨_, rfl, fun vs' h _ => h (fun e => by cases e), hbr, hS⟩
    | n + 3, hi, _ => exact absurd hi (by omega)
  case fin =>
    intro vs W hS hF
    have e0 : vs 0 = .slice (some ⟨E, 0, none⟩) 64 64 := hF 0 (by omega)
    have e2 : vs 2 = .slice A1 r1.length c1 := hF 2 (by omega)
    clear hF
    change wpList _ _ _ _ (Act.put (Act.put (Act.put _ (some 13) (vs 0)) (some 14) (vs 1)) (some 15) (vs 2)) W
    rw [e0, e2]
    clear e0 e2
    generalize vs 1 = z1
    simp only [putAll, List.drop_succ_cons, List.drop_zero, Act.put, List.setIfInBounds_toArray, List.set_cons_zero, List.set_cons_succ]
    clear vs
    have hdgW := HDG4.out.below hS
    obtain ⟨w5, hr5, hv5, hg5⟩ := copy_bytes W E (List.replicate 64 0) r1 A1 54 64 64 c1 24 3 Try.underlying24 (blk_below HT4.out hS) hdgW.data (by simp) (by simp; omega)
    have hx5 : r1 ++ (List.replicate 64 (0 : UInt8)).drop r1.length = r1 ++ List.replicate (64 - r1.length) 0 := by rw [List.drop_replicate]
    rw [hx5] at hv5
    have hdg5 : DgAt g h1 n1 (s : Int) (.slice A1 r1.length c1) r1 w5 := ⟨blk_grown hdgW.row hg5 (fun e => by injection e with e; omega), HDAT.out.of_blocks (fun k o h => blk_grown (blk_below (HKE.out k o h).1 hS) hg5 (fun e => by injection e with e; exact (HKE.out k o h).2 e)), hdgW.wds, hdgW.nlt⟩
    have hbe5 : Below g w w5 := (HBE4.out.trans (hS.mono (by have := blk_lt HDG4.out.row; omega))).grown hg5 (by have := blk_lt hdgW.row; omega) (fun k e => by injection e with e; omega)
    have he5 : SB w5 (.slice (some ⟨E, 0, none⟩) 64 64) (r1 ++ List.replicate (64 - r1.length) 0) := by
      have hl : (r1 ++ List.replicate (64 - r1.length) (0 : UInt8)).length = 64 := by simp; omega
      have := SB_of_block hv5 (by omega)
      rwa [hl] at this
    have HDG5 := Lib.hid hdg5
    have HBE5 := Lib.hid hbe5
    have HE5 := Lib.hid he5
    have hE5lt : E < w5.heap.size := blk_lt hv5
    obtain ⟨hf, hhf⟩ : ∃ hf, hf = lastF h1 n1 r1 := ⟨_, rfl⟩
    have HHF := Lib.hid hhf
    clear hdgW hv5 hg5 hx5 hdg5 hbe5 hS he5 HDG4 HBE4 HT4 HKE HDAT hhf
    refine wpList_copy rfl _ _ 24 24 rfl _ _ rfl rfl hr5 ?_
    clear hr5
    go_wp2_with fail
    refine region_f 12 (fun i vs W => match i with
        | 0 => vs 0 = .pointer (some ⟨g, 0, none⟩)
        | 1 => vs 1 = .agg (wordsV h1).toArray
        | 2 => vs 2 = .slice (some ⟨E, 0, none⟩) 64 64
        | 3 => vs 3 = .pointer (some ⟨g, 9, none⟩)
        | 4 => vs 4 = .int .u64 (n1 : Int)
        | 5 => vs 5 = .pointer (some ⟨g, 8, none⟩)
        | 6 => vs 6 = .slice A1 r1.length c1
        | 7 => vs 7 = .int .i64 (r1.length : Int)
        | 8 => vs 8 = .int .u64 (r1.length : Int)
        | 9 => vs 9 = .int .u64 (((n1 + r1.length) % 18446744073709551616 : Nat) : Int)
        | 10 => vs 10 = .agg (wordsV hf).toArray
        | 11 => ∃ p, vs 11 = .pointer (some ⟨p, 0, none⟩) ∧ w5.heap.size ≤ p ∧ W.heap[p]? = some (.cells (wordsV (List.replicate 8 0)).toArray 23 (0, 0))
        | _ => True) (fun _ W W' => Below W.heap.size W W') (fun W => Below w5.heap.size w5 W) (by kernel_rfl) (by kernel_rfl) ?hst6 ?h06 ?step6 ?fin6
    case hst6 =>
      intro i k vs W W' _ _ h hG
      match i, h with
      | 0, h => exact h
      | 1, h => exact h
      | 2, h => exact h
      | 3, h => exact h
      | 4, h => exact h
      | 5, h => exact h
      | 6, h => exact h
      | 7, h => exact h
      | 8, h => exact h
      | 9, h => exact h
      | 10, h => exact h
      | 11, ⟨p, e1, e2, e3⟩ => exact ⟨p, e1, e2, blk_below e3 hG⟩
      | n + 12, _ => trivial
    case h06 => exact (Below.refl _ _).drew
    case step6 =>
      intro i op hi ho ac W hS hag hdep
      have hbr : Below W.heap.size W W := Below.refl _ _
      have hDW := HDG5.out.below hS
      match i, hi, ho with
      | 0, _, rfl => exact ow_field33 _ 0 0 rfl (by simp) g (hag 1 rfl) ⟨_, rfl, fun vs' h _ => h (fun e => by cases e), hbr, hS⟩
      | 1, _, rfl =>
        have h1' : ac.eval (.tmp 17) = .pointer (some ⟨g, 0, none⟩) := hdep 0 (by omega) (by kernel_rfl)
        exact ow_load_words _ rfl g hDW h1' ⟨_, rfl, fun vs' h _ => h (fun e => by cases e), hbr, hS⟩
      | 2, _, rfl => exact ow_slice_arr _ 5 54 64 rfl E (hag 3 rfl) Try.underlying54 (by omega) tag5 ⟨_, rfl, fun vs' h _ => h (fun e => by cases e), hbr, hS⟩
      | 3, _, rfl => exact ow_field33 _ 2 9 rfl (by simp) g (hag 1 rfl) ⟨_, rfl, fun vs' h _ => h (fun e => by cases e), hbr, hS⟩
      | 4, _, rfl =>
        have h1' : ac.eval (.tmp 20) = .pointer (some ⟨g, 9, none⟩) := hdep 3 (by omega) (by kernel_rfl)
        exact ow_load_int _ 25 .u64 rfl g 9 h1' _ hDW.c9 Try.underlying25 ⟨_, rfl, fun vs' h _ => h (fun e => by cases e), hbr, hS⟩
      | 5, _, rfl => exact ow_field33 _ 1 8 rfl (by simp) g (hag 1 rfl) ⟨_, rfl, fun vs' h _ => h (fun e => by cases e), hbr, hS⟩
      | 6, _, rfl =>
        have h1' : ac.eval (.tmp 22) = .pointer (some ⟨g, 8, none⟩) := hdep 5 (by omega) (by kernel_rfl)
        exact ow_load_slice' _ 5 24 rfl g 8 h1' _ _ _ hDW.c8 Try.underlying24 ⟨_, rfl, fun vs' h _ => h (fun e => by cases e), hbr, hS⟩
      | 7, _, rfl =>
        have h1' : ac.eval (.tmp 23) = .slice A1 r1.length c1 := hdep 6 (by omega) (by kernel_rfl)
        exact ow_len _ 24 5 Try.underlying24 rfl h1' ⟨_, rfl, fun vs' h _ => h (fun e => by cases e), hbr, hS⟩
      | 8, _, rfl =>
        have h1' : ac.eval (.tmp 24) = .int .i64 (r1.length : Int) := hdep 7 (by omega) (by kernel_rfl)
        exact ow_conv64 _ r1.length rfl h1' (by omega) ⟨_, rfl, fun vs' h _ => h (fun e => by cases e), hbr, hS⟩
      | 9, _, rfl =>
        have h1' : ac.eval (.tmp 21) = .int .u64 (n1 : Int) := hdep 4 (by omega) (by kernel_rfl)
        have h2' : ac.eval (.tmp 25) = .int .u64 (r1.length : Int) := hdep 8 (by omega) (by kernel_rfl)
        exact ow_add64 _ _ 25 25 n1 r1.length rfl h1' h2' Try.underlying25 ⟨_, rfl, fun vs' h _ => h (fun e => by cases e), hbr, hS⟩
      | 10, _, rfl =>
        have h1' : ac.eval (.tmp 18) = .agg (wordsV h1).toArray := hdep 1 (by omega) (by kernel_rfl)
        have h2' : ac.eval (.tmp 19) = .slice (some ⟨E, 0, none⟩) 64 64 := hdep 2 (by omega) (by kernel_rfl)
        have h3' : ac.eval (.tmp 26) = .int .u64 (((n1 + r1.length) % 18446744073709551616 : Nat) : Int) := hdep 9 (by omega) (by kernel_rfl)
        refine ow_call Try.func18 (by kernel_rfl) rfl _ _ rfl (vs := #[.agg (wordsV h1).toArray, .slice (some ⟨E, 0, none⟩) 64 64, .int .u64 (((n1 + r1.length) % 18446744073709551616 : Nat) : Int), .bool true]) (by simp only [List.map_toArray, List.map_cons, List.map_nil, h1', h2', h3']; rfl) ?_
        refine (mix_any h1 HDG5.out.wds _ (r1 ++ List.replicate (64 - r1.length) 0) _ (Nat.mod_lt _ (by decide)) true W (HE5.out.below hS) (by simp; omega)).mono ?_
        rintro e w' ⟨rfl, hbb⟩
        rw [words_zeros]
        exact ⟨_, rfl, _, rfl, fun vs' h _ => (h (fun e => by cases e)).trans (by rw [HHF.out]; rfl), hbb, hS.trans (hbb.mono hS.size)⟩
      | 11, _, rfl =>
        exact ow_alloc_row 23 rfl _ (zero23 W) (fun w' hn hb => ⟨_, rfl, fun vs' h _ => ⟨_, h (fun e => by cases e), hS.size, hn⟩, hb, hS.trans (hb.mono hS.size)⟩)
      | n + 12, hi, _ => exact absurd hi (by omega)
    case fin6 =>
      intro vs W hS hF
      have e10 : vs 10 = .agg (wordsV hf).toArray := hF 10 (by omega)
      obtain ⟨p, e11, hp1, hp2⟩ := hF 11 (by omega)
      clear hF
      change wpList _ _ _ _ (Act.put (Act.put (Act.put (Act.put (Act.put (Act.put (Act.put (Act.put (Act.put (Act.put (Act.put (Act.put _ (some 17) (vs 0)) (some 18) (vs 1)) (some 19) (vs 2)) (some 20) (vs 3)) (some 21) (vs 4)) (some 22) (vs 5)) (some 23) (vs 6)) (some 24) (vs 7)) (some 25) (vs 8)) (some 26) (vs 9)) (some 27) (vs 10)) (some 4) (vs 11)) W
      rw [e10, e11]
      clear e10 e11
      generalize vs 0 = z0
      generalize vs 1 = z1
      generalize vs 2 = z2
      generalize vs 3 = z3
      generalize vs 4 = z4
      generalize vs 5 = z5
      generalize vs 6 = z6
      generalize vs 7 = z7
      generalize vs 8 = z8
      generalize vs 9 = z9
      simp only [putAll, List.drop_succ_cons, List.drop_zero, Act.put, List.setIfInBounds_toArray, List.set_cons_zero, List.set_cons_succ]
      clear vs
      have hDW := HDG5.out.below hS
      have HDW := Lib.hid hDW
      have HBW := Lib.hid (HBE5.out.trans (hS.mono (by have := blk_lt HDG5.out.row; omega)))
      have hfw : Wds 8 hf := by rw [HHF.out]; exact HDG5.out.wds.mixF _ _ _
      have HFW := Lib.hid hfw
      have hgp : g < p := by have := blk_lt HDG5.out.row; omega
      clear hS hDW hfw HDG5 HBE5 HE5 hE5lt
      go_wp2_with (refine wpList_store_row rfl 23 _ _ rfl p rfl 23 _ _ rfl hp2 (by rw [wordsV_size, wordsV_size, HFW.out.1]; rfl) (by rw [wordsV_size, HFW.out.1]; kernel_rfl) (wordsV_one _) ?_; intro w7 hT7 hS7 hG7; have HT7 := Lib.hid hT7; have HG7 := Lib.hid hG7; have hc10 := (show w7.cell? ⟨g, 10, none⟩ = some (.int .i64 (s : Int)) from (cell_of_row _ _ 10 _ _ _ (blk_grown HDW.out.row hG7 (fun e => by injection e with e; omega))).trans (dgV_sz HWD.out.1.1 _ _ _)); clear hT7 hG7 hS7)
      have hp7 := HT7.out
      have hb7 : Below g w w7 := HBW.out.grown HG7.out (by have := blk_lt HDW.out.row; omega) (fun k e => by injection e with e; omega)
      have hg7 : g < w7.heap.size := by have := blk_lt HT7.out; omega
      obtain ⟨i0, hi0, hz0, hz1, hz2⟩ := info_parts info5
      have HI0 := Lib.hid hi0
      have HZ0 := Lib.hid hz0
      have HZ1 := Lib.hid hz1
      have HZ2 := Lib.hid hz2
      have HB7 := Lib.hid hb7
      clear hi0 hz0 hz1 hz2 hp7 hb7 hc10 HG7 HBW
      go_loopw [5, 30] (fun out i wr => ∃ k : Nat, k ≤ s ∧ i = .int .i64 (k : Int) ∧ wr.ownsRow g 5 1 out k (bytesV (outF hf k)) ∧ wr.heap[p]? = some (.cells (wordsV hf).toArray 23 (0, 0)) ∧ Below g w wr ∧ g < wr.heap.size) (fun _ i _ => s - (intOf i).toNat)
      case atStart => exact ⟨0, by omega, rfl, World.ownsRow_nil _ _ _ _, HT7.out, HB7.out, hg7⟩
      case round =>
        clear HT7 HB7 hg7
        obtain ⟨k, hk, rfl, hown, hp, hb, hgl⟩ := hrel
        have HO := Lib.hid hown
        have HPP := Lib.hid hp
        have HBB := Lib.hid hb
        clear hown hb
        rcases (show k = s ∨ k < s by omega) with rfl | hks
        · clear hp
          go_wp2_with fail
          go_ret
          refine ⟨u5, rfl, ?_, ?_⟩
          · rw [← HE1.out, ← HE2.out, ← HE3.out, ← HHF.out, ← HG.out]; exact HO.out
          · rw [← HG.out]; exact HBB.out
        · have hd : decide ((k : Int) < (s : Int)) = true := by simp; omega
          have hcq := words_cell hp (k / 4) (by rw [HFW.out.1]; omega)
          obtain ⟨q, hq⟩ : ∃ q, q = k / 4 := ⟨_, rfl⟩
          obtain ⟨rr, hrr⟩ : ∃ r, r = k % 4 := ⟨_, rfl⟩
          have hrr4 : rr < 4 := by omega
          have hq8 : q < 8 := by omega
          have hq1 : (k : Int) / 4 = (q : Int) := by omega
          have hq2 : (k : Int) % 4 = (rr : Int) := by omega
          have hxl := getD_lt HFW.out (k / 4)
          have hsuc := outF_succ hf k
          rw [← hq, ← hrr] at hsuc
          rw [← hq] at hcq hxl
          obtain ⟨X, hX⟩ : ∃ X, X = hf.getD q 0 := ⟨_, rfl⟩
          rw [← hX] at hcq hxl hsuc
          have HSUC := Lib.hid hsuc
          have HXL := Lib.hid hxl
          have hk32 : k < 32 := by omega
          clear hq hrr hX hsuc hxl hp
          obtain ⟨bb, hbb⟩ : ∃ b : UInt8, b = UInt8.ofNat (X / 2 ^ (8 * rr)) := ⟨_, rfl⟩
          rw [← hbb] at HSUC
          have HBBB := Lib.hid hbb
          clear hbb
          have e8 : (8 : Int) * (rr : Int) = ((8 * rr : Nat) : Int) := by omega
          have HE8 := Lib.hid e8
          clear e8
          go_wp2_with (first
            | (refine wpList_shr32 rfl _ _ X (8 * rr) rfl rfl (by first | rfl | exact congrArg (Value.int IntKind.i64) HE8.out) (by omega) HXL.out ?_)
            | (refine wpList_conv5 rfl _ _ rfl rfl ?_; rw [← HBBB.out])
            | (at_builtin; refine wpList_append_src _ rfl (.tmp 33) (.tmp 43) 24 rfl g 5 i0 (.int .u8 0) 1 Try.underlying24 HI0.out HZ0.out HZ1.out HZ2.out rfl u5 k (bytesV (outF hf k)) rfl (own_move HO.out (fun _ _ _ h0 => blk_alloc h0 _)) (some ⟨wr.heap.size, 0, none⟩) 1 1 [.int .u8 (bb.toNat : Int)] rfl rfl (by simp) (one_cell (World.alloc_heap_new wr _)) (by intro u hu; rw [List.mem_singleton.1 hu]; rfl) (by unfold maxLen; omega) (by omega) (by simp; omega) ?_; intro v3 w3 hown3 hg3 hat3; have HO3 := Lib.hid hown3; have HG3 := Lib.hid hg3; clear hown3 hg3 hat3))
          go_roundw
          case rel =>
            have hoa : (wr.alloc (.cells #[.int .u8 (bb.toNat : Int)] 5)).ownsRow g 5 1 u5 k (bytesV (outF hf k)) := own_move HO.out (fun _ _ _ h0 => blk_alloc h0 _)
            have hpa := blk_alloc HPP.out (.cells #[.int .u8 (bb.toNat : Int)] 5)
            refine ⟨k + 1, by omega, rfl, ?_, ?_, ?_, ?_⟩
            · rw [HSUC.out, bytesV_append]; exact HO3.out
            · refine blk_grown hpa HG3.out (fun e => ?_)
              rcases own_ne_blk hoa hpa (by decide) with h | h
              · rw [h] at e; cases e
              · exact h e.symm
            · refine (HBB.out.alloc (by omega) _).grown HG3.out (by simp; omega) (fun j e => own_ge hoa j e)
            · have := HG3.out.size; simp at this; omega
          case measure => simp [intOf]; omega
end Go.Proofs.Ytnemclbeofiakaa
