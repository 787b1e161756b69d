/-
  awake: the chapter's examples.
-/
import Derived.Test.YtlhdnloimgckgaaWk
import Derived.Lib.SlBytesConst
import Derived.Lib.SmallJoins
import Derived.Lib.BufferRead
import Derived.Lib.ConvBytes
namespace Go.Proofs.Ytlhdnloimgckgaa
open Go.RowKit Go.Shelf

theorem conv_str (w : World) (v : Value) (bs : List UInt8) (h : SB w v bs) : (convert 25 9 v).run Try.prog w = .ok (.string ⟨bs.toArray⟩) w := by
  obtain ⟨A, c, rfl, h1, _⟩ := h.shape
  cases A with
  | none =>
    have := h1.isNil rfl
    have hb : bs = [] := List.eq_nil_of_length_eq_zero this
    subst hb
    exact Lib.run_convert_nil_bytes w 25 9 5 c Try.underlying25 Try.underlying5 Try.underlying9
  | some ad =>
    refine run_convert_bytes_back w 25 9 5 ad c bs Try.underlying25 Try.underlying5 Try.underlying9 (fun j hj => ?_)
    exact h1.cells ad rfl j _ (by simp [bytesV, hj])

theorem SBB_two {w : World} {g : Nat} {u v : Value} {a b : List UInt8} {t : TypeId} {fr : Nat × Nat} (h : w.heap[g]? = some (.cells #[u, v] t fr)) (hu : SB w u a) (hv : SB w v b) : SBB w (.slice (some ⟨g, 0, none⟩) 2 2) [a, b] := by
  refine ⟨_, _, rfl, Nat.le_refl _, by simp, .inr ⟨g, 0, rfl, fun i hi => ?_⟩⟩
  match i, hi with
  | 0, _ => exact ⟨u, cell_of_row w g _ _ _ _ h, hu⟩
  | 1, _ => exact ⟨v, cell_of_row w g _ _ _ _ h, hv⟩
theorem SBB_one {w : World} {g : Nat} {u : Value} {a : List UInt8} {t : TypeId} {fr : Nat × Nat} (h : w.heap[g]? = some (.cells #[u] t fr)) (hu : SB w u a) : SBB w (.slice (some ⟨g, 0, none⟩) 1 1) [a] := by
  refine ⟨_, _, rfl, Nat.le_refl _, by simp, .inr ⟨g, 0, rfl, fun i hi => ?_⟩⟩
  match i, hi with
  | 0, _ => exact ⟨u, cell_of_row w g _ _ _ _ h, hu⟩
theorem SB.sbk {w : World} {v : Value} {bs : List UInt8} (h : SB w v bs) : SBK w.heap.size w v bs := by
  refine ⟨h, ?_⟩
  intro b o n c e hpos
  obtain ⟨A, c', e1, h1, h2, h3⟩ := h
  rw [e1] at e
  injection e with e2 e3 e4
  subst e3
  rcases h3 with rfl | ⟨b2, o2, e5, hc⟩
  · simp at hpos
  · rw [e2] at e5
    injection e5 with e5; injection e5 with e5 e6
    subst e5
    exact cell_lt (hc 0 hpos)
theorem SB.cap {w : World} {A : Option Addr} {n c : Nat} {bs : List UInt8} (h : SB w (.slice A n c) bs) : n = bs.length ∧ n ≤ c := by
  obtain ⟨A', c', e, h1, _⟩ := h
  injection e with e1 e2 e3
  subst e2; subst e3
  exact ⟨rfl, h1⟩
def ex0 : List (List UInt8) := [[97], [], [98, 99]]

theorem ex0_len : (rowF 0 ex0).length = 27 := by rw [rowF_length]; rfl
theorem ex0_recs : recs (rowF 0 ex0).length 0 (rowF 0 ex0) = ex0 := by
  have h := recs_rowF ex0 (by decide) 0 [] (rowF 0 ex0).length (by simp)
  rw [List.append_nil] at h
  rw [h, recs_no (okRec_short (by simp))]
  simp
theorem ex0_tail : tailOf ex0 = (3, 27, lastS 0 ex0) := by rw [tailOf_eq]; rfl
theorem ex0_drop : recs ((rowF 0 ex0).drop 9).length 0 ((rowF 0 ex0).drop 9) = [] := recs_no (by kernel_rfl) _
theorem ex_a : ((Crc.check ([] : List (List UInt8)).flatten : Nat) : Int) = 0 := by kernel_rfl
theorem ex_b : ((Crc.check [[49, 50, 51, 52], [53, 54, 55, 56, 57]].flatten : Nat) : Int) = 3808858755 := by kernel_rfl
theorem ex_c : ((Crc.check [List.replicate 32 0].flatten : Nat) : Int) = 2324772522 := by kernel_rfl

def z32 : Array Value := (bytesV (List.replicate 32 0)).toArray
theorem make32 (w : World) : (Instr.makeSlice 25 (.int .i64 32) (.int .i64 32)).run Try.prog w = .ok (.slice (some ⟨w.heap.size, 0, none⟩) 32 32) (w.alloc (.cells z32 5)) := by kernel_rfl
theorem z32_eq : z32 = (bytesV (List.replicate 32 0)).toArray := rfl
attribute [irreducible] z32

theorem awake_any (w : World) : Calls Try.prog 10 #[] w fun e w' => e = .returned (.bool true) ∧ Below w.heap.size w w' := by
  have kc := fun (w : World) (C : Array Value) (n c : Nat) => Lib.run_convert_bytes_const (P := Try.prog) w 25 5 C n c Try.underlying25 Try.underlying5
  have kc2 := fun (w : World) (o : Obj) (C : Array Value) (n c : Nat) => Joins.run_convert_bytes_const_at (P := Try.prog) (w.alloc o) 25 5 C n c (w.heap.size + 1) (by simp) Try.underlying25 Try.underlying5
  go_enter Try.func10, Try.ntmps10
  go_wp2_with fail
  have hsbb : SBB (((w.alloc (Obj.cells #[Value.int IntKind.u8 97] 5 (1, 2))).alloc (Obj.cells #[Value.int IntKind.u8 98, Value.int IntKind.u8 99] 5 (2, 3))).alloc (Obj.cells #[Value.slice (some { block := w.heap.size, off := 0 }) 1 1, Value.slice none 0 0, Value.slice (some { block := w.heap.size + 1, off := 0 }) 2 2] 25)) (.slice (some ⟨w.heap.size + 1 + 1, 0, none⟩) 3 3) ex0 := by
    refine SBB_three (alloc_new_at (by simp) _) ?_ ?_ ?_
    · exact (SB_of_block (bs := [97]) (blk_alloc (heap_alloc_new w _) _) (by simp)).below (below_alloc1 _ _)
    · exact ⟨_, _, rfl, Nat.le_refl _, by simp, .inl rfl⟩
    · exact (SB_of_block (bs := [98, 99]) (heap_alloc2_new w _ _) (by simp)).below (below_alloc1 _ _)
  refine (Row_any _ ex0 _ hsbb (by decide)).mono ?_
  have hbel0 : Below w.heap.size w (((w.alloc (Obj.cells #[Value.int IntKind.u8 97] 5 (1, 2))).alloc (Obj.cells #[Value.int IntKind.u8 98, Value.int IntKind.u8 99] 5 (2, 3))).alloc (Obj.cells #[Value.slice (some { block := w.heap.size, off := 0 }) 1 1, Value.slice none 0 0, Value.slice (some { block := w.heap.size + 1, off := 0 }) 2 2] 25)) :=
    (((Below.refl _ _).alloc (Nat.le_refl _) _).alloc (by simp) _).alloc (by simp; omega) _
  rintro e w2 ⟨h, hb2⟩
  obtain ⟨u, rfl, hown⟩ : ∃ u, e = .returned (.tuple #[u, .agg (tvs (tailOf ex0)), .int .i64 0]) ∧ w2.ownsRow (w.heap.size + 3) 5 1 u (rowF 0 ex0).length (bytesV (rowF 0 ex0)) := by
    rcases h with ⟨_, u, h1, h2⟩ | ⟨⟨p, hp, h⟩, _⟩
    · exact ⟨u, h1, by simpa using h2⟩
    · simp [ex0] at hp
      rcases hp with rfl | rfl | rfl <;> simp at h
  have hbel : Below w.heap.size w w2 := hbel0.trans (hb2.mono hbel0.size)
  rw [ex0_tail]
  have hsu := SB_of_own hown (by rw [ex0_len]; omega)
  obtain ⟨Au, cu, rfl, hsu, -⟩ := hsu.shape
  rw [ex0_len] at hsu ⊢
  obtain ⟨S, hS⟩ : ∃ S, S = lastS 0 ex0 := ⟨_, rfl⟩
  rw [← hS]
  have HSU := Lib.hid hsu
  have HB := Lib.hid hbel
  have HS := Lib.hid hS
  simp only [tvs]
  clear h hb2 hsu hbel hS hown hsbb hbel0
  go_wp2_with fail
  obtain ⟨W3, hW3⟩ : ∃ W3, W3 = w2.alloc (Obj.cells #[Value.int IntKind.i64 3, Value.int IntKind.i64 27, Value.int IntKind.u32 ↑S] 30) := ⟨_, rfl⟩
  rw [← hW3]
  have hb3 : Below w2.heap.size w2 W3 := by rw [hW3]; exact below_alloc1 _ _
  have hn3 : W3.heap[w2.heap.size]? = some (.cells #[Value.int IntKind.i64 3, Value.int IntKind.i64 27, Value.int IntKind.u32 ↑S] 30 (0, 0)) := by rw [hW3]; exact World.alloc_heap_new _ _
  clear hW3
  refine (All_any _ (rowF 0 ex0) W3 (HSU.out.below hb3) (by rw [ex0_len]; omega)).mono ?_
  rintro e w4 ⟨u2, rfl, hout, hb4⟩
  rw [ex0_recs] at hout ⊢
  rw [ex0_tail, ← HS.out]
  have hb24 : Below w2.heap.size w2 w4 := hb3.trans (hb4.mono hb3.size)
  obtain ⟨A2, c2, rfl, hs2, -⟩ := (hout.sbb (by decide) (by decide)).shape
  obtain ⟨b6, o6, A6, c6, rfl, h6, hs6, -⟩ := hs2.at_ 2 (by decide)
  have hsu4 := HSU.out.below hb24
  have hn4 := blk_below hn3 hb4
  have h64 : ([97, 98, 99] : List UInt8).length = 3 := rfl
  have e3 : ex0.length = 3 := rfl
  have e2 : ex0[2] = [98, 99] := rfl
  rw [e2] at h6 hs6
  rw [e3] at hs2 ⊢
  obtain ⟨b5, o5, hA5, -⟩ := SB.at_ (bs := rowF 0 ex0) (w := w4) (A := Au) (c := cu) (by rw [ex0_len]; exact hsu4) 0 (by rw [ex0_len]; omega)
  subst hA5
  simp only [tv, tailV]
  have c0 : w4.cell? ⟨w2.heap.size, 0, none⟩ = some (.int .i64 3) := cell_of_row w4 _ _ _ _ _ hn4
  have c1 : w4.cell? ⟨w2.heap.size, 1, none⟩ = some (.int .i64 27) := cell_of_row w4 _ _ _ _ _ hn4
  have c2' : w4.cell? ⟨w2.heap.size, 2, none⟩ = some (.int .u32 (S : Int)) := cell_of_row w4 _ _ _ _ _ hn4
  have HB4 := Lib.hid (HB.out.trans (hb24.mono HB.out.size))
  have HSU4 := Lib.hid hsu4
  have HN4 := Lib.hid hn4
  have HS6 := Lib.hid hs6
  have h6lt := cell_lt h6
  have h2lt : w2.heap.size < w4.heap.size := blk_lt hn4
  clear hsu4 hn4 hs6 hs2 hout hb3 hb4 hb24 hn3 HSU HB h64 e3 e2
  have hcu : 27 ≤ cu := HSU4.out.cap.2
  have hcu9 : ¬ cu = 9 := by omega
  go_wp2_with fail
  obtain ⟨W5, hW5⟩ : ∃ W5, W5 = w4.alloc (Obj.cells #[Value.int IntKind.i64 3, Value.int IntKind.i64 27, Value.int IntKind.u32 ↑S] 30) := ⟨_, rfl⟩
  rw [← hW5]
  have hb5 : Below w4.heap.size w4 W5 := by rw [hW5]; exact below_alloc1 _ _
  clear hW5
  have hpart : SB W5 (.slice (some ⟨b5, o5 + 9, none⟩) 18 (cu - 9)) ((rowF 0 ex0).drop 9) := by
    have h := ((HSU4.out.below hb5).sbk.part 9 18 (cu - 9) (by omega) (by omega)).1
    rwa [List.take_of_length_le (by rw [List.length_drop, ex0_len]; omega)] at h
  refine (All_any _ _ W5 hpart (by rw [List.length_drop, ex0_len]; omega)).mono ?_
  rintro e w6 ⟨u7, rfl, hout, hb6⟩
  rw [ex0_drop] at hout ⊢
  have hb46 : Below w4.heap.size w4 w6 := hb5.trans (hb6.mono hb5.size)
  obtain ⟨A7, c7, rfl, hs7, -⟩ := (hout.sbb (by decide) (by simp)).shape
  simp only [tv, tailV, tailOf, List.foldl_nil, List.length_nil]
  have HB6 := Lib.hid (HB4.out.trans (hb46.mono HB4.out.size))
  have c0 := cell_below hb46 c0
  have c1 := cell_below hb46 c1
  have h6 := cell_below hb46 h6
  have HS6 := Lib.hid (HS6.out.below hb46)
  have h26 : w2.heap.size < w6.heap.size := by have := hb46.size; omega
  clear hb5 hpart hout hb6 hb46 hs7 HB4 HSU4 HN4 h2lt h6lt hcu hcu9 c2'
  go_wp2_with fail
  obtain ⟨W7, hW7⟩ : ∃ W7, W7 = w6.alloc (Obj.cells #[Value.int IntKind.i64 0, Value.int IntKind.i64 0, Value.int IntKind.u32 0] 30) := ⟨_, rfl⟩
  rw [← hW7]
  have hb7 : Below w6.heap.size w6 W7 := by rw [hW7]; exact below_alloc1 _ _
  have hn7 : W7.heap[w6.heap.size]? = some (.cells #[Value.int IntKind.i64 0, Value.int IntKind.i64 0, Value.int IntKind.u32 0] 30 (0, 0)) := by rw [hW7]; exact World.alloc_heap_new _ _
  clear hW7
  refine (Check_any _ [] W7 ⟨_, _, rfl, Nat.le_refl _, by simp, .inl rfl⟩).mono ?_
  rintro e w8 ⟨rfl, hb8⟩
  rw [ex_a]
  have hb68 : Below w6.heap.size w6 w8 := hb7.trans (hb8.mono hb7.size)
  have hn8 := blk_below hn7 hb8
  have HB8 := Lib.hid (HB6.out.trans (hb68.mono HB6.out.size))
  have c0 := cell_below hb68 c0
  have c1 := cell_below hb68 c1
  have h6 := cell_below hb68 h6
  have HS6 := Lib.hid (HS6.out.below hb68)
  have HN8 := Lib.hid hn8
  have h6lt : w6.heap.size < w8.heap.size := blk_lt hn8
  have h2lt : w2.heap.size < w8.heap.size := by omega
  clear hb68 hn8 hb7 hb8 hn7 HB6 h26
  go_wp2_with fail
  obtain ⟨W9, hW9⟩ : ∃ W9, W9 = (((w8.alloc (Obj.cells #[Value.int IntKind.u8 49, Value.int IntKind.u8 50, Value.int IntKind.u8 51, Value.int IntKind.u8 52] 5 (4, 5))).alloc (Obj.cells #[Value.int IntKind.u8 53, Value.int IntKind.u8 54, Value.int IntKind.u8 55, Value.int IntKind.u8 56, Value.int IntKind.u8 57] 5 (5, 6))).alloc
      (Obj.cells #[Value.slice (some { block := w8.heap.size, off := 0 }) 4 4, Value.slice (some { block := w8.heap.size + 1, off := 0 }) 5 5] 25)) := ⟨_, rfl⟩
  rw [← hW9]
  have hb9 : Below w8.heap.size w8 W9 := by rw [hW9]; exact (((Below.refl _ _).alloc (Nat.le_refl _) _).alloc (by simp) _).alloc (by simp; omega) _
  have hs9 : SBB W9 (.slice (some ⟨w8.heap.size + 1 + 1, 0, none⟩) 2 2) [[49, 50, 51, 52], [53, 54, 55, 56, 57]] := by
    rw [hW9]
    refine SBB_two (alloc_new_at (by simp) _) ?_ ?_
    · exact (SB_of_block (bs := [49, 50, 51, 52]) (blk_alloc (heap_alloc_new w8 _) _) (by simp)).below (below_alloc1 _ _)
    · exact (SB_of_block (bs := [53, 54, 55, 56, 57]) (heap_alloc2_new w8 _ _) (by simp)).below (below_alloc1 _ _)
  clear hW9
  refine (Check_any _ _ W9 hs9).mono ?_
  rintro e w10 ⟨rfl, hb10⟩
  rw [ex_b]
  have hb8 : Below w8.heap.size w8 w10 := hb9.trans (hb10.mono hb9.size)
  have HB10 := Lib.hid (HB8.out.trans (hb8.mono HB8.out.size))
  have c0 := cell_below hb8 c0
  have c1 := cell_below hb8 c1
  have h6 := cell_below hb8 h6
  have HS6 := Lib.hid (HS6.out.below hb8)
  have HN10 := Lib.hid (blk_below HN8.out hb8)
  have h6lt : w6.heap.size < w10.heap.size := by have := hb8.size; omega
  have h2lt : w2.heap.size < w10.heap.size := by have := hb8.size; omega
  clear hb8 hb9 hs9 hb10 HB8 HN8
  have km := make32
  go_wp2_with fail
  obtain ⟨W11, hW11⟩ : ∃ W11, W11 = (w10.alloc (Obj.cells z32 5)).alloc (Obj.cells #[Value.slice (some { block := w10.heap.size, off := 0 }) 32 32] 25) := ⟨_, rfl⟩
  rw [← hW11]
  have hb11 : Below w10.heap.size w10 W11 := by rw [hW11]; exact ((Below.refl _ _).alloc (Nat.le_refl _) _).alloc (by simp) _
  have hs11 : SBB W11 (.slice (some ⟨w10.heap.size + 1, 0, none⟩) 1 1) [List.replicate 32 0] := by
    rw [hW11]
    refine SBB_one (alloc_new_at (by simp) _) ?_
    have h1 := heap_alloc_new w10 (Obj.cells z32 5)
    rw [z32_eq] at h1
    have h2 := (SB_of_block (bs := List.replicate 32 0) h1 (by simp)).below (below_alloc1 _ (Obj.cells #[Value.slice (some { block := w10.heap.size, off := 0 }) 32 32] 25))
    rw [z32_eq]
    exact h2
  clear hW11
  refine (Check_any _ _ W11 hs11).mono ?_
  rintro e w12 ⟨rfl, hb12⟩
  rw [ex_c]
  have hb1012 : Below w10.heap.size w10 w12 := hb11.trans (hb12.mono hb11.size)
  have HB12 := Lib.hid (HB10.out.trans (hb1012.mono HB10.out.size))
  have c0 := cell_below hb1012 c0
  have c1 := cell_below hb1012 c1
  have h6 := cell_below hb1012 h6
  have HS6 := Lib.hid (HS6.out.below hb1012)
  have hn12 := blk_below HN10.out hb1012
  have d0 : w12.cell? ⟨w6.heap.size, 0, none⟩ = some (.int .i64 0) := cell_of_row w12 _ _ _ _ _ hn12
  have d1 : w12.cell? ⟨w6.heap.size, 1, none⟩ = some (.int .i64 0) := cell_of_row w12 _ _ _ _ _ hn12
  have d2 : w12.cell? ⟨w6.heap.size, 2, none⟩ = some (.int .u32 0) := cell_of_row w12 _ _ _ _ _ hn12
  have h98 : ([98, 99] : List UInt8).length = 2 := rfl
  rw [h98] at h6 HS6
  have kstr := conv_str w12 (.slice A6 2 c6) [98, 99] HS6.out
  clear hb11 hs11 hb12 hb1012 HB10 HN10 hn12 h6lt h2lt km HS6
  go_wp2_with fail
  refine (Size_any _ 2 2 (by omega) _).mono ?_
  rintro e w13 ⟨rfl, rfl⟩
  have h28 : ((8 + 2 : Nat) : Int) = 10 := rfl
  rw [h28]
  go_wp2
  go_ret
  exact ⟨rfl, HB12.out.alloc HB12.out.size _⟩
end Go.Proofs.Ytlhdnloimgckgaa
